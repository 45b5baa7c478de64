/- Contracts of prog.bound, prog.Check. -/
import Derived.Test.YtoohconipcleiaaMC
import Derived.Test.YtoohconipcleiaaMG
import Derived.Test.YtoohconipcleiaaMD
import Derived.IntWalk
import Derived.Deep.DeepCutAuto
namespace Go.Proofs.Ytoohconipcleiaa
open Go.RowKit

set_option maxHeartbeats 1000000 in
theorem bound_any (k : Int) (w : World) : Calls Try.prog 76 #[.int .i64 k] w fun r w' => r = .returned (.int .i64 (boundK k)) ∧ Below w.heap.size w w' := by
  rcases (by omega : k = 1 ∨ k = 2 ∨ k = 3 ∨ k = 4 ∨ k = 5 ∨ k = 6 ∨ k = 7 ∨ k = 8 ∨ k = 9 ∨ (k < 1 ∨ 9 < k)) with rfl | rfl | rfl | rfl | rfl | rfl | rfl | rfl | rfl | hk
  case inr.inr.inr.inr.inr.inr.inr.inr.inr =>
    have hb : boundK k = -1 := by unfold boundK; rw [if_neg (by omega), if_neg (by omega), if_neg (by omega), if_neg (by omega), if_neg (by omega)]
    have HB := Lib.hid hb
    clear hb
    obtain ⟨q1, r1⟩ : ∃ q, decide (k < 1) = q := ⟨_, rfl⟩
    obtain ⟨q2, r2⟩ : ∃ q, decide (k ≥ 10) = q := ⟨_, rfl⟩
    have r3 : decide (10 ≤ k) = q2 := r2
    have hqq : q1 = true ∨ q2 = true := by
      rw [← r1, ← r2, decide_eq_true_eq, decide_eq_true_eq]
      omega
    clear hk
    cases q1
    · obtain rfl : q2 = true := by simpa using hqq
      clear hqq
      go_enter Try.func76, Try.ntmps76
      go_wp2
      go_ret
      rw [HB.out]
      exact ⟨rfl, (Below.refl _ _).alloc (Nat.le_refl _) _⟩
    · clear hqq
      go_enter Try.func76, Try.ntmps76
      go_wp2
      go_ret
      rw [HB.out]
      exact ⟨rfl, (Below.refl _ _).alloc (Nat.le_refl _) _⟩
  all_goals
    go_enter Try.func76, Try.ntmps76
    go_wp2
    go_ret
    exact ⟨rfl, (Below.refl _ _).alloc (Nat.le_refl _) _⟩
theorem any_take_succ {α : Type} {f : α → Bool} {l : List α} {k : Nat} (h : k < l.length) : (l.take (k + 1)).any f = ((l.take k).any f || f l[k]) := by
  rw [List.take_add_one, List.getElem?_eq_getElem h, Option.toList_some, List.any_append]
  simp
theorem any_of_at {α : Type} {f : α → Bool} {l : List α} {k : Nat} (h : k < l.length) (hf : f l[k] = true) : l.any f = true := List.any_eq_true.2 ⟨_, List.getElem_mem h, hf⟩
set_option maxRecDepth 100000 in
set_option maxHeartbeats 8000000 in
theorem checkP_any (p : List (List Ev)) (a : Option Addr) (c : Nat) (w : World) (h : PgS w a p) :
    Calls Try.prog 44 #[.slice a p.length c] w fun r w' => r = .returned (.int .i64 (chkP p)) ∧ Below w.heap.size w w' := by
  have hbig := h.big
  by_cases hl : p.length < 1 ∨ 6 < p.length
  · have HC := Lib.hid (show chkP p = 2 by unfold chkP; rw [if_pos hl])
    obtain ⟨q1, r1⟩ : ∃ q, decide (p.length < 1) = q := ⟨_, rfl⟩
    obtain ⟨q2, r2⟩ : ∃ q, decide (6 < p.length) = q := ⟨_, rfl⟩
    have r3 : decide ((p.length : Int) < 1) = q1 := by rw [← r1]; exact decide_eq_decide.2 (by omega)
    have r4 : decide ((p.length : Int) > 6) = q2 := by rw [← r2]; exact decide_eq_decide.2 (by omega)
    have r5 : decide (p.length = 0) = q1 := by rw [← r1]; exact decide_eq_decide.2 (by omega)
    have r6 : decide (p = []) = q1 := by rw [← r1]; exact decide_eq_decide.2 (by rw [← List.length_eq_zero_iff]; omega)
    have hqq : q1 = true ∨ q2 = true := by
      rw [← r1, ← r2, decide_eq_true_eq, decide_eq_true_eq]
      exact hl
    clear hl
    cases q1
    · obtain rfl : q2 = true := by simpa using hqq
      clear hqq
      go_enter Try.func44, Try.ntmps44
      go_wp2
      go_ret
      rw [HC.out]
      exact ⟨rfl, Below.refl _ _⟩
    · clear hqq
      go_enter Try.func44, Try.ntmps44
      go_wp2
      go_ret
      rw [HC.out]
      exact ⟨rfl, Below.refl _ _⟩
  · have r3 : decide ((p.length : Int) < 1) = false := decide_eq_false (by omega)
    have r4 : decide ((p.length : Int) > 6) = false := decide_eq_false (by omega)
    have r5 : decide (6 < p.length) = false := decide_eq_false (by omega)
    have r6 : decide (p = []) = false := decide_eq_false (fun e => by subst e; simp at hl)
    have r7 : decide (p.length < 1) = false := decide_eq_false (by omega)
    have hp6 : p.length ≤ 6 := by omega
    have HCK := Lib.hid (show chkP p = if (p.any fun z => decide (12 < z.length)) = true then 2 else if (p.any fun z => z.any badOp) = true then 1 else 0 by unfold chkP; rw [if_neg hl])
    have hI := Below.refl w.heap.size w
    clear hl
    go_enter Try.func44, Try.ntmps44
    go_wp2
    go_loopw [20] (fun i wr => ∃ k : Nat, k ≤ p.length ∧ i = .int .i64 k ∧ Hid ((p.take k).any (fun z => decide (12 < z.length)) = false) ∧ Below w.heap.size w wr) (fun i _ => p.length - (intOf i).toNat)
    case atStart => exact ⟨0, Nat.zero_le _, rfl, Lib.hid rfl, hI⟩
    case round =>
      clear hI r3 r4 r5 r6 r7
      obtain ⟨k, hk, rfl, HN, hb⟩ := hrel
      by_cases hlt : k < p.length
      · obtain ⟨b, o, a1, c1, rfl, d0, hz⟩ := (h.below hb).at hlt
        have hs := any_take_succ (f := fun z : List Ev => decide (12 < z.length)) hlt
        have ha := any_of_at (f := fun z : List Ev => decide (12 < z.length)) hlt
        generalize p[k] = z at *
        have HS := Lib.hid hs
        have HA := Lib.hid ha
        have k0 : (0 : Int) ≤ k := by omega
        have k1 : (k : Int) < p.length := by omega
        clear hs ha
        by_cases c12 : 12 < z.length
        · have e1 : decide (12 < z.length) = true := decide_eq_true c12
          have e2 : decide ((12 : Int) < (z.length : Int)) = true := decide_eq_true (by omega)
          have HR := Lib.hid (show chkP p = 2 by rw [HCK.out, if_pos (HA.out e1)])
          go_wp2
          go_ret
          rw [HR.out]
          exact ⟨rfl, hb⟩
        · have e1 : decide (12 < z.length) = false := decide_eq_false c12
          have e2 : decide ((12 : Int) < (z.length : Int)) = false := decide_eq_false (by omega)
          have HR := Lib.hid (show (p.take (k + 1)).any (fun z => decide (12 < z.length)) = false by rw [HS.out, HN.out, e1]; rfl)
          clear HS HA HN c12
          go_wp2
          go_roundw
          case rel => exact ⟨k + 1, by omega, by go_num, HR, hb⟩
          case measure => (simp [intOf]; try omega)
      · obtain rfl : k = p.length := by omega
        have h12 : (p.any fun z => decide (12 < z.length)) = false := by have := HN.out; rwa [List.take_length] at this
        have HCK2 := Lib.hid (show chkP p = if (p.any fun z => z.any badOp) = true then 1 else 0 by rw [HCK.out, h12]; rfl)
        have hall : ∀ k (hk : k < p.length), p[k].length ≤ 12 := fun k hk => by
          by_cases c : p[k].length ≤ 12
          · exact c
          · rw [any_of_at (f := fun z : List Ev => decide (12 < z.length)) hk (decide_eq_true (by omega))] at h12
            cases h12
        have HALL := Lib.hid hall
        clear h12 hall HCK HN hlt hk
        go_wp2
        go_loopw [30] (fun i wr => ∃ k : Nat, k ≤ p.length ∧ i = .int .i64 k ∧ Hid ((p.take k).any (fun z => z.any badOp) = false) ∧ Below w.heap.size w wr) (fun i _ => p.length - (intOf i).toNat)
        case atStart => exact ⟨0, Nat.zero_le _, rfl, Lib.hid rfl, hb⟩
        case round =>
          clear hb
          obtain ⟨k, hk, rfl, HN, hb⟩ := hrel
          by_cases hlt : k < p.length
          · obtain ⟨b, o, a1, c1, rfl, d0, hz⟩ := (h.below hb).at hlt
            have hs := any_take_succ (f := fun z : List Ev => z.any badOp) hlt
            have ha := any_of_at (f := fun z : List Ev => z.any badOp) hlt
            have hzl := HALL.out k hlt
            generalize p[k] = z at *
            have HS := Lib.hid hs
            have HA := Lib.hid ha
            have k0 : (0 : Int) ≤ k := by omega
            have k1 : (k : Int) < p.length := by omega
            clear hs ha
            generalize wr = w3 at *
            have hI := Below.refl w3.heap.size w3
            go_wp2
            go_loopw [36] (fun i wr => ∃ m : Nat, m ≤ z.length ∧ i = .int .i64 m ∧ Hid ((z.take m).any badOp = false) ∧ Below w3.heap.size w3 wr) (fun i _ => z.length - (intOf i).toNat)
            case atStart => exact ⟨0, Nat.zero_le _, rfl, Lib.hid rfl, hI⟩
            case round =>
              clear hI d0
              obtain ⟨m, hm, rfl, HM, hb3⟩ := hrel
              have hb4 := hb.trans (hb3.mono hb.size)
              by_cases hmt : m < z.length
              · obtain ⟨g, q, rfl, e0, e1, e2⟩ := (hz.below hb3).at hmt
                have hs2 := any_take_succ (f := badOp) hmt
                have ha2 := any_of_at (f := badOp) hmt
                generalize z[m] = x at *
                have HS2 := Lib.hid hs2
                have HA2 := Lib.hid ha2
                have hN := Has.new wr (evC x) 40
                have hb5 := hb3.alloc hb3.size (.cells (evC x) 40)
                have hb6 := hb4.alloc hb4.size (.cells (evC x) 40)
                have m0 : (0 : Int) ≤ m := by omega
                have m1 : (m : Int) < z.length := by omega
                obtain ⟨M, hM⟩ : ∃ M, mostK x.k = M := ⟨_, rfl⟩
                obtain ⟨B, hB⟩ : ∃ B, boundK x.k = B := ⟨_, rfl⟩
                obtain ⟨q1, r1⟩ : ∃ q, decide (x.t < 0) = q := ⟨_, rfl⟩
                obtain ⟨q2, r2⟩ : ∃ q, decide (x.t ≥ B) = q := ⟨_, rfl⟩
                obtain ⟨q3, r3⟩ : ∃ q, decide (x.o < -M) = q := ⟨_, rfl⟩
                obtain ⟨q4, r4⟩ : ∃ q, decide (x.o > M) = q := ⟨_, rfl⟩
                have hbad : badOp x = (q1 || q2 || q3 || q4) := by unfold badOp; rw [hM, hB, r1, r2, r3, r4]
                have HBAD := Lib.hid hbad
                have HBD := Lib.hid hB
                have HM2 := Lib.hid hM
                have r2' : decide (B ≤ x.t) = q2 := r2
                have r4' : decide (M < x.o) = q4 := r4
                clear hs2 ha2 hb3 hb4 hbad hB hM
                go_upto_region 15 with fail
                clear e0 e1 e2
                generalize wr.alloc (.cells (evC x) 40) = w4 at *
                have y0 : w4.cell? ⟨wr.heap.size, 0, none⟩ = some (.int .i64 x.k) := hN.cell rfl
                obtain ⟨x0, x1, x2⟩ : (∀ p : Beyond w4, p.to.cell? ⟨wr.heap.size, 0, none⟩ = some (.int .i64 x.k)) ∧ (∀ p : Beyond w4, p.to.cell? ⟨wr.heap.size, 1, none⟩ = some (.int .i64 x.t)) ∧ (∀ p : Beyond w4, p.to.cell? ⟨wr.heap.size, 2, none⟩ = some (.int .i64 x.o)) := ⟨fun p => p.cell (hN.cell rfl), fun p => p.cell (hN.cell rfl), fun p => p.cell (hN.cell rfl)⟩
                have hbc := fun p : Beyond w4 => beyond_of (bound_any x.k p.to)
                rw [HBD.out] at hbc
                have HC2 := Lib.hid hbc
                clear hbc hN
                by_cases k3 : x.k = 3
                all_goals
                  have hk3 : (x.k == 3) = _ := (by first | exact (beq_iff_eq.2 k3) | exact (beq_eq_false_iff_ne.2 k3))
                  have hMM : M = _ := (by first | exact (HM2.out.symm.trans (if_pos k3)) | exact (HM2.out.symm.trans (if_neg k3)))
                  subst hMM
                  clear k3
                  have hw1 : IntKind.i64.wrap (-1000) = -1000 := by decide
                  have hw2 : IntKind.i64.wrap 0 = 0 := by decide
                  try rw [show -(0 : Int) = 0 from rfl] at r3
                  cases q1
                  all_goals
                    cases q2
                    all_goals
                      cases q3
                      all_goals
                        cases q4
                        all_goals
                          go_upto_region 18 with fail
                          clear y0
                          refine wp_region_beyond (by kernel_rfl) (by kernel_rfl) ?_
                          repeat (with_reducible refine wpQuiet_step (fun K hK => ?_); go_simp; first | (with_reducible refine hK _ ?_) | (refine ⟨_, HC2.out, ?_⟩; with_reducible refine hK _ ?_); clear hK K)
                          with_reducible refine wpQuiet_nil ?_
                          rintro _ ⟨p9, rfl⟩
                          have hb7 := hb5.trans (p9.below.mono hb5.size)
                          have hb8 := hb6.trans (p9.below.mono hb6.size)
                          clear x0 x1 x2 HC2
                          generalize p9.to = w9 at *
                          first | (have HR := Lib.hid (show chkP p = 1 by rw [HCK2.out, if_pos (HA.out (HA2.out HBAD.out))]); go_wp2; go_ret; rw [HR.out]; exact ⟨rfl, hb8⟩) | (have HR := Lib.hid (show (z.take (m + 1)).any badOp = false by rw [HS2.out, HM.out, HBAD.out]; rfl); go_wp2; go_roundw; (case rel => exact ⟨m + 1, by omega, by go_num, HR, hb7⟩); (case measure => (simp [intOf]; try omega)))
              · obtain rfl : m = z.length := by omega
                have HR := Lib.hid (show (p.take (k + 1)).any (fun z => z.any badOp) = false by
                  have h1 := HM.out
                  rw [List.take_length] at h1
                  rw [HS.out, HN.out, h1]; rfl)
                go_wp2
                go_roundw
                case rel => exact ⟨k + 1, by omega, by go_num, HR, hb4⟩
                case measure => (simp [intOf]; try omega)
          · obtain rfl : k = p.length := by omega
            have HR := Lib.hid (show chkP p = 0 by
              have h1 := HN.out
              rw [List.take_length] at h1
              rw [HCK2.out, h1]; rfl)
            go_wp2
            go_ret
            rw [HR.out]
            exact ⟨rfl, hb⟩
end Go.Proofs.Ytoohconipcleiaa

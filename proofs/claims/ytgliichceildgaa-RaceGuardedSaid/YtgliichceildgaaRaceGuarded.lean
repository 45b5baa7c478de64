/- RaceGuarded: accesses of a variable under one common lock never race: for every trace and lock. -/
import Derived.Test.YtgliichceildgaaRows
import Derived.Test.YtgliichceildgaaRacB
import Derived.Test.YtgliichceildgaaRest
import Derived.Test.YtgliichceildgaaGrd
import Derived.Test.YtgliichceildgaaOpenE
import Derived.Deep.DeepCutAuto
import Derived.Deep.RegionHeld3
namespace Go.Proofs.Ytgliichceildgaa
open Go.ChangeShapes Go.WideShapes Go.ChangeAt Go.RowKit

theorem all_m (l : List Ev) (n : Nat) (hn : l.length = n) (a : Option Addr) (c : Nat) (w : World) (h : EvS w a l) (he : (played l).2.2 = 0) :
    Calls Try.prog 16 #[.slice a n c] w (RacPost (raceL l) w) := by
  subst hn; exact all_ok l a c w h he
theorem held_m (l : List Ev) (n : Nat) (hn : l.length = n) (a : Option Addr) (c : Nat) (t : Int) (w : World) (h : EvS w a l) :
    Calls Try.prog 21 #[.slice a n c, .int .i64 t] w fun r w' => r = .returned (.tuple #[.int .i64 (heldV l t).1, .int .i64 (heldV l t).2]) ∧ Below w.heap.size w w' := by
  subst hn; exact held_any l a c t w h

set_option maxRecDepth 100000 in
set_option maxHeartbeats 8000000 in
theorem raceGuarded_walk (a : Option Addr) (z : List Ev) (c : Nat) (n : Int) (w : World) (hf : EvS w a z ∧ z.length ≤ c ∧ z.length * 24 ≤ 140737488351232 ∧ ∀ e ∈ z, I64 e.k ∧ I64 e.t ∧ I64 e.o) (_ : I64 n) :
    Calls Try.prog 6 #[.slice a z.length c, .int .i64 n] w fun e w' => e = .returned (.bool true) ∧ Below w.heap.size w w' := by
  obtain ⟨h, hzc, hz24, _⟩ := hf
  obtain ⟨i0, hi, hz0, hz1, hz2⟩ := info_parts infoE
  have hm0 := Int.emod_nonneg n (show (5 : Int) ≠ 0 by omega)
  have hm1 := Int.emod_lt_of_pos n (show (0 : Int) < 5 by omega)
  obtain ⟨K, hK⟩ := Int.eq_ofNat_of_zero_le hm0
  have hK5 : K < 5 := by omega
  go_enter Try.func6, Try.ntmps6
  go_wp2_with fail
  refine (raced_any _).mono ?_
  rintro r w1 ⟨rfl, hb⟩
  replace h := h.below hb
  go_wp2_with fail
  refine (rest_any n 5 _ (by omega) (by omega)).mono ?_
  rintro r w2 ⟨rfl, hw⟩
  rw [hw]
  clear hw
  rw [hK]
  clear hm0 hm1 hK
  go_wp2
  go_loopw [5, 18] (fun v i wr => ∃ k : Nat, k ≤ z.length ∧ i = .int .i64 k ∧ wr.ownsRow w1.heap.size 34 3 v (gL z K k).length (evL (gL z K k)) ∧ Below w1.heap.size w1 wr) (fun _ i _ => z.length - (intOf i).toNat)
  case atStart => exact ⟨0, Nat.zero_le _, rfl, World.ownsRow_nil _ _ _ _, Below.refl _ _⟩
  case round =>
    obtain ⟨k, hk, rfl, hv, hb4⟩ := hrel
    by_cases hlt : k < z.length
    · obtain ⟨b', o', rfl, d0, d1, d2⟩ := (h.below hb4).at hlt
      rw [← evAt_lt hlt] at d0 d1 d2
      have y1 := gL_yes (l := z) (k := K) (n := k)
      have n1 := gL_no (l := z) (k := K) (n := k)
      have hlen : (z.take k).length = k := by simp; omega
      have l1 := gL_len z K k
      have hsb : stayB z K k = (decide ((evAt z k).k > 2) || ((heldV (z.take k) (evAt z k).t).2 == 0 && ownB (played (z.take k)).1 (evAt z k).t K)) := rfl
      have hset : (heldV (z.take k) (evAt z k).t).2 = 0 → (heldV (z.take k) (evAt z k).t).1 = ((setN (ownB (played (z.take k)).1 (evAt z k).t) 5 : Nat) : Int) := heldV_ok
      generalize hPP : heldV (z.take k) (evAt z k).t = P at *
      obtain ⟨P1, P2⟩ := P
      generalize ownB (played (z.take k)).1 (evAt z k).t = own at *
      have HPP := Lib.hid hPP
      rw [hsb] at y1 n1
      clear hPP hsb
      simp only at y1 n1 hset
      generalize evAt z k = x at *
      have Y1 := Lib.hid y1
      have N1 := Lib.hid n1
      have HSET := Lib.hid hset
      clear y1 n1 hset
      have hN := Has.new wr (evC x) 34
      have hv1 := hv.alloc (.cells (evC x) 34)
      have hb5 := hb4.alloc hb4.size (.cells (evC x) 34)
      have hs5 := hb4.size
      have hvlt : ∀ q, u5.ownBlock = some q → q < wr.heap.size := fun q hq => (hv.lt q hq).2
      clear hv hb4
      by_cases hk2 : x.k > 2
      · have hkd : decide (x.k > 2) = true := decide_eq_true hk2
        have HR1 := Lib.hid (Y1.out (by simp [hkd]))
        clear Y1 N1 HSET HPP hk2
        have hT := Has.new (wr.alloc (.cells (evC x) 34)) (evC x) 34
        rw [World.size_alloc] at hT
        have hb6 := hb5.alloc (by have := hb5.size; simp at this ⊢; omega) (.cells (evC x) 34)
        obtain ⟨x0, x1, x2⟩ : (wr.alloc (.cells (evC x) 34)).cell? ⟨wr.heap.size, 0, none⟩ = some (.int .i64 x.k) ∧ (wr.alloc (.cells (evC x) 34)).cell? ⟨wr.heap.size, 1, none⟩ = some (.int .i64 x.t) ∧ (wr.alloc (.cells (evC x) 34)).cell? ⟨wr.heap.size, 2, none⟩ = some (.int .i64 x.o) := ⟨hN.cell rfl, hN.cell rfl, hN.cell rfl⟩
        go_wp2_with (at_builtin; refine app_list _ rfl (.tmp 26) (.tmp 28) 22 rfl Try.underlying22 hi hz0 hz1 hz2 rfl (by decide) rfl (hv1.alloc _) rfl (news := evL [x]) ⟨rfl, .inr ⟨_, rfl, fun j u hu => hT.cell_add (by simpa [evL] using hu)⟩⟩ (by intro q hq; simp [evL] at hq; rcases hq with rfl | rfl | rfl <;> rfl) ?c3 ?c4 ?c5 ?_)
        case c3 => unfold maxLen; omega
        case c4 => omega
        case c5 => have := hb6.size; simp at this ⊢; omega
        intro v6 w6 hAp
        have hb7 := hAp.below (hv1.alloc _) hb6 (by have := hb6.size; simp at this ⊢; omega)
        have hv6 : w6.ownsRow w1.heap.size 34 3 v6 (gL z K (k + 1)).length (evL (gL z K (k + 1))) := by
          have := hAp.own
          rw [HR1.out, evL_append _ [x], List.length_append]
          exact this
        clear hAp hT hb6 x0 x1 x2 hN hv1 hb5
        go_wp2
        go_roundw
        case rel => exact ⟨k + 1, by omega, by go_num, hv6, hb7⟩
        case measure => (simp [intOf]; try omega)
      · have hkd : decide (x.k > 2) = false := decide_eq_false hk2
        have hT5 := (h.below hb5).take k
        have i0 : (0 : Int) ≤ k := by omega
        have i1 : (k : Int) ≤ c := by omega
        obtain ⟨x0, x1, x2⟩ : (wr.alloc (.cells (evC x) 34)).cell? ⟨wr.heap.size, 0, none⟩ = some (.int .i64 x.k) ∧ (wr.alloc (.cells (evC x) 34)).cell? ⟨wr.heap.size, 1, none⟩ = some (.int .i64 x.t) ∧ (wr.alloc (.cells (evC x) 34)).cell? ⟨wr.heap.size, 2, none⟩ = some (.int .i64 x.o) := ⟨hN.cell rfl, hN.cell rfl, hN.cell rfl⟩
        go_wp2_with fail
        clear d0 d1 d2 x0 x1 x2
        generalize wr.alloc (.cells (evC x) 34) = w5 at *
        have x0 : w5.cell? ⟨wr.heap.size, 0, none⟩ = some (.int .i64 x.k) := hN.cell rfl
        have x1 : w5.cell? ⟨wr.heap.size, 1, none⟩ = some (.int .i64 x.t) := hN.cell rfl
        have hN6 := hN.drew
        have hd5 := (Below.refl w5.heap.size w5).drew
        replace hT5 := hT5.below hd5
        go_region_held3 (fun W => (Has W wr.heap.size (evC x) 34 ∧ Below w5.heap.size w5 W) ∧ W.cell? ⟨wr.heap.size, 1, none⟩ = some (.int .i64 x.t))
          (first | exact ⟨⟨hN6, hd5⟩, hN6.cell rfl⟩ | exact ⟨⟨hN7, hd7⟩, hN7.cell rfl⟩)
          (first | (go_at_call 21; refine (held_m (z.take k) k hlen _ _ _ _ hT5).mono ?_; rintro r w6 ⟨rfl, hk6⟩; have hd7 := hd5.trans (hk6.mono hd5.size); have hN7 := hN6.below hk6 hN6.lt))
        rw [HPP.out]
        clear HPP hT5 hk6 hN6 hd5 x0 x1
        have hv6 : w6.ownsRow w1.heap.size 34 3 u5 (gL z K k).length (evL (gL z K k)) := hv1.kept (row := none) ⟨hd7.os, hd7.tape, hd7.output, hd7.size, fun i hi _ => hd7.block i hi⟩ (Classical.em _)
        have hb6 := hb5.trans (hd7.mono hb5.size)
        have k0 : (0 : Int) ≤ K := by omega
        have k5 : (K : Int) < 5 := by omega
        clear hv1 hN hb5 hd7
        go_upto_region 11 with fail
        go_cut [47] (fun p wx => p = .bool (P2 == 0 && own K) ∧ wx = w6)
        case first =>
          by_cases hE : P2 = 0
          · have hP1 := HSET.out hE
            have hEb : (P2 == 0) = true := by simpa using hE
            clear hE
            go_wp2_with fail
            go_meet
            exact ⟨by rw [set_bit own hK5, hEb]; rfl, rfl⟩
          · have hEb : (P2 == 0) = false := by simpa using hE
            clear hE
            go_wp2_with fail
            go_meet
            exact ⟨by simp [hEb], rfl⟩
        case rest =>
          obtain ⟨rfl, rfl⟩ := hcut
          cases hq : (P2 == 0 && own K)
          · have HR1 := Lib.hid (N1.out (by simp [hkd, hq]))
            clear Y1 N1 HSET
            go_wp2
            go_roundw
            case rel => exact ⟨k + 1, by omega, by go_num, by rw [HR1.out]; exact hv6, hb6⟩
            case measure => (simp [intOf]; try omega)
          · have HR1 := Lib.hid (Y1.out (by simp [hq]))
            clear Y1 N1 HSET
            have hT := Has.new wc (evC x) 34
            have hb7 := hb6.alloc (by have := hb6.size; simp at this ⊢; omega) (.cells (evC x) 34)
            obtain ⟨x0, x1, x2⟩ : wc.cell? ⟨wr.heap.size, 0, none⟩ = some (.int .i64 x.k) ∧ wc.cell? ⟨wr.heap.size, 1, none⟩ = some (.int .i64 x.t) ∧ wc.cell? ⟨wr.heap.size, 2, none⟩ = some (.int .i64 x.o) := ⟨hN7.cell rfl, hN7.cell rfl, hN7.cell rfl⟩
            go_wp2_with (at_builtin; refine app_list _ rfl (.tmp 48) (.tmp 50) 22 rfl Try.underlying22 hi hz0 hz1 hz2 rfl (by decide) rfl (hv6.alloc _) rfl (news := evL [x]) ⟨rfl, .inr ⟨_, rfl, fun j u hu => hT.cell_add (by simpa [evL] using hu)⟩⟩ (by intro q hq; simp [evL] at hq; rcases hq with rfl | rfl | rfl <;> rfl) ?c3 ?c4 ?c5 ?_)
            case c3 => unfold maxLen; omega
            case c4 => omega
            case c5 => have := hb7.size; simp at this ⊢; omega
            intro v6 w8 hAp
            have hb8 := hAp.below (hv6.alloc _) hb7 (by have := hb7.size; simp at this ⊢; omega)
            have hv8 : w8.ownsRow w1.heap.size 34 3 v6 (gL z K (k + 1)).length (evL (gL z K (k + 1))) := by
              have := hAp.own
              rw [HR1.out, evL_append _ [x], List.length_append]
              exact this
            clear hAp hT hb7 x0 x1 x2 hN7 hv6 hb6
            go_wp2
            go_roundw
            case rel => exact ⟨k + 1, by omega, by go_num, hv8, hb8⟩
            case measure => (simp [intOf]; try omega)
    · obtain rfl : k = z.length := by omega
      have l1 := gL_len z K z.length
      have hM := fun hp => gL_races (l := z) (k := K) hp
      generalize gL z K z.length = M at *
      have hex : ∃ a2 c2, u5 = .slice a2 M.length c2 ∧ EvS wr a2 M := by
        obtain ⟨a, c, h1, h2, _⟩ := evS_own hv (by omega)
        exact ⟨a, c, h1, h2⟩
      obtain ⟨a3, c3, rfl, hA⟩ := hex
      replace hb := hb.trans (hb4.mono hb.size)
      clear hv hb4
      by_cases e1 : (played M).2.2 = 0
      · have hR := hM e1
        clear hM
        go_wp2_with fail
        refine (all_ok M a3 c3 _ hA e1).mono ?_
        rintro r w3 ⟨v1, rfl, hown, hk⟩
        rw [hR] at hown
        have hex : ∃ a2 c2, v1 = .slice a2 0 c2 := by
          obtain ⟨a, c, h1, _⟩ := rcS_own hown (by simp)
          exact ⟨a, c, h1⟩
        obtain ⟨a5, c5, rfl⟩ := hex
        replace hb := hb.trans (hk.mono hb.size)
        clear hk
        go_wp2
        go_ret
        exact ⟨rfl, hb⟩
      · have e3 : ((played M).2.2 != 0) = true := by simpa using e1
        have e4 : mayB M = false := by simpa [mayB] using e1
        clear hM
        go_wp2_with fail
        refine (all_err M a3 c3 _ hA e1).mono ?_
        rintro r w3 ⟨rfl, hk⟩
        replace hb := hb.trans (hk.mono hb.size)
        replace hA := hA.below hk
        clear hk
        go_wp2_with fail
        refine (may_any M a3 c3 _ hA).mono ?_
        rintro r w4 ⟨rfl, hk⟩
        rw [e4]
        replace hb := hb.trans (hk.mono hb.size)
        clear hk
        go_wp2
        go_ret
        exact ⟨rfl, hb⟩
/-! The frame of the law RaceGuarded, by program. -/
set_option maxRecDepth 100000 in
theorem raceGuarded_lifted (os : Os) (started : os.Started) (H : Type) (enc : TypeId × Value → H) :
    ReturnsInHanded {} Try.checked os 6 .any (Rows.raceGuardedSpec.pre6 enc Try.prog Try.f6 Rows.raceGuardedRow.domain false) (Rows.raceGuardedSpec.post enc Try.prog Try.f6 false true false false) := by
  refine returnsInHanded_of_change_shaped (C := Try.checked) frame_own started (by kernel_rfl) Try.func6
    (ChangeSpec.witness6 (enc := enc) (C := Try.checked) false ⟨#[], #[.slice none 0 0, .int .i64 0], []⟩ 8 (by kernel_rfl) (by kernel_rfl) (by kernel_rfl) (by kernel_rfl)) ?_
  intro W base args ds gs before hval0 hW hcnd hsz hshaped hroom
  clear hcnd hshaped
  have hval : ∀ (j : Nat) t v, Try.f6.params[j]? = some t → args[j]? = some v → Value.okWide Try.prog W .any base t v := hval0
  have hW' := hW
  obtain ⟨p, q, hA0, hV, rfl, hfz, hnd⟩ := hW
  have hA : DataW.TrodAll enc Try.prog W 0 (fun _ => true) true Try.f6.params.toList args.toList ds p := hA0
  rw [Try.params6] at hA hval
  obtain ⟨v0, vs0, d0, ds0, p0, q0, hargs, rfl, rfl, h0, r0⟩ := trodAll_cons hA
  obtain ⟨v1, vs1, d1, ds1, p1, q1, rfl, rfl, rfl, h1, r1⟩ := trodAll_cons r0
  obtain ⟨rfl, rfl, rfl⟩ := trodAll_nil r1
  obtain rfl : args = #[v0, v1] := by cases args; simp_all
  obtain ⟨rfl, rfl⟩ := trodVars_none hV
  have k0 := h0
  have lt0 : ∀ x ∈ p0, x.block < W.heap.size := by obtain ⟨m, hm⟩ := k0; exact DataW.trod_lt m _ _ _ hm
  obtain ⟨a0, z0, c0, rfl, w0⟩ := open_evs (hval 0 22 v0 rfl rfl) h0 (fun els sp hd => sized_slice hsz (j := 0) rfl (by rw [hd]; rfl) Try.underlying22)
  have k1 := h1
  have lt1 : ∀ x ∈ p1, x.block < W.heap.size := by obtain ⟨m, hm⟩ := k1; exact DataW.trod_lt m _ _ _ hm
  obtain ⟨a1, rfl, rfl, rfl, w1⟩ := open_int Try.underlying3 (hval 1 3 v1 rfl rfl) h1
  clear hA0 hval0
  refine (raceGuarded_walk a0 z0 c0 a1 W w0 (wf_i64 w1)).mono fun e W' ⟨he, bel⟩ => ?_
  subst he
  exact ⟨_, rfl, _, _, _, [], _, [], hW', trodAll_mk1 (shut_bool Try.underlying4 _), (trodAll_cons_mk (Below.trod frame_laid (by kernel_rfl) (of_decide_eq_true (by kernel_rfl)) k0 bel lt0) (trodAll_cons_mk (Below.trod frame_laid (by kernel_rfl) (of_decide_eq_true (by kernel_rfl)) k1 bel lt1) trodAll_mk0)), rfl, bel.frame _, fun h => by cases h⟩

theorem raceGuarded_over : Rows.raceGuardedRow.holds Try.pinned (OpenSpec.ofChange Rows.raceGuardedSpec) :=
  OpenClaim.holds_of_wide 6 Try.f6 rfl rfl rfl rfl rfl rfl rfl ⟨rfl, rfl, rfl, rfl, rfl⟩ rfl rfl rfl rfl rfl (by kernel_rfl) Try.func6 (by kernel_rfl)
    (of_decide_eq_true (by kernel_rfl)) (by unfold Func.isWrapper; first | (rw [if_pos (by decide +kernel)]; kernel_rfl) | (rw [if_neg (by decide +kernel)]; exact ⟨rfl, rfl⟩))
    (fun os started H enc _ => raceGuarded_lifted os started H enc)

/-- The statement. -/
theorem raceGuarded_holds : Rows.RaceGuardedSaid := raceGuarded_over

end Go.Proofs.Ytgliichceildgaa

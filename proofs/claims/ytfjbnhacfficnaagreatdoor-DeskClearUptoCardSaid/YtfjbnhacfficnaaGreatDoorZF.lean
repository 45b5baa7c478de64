/- Joined texts. -/
import Derived.Test.YtfjbnhacfficnaaGreatDoorZEA
import Derived.Test.YtfjbnhacfficnaaGreatDoorZC
import Derived.Test.YtfjbnhacfficnaaGreatDoorZEB
import Derived.Test.YtfjbnhacfficnaaGreatDoorZB

/- Contract of the laws' 'ahead'. -/
namespace Go.Proofs.YtfjbnhacfficnaaGreatDoor
open Go.RowKit Go.Maps

theorem I64P_bef {l : List Ev} (hl : l.length ≤ 80) : ∀ p ∈ befL l, I64P p := by
  intro p hp
  obtain ⟨i, j, rfl, hij, hj, _⟩ := mem_allP.1 hp
  exact ⟨⟨by simp only; omega, by simp only; omega⟩, ⟨by simp only; omega, by simp only; omega⟩⟩
theorem befL_len (l : List Ev) (hl : l.length ≤ 80) : (befL l).length ≤ 6400 := by
  have h1 := allP_len (befM l) l.length l.length
  have h2 : l.length * l.length ≤ 80 * 80 := Nat.mul_le_mul hl hl
  simp only [befL]
  omega
def AheadPost (L : List (Int × Int)) (w : World) (r : Ending) (w' : World) : Prop := ∃ b n, r = .returned (.map (some b)) ∧ w.heap.size ≤ b ∧ n ≤ 6400 ∧ MapP w' b n L ∧ Below w.heap.size w w'
end Go.Proofs.YtfjbnhacfficnaaGreatDoor

/- What the laws on 'order' share. -/
namespace Go.Proofs.YtfjbnhacfficnaaGreatDoor
open Go.RowKit Go.Maps

theorem mayB_played {l : List Ev} (h : mayB l = true) : (played l).2.2 = 0 := by
  obtain ⟨h1, h2⟩ := mayB_iff.1 h
  rw [played_small h1]; exact h2
/-- A look-up in the map, in whatever world that the map has drawn into. -/
theorem MapP.looks {w : World} {b n : Nat} {l : List Ev} (h : MapP w b n (befL l)) (hl : l.length ≤ 80) (i j : Nat) (hi : i < l.length) (hj : j < l.length) :
    ∀ k, (Instr.lookup 109 (.map (some b)) (.agg #[.int .i64 (i : Int), .int .i64 (j : Int)]) false).run Tryz.prog (w.drewN k) = .ok (.bool (R l j i)) (w.drewN k) := by
  intro k
  have e : inB (befL l) ((i : Int), (j : Int)) = R l j i := by
    apply Bool.eq_iff_iff.2
    simp only [inB, decide_eq_true_eq, mem_befL_nat]
    exact ⟨fun h => h.2, fun h => ⟨hj, h⟩⟩
  rw [← e]
  have hk : MapP (w.drewN k) b n (befL l) := by
    induction k with
    | zero => exact h
    | succ k ih => exact ih
  exact hk.look (I64P_bef hl) ((i : Int), (j : Int)) ⟨⟨by simp only; omega, by simp only; omega⟩, ⟨by simp only; omega, by simp only; omega⟩⟩
theorem MapP.look1 {w : World} {b n : Nat} {l : List Ev} (h : MapP w b n (befL l)) (hl : l.length ≤ 80) (i j : Nat) (hi : i < l.length) (hj : j < l.length) :
    (Instr.lookup 109 (.map (some b)) (.agg #[.int .i64 (i : Int), .int .i64 (j : Int)]) false).run Tryz.prog w = .ok (.bool (R l j i)) w := h.looks hl i j hi hj 0
theorem MapP.below {w w' : World} {b n : Nat} {L : List (Int × Int)} (h : MapP w b n L) (k : Below w.heap.size w w') : MapP w' b n L :=
  h.kept (row := none) ⟨k.os, k.tape, k.output, k.size, fun i hi _ => k.block i hi⟩ (by simp)
theorem MapP.drewN {w : World} {b n : Nat} {L : List (Int × Int)} (h : MapP w b n L) (k : Nat) : MapP (w.drewN k) b n L := by
  induction k with
  | zero => exact h
  | succ k ih => exact ih
end Go.Proofs.YtfjbnhacfficnaaGreatDoor

/- Contracts of package race: isAccess, kindOf, All. -/
namespace Go.Proofs.YtfjbnhacfficnaaGreatDoor
open Go.RowKit Go.Maps

set_option maxHeartbeats 1000000 in
theorem isAccess_any (e : Ev) (w : World) : Calls Tryz.prog 60 #[evV e] w fun r w' => r = .returned (.bool (isAccR e)) ∧ Below w.heap.size w w' := by
  obtain ⟨k, t, o⟩ := e
  obtain ⟨q1, r1⟩ : ∃ q, (k == 1) = q := ⟨_, rfl⟩
  obtain ⟨q2, r2⟩ : ∃ q, (k == 2) = q := ⟨_, rfl⟩
  have hb := (Below.refl w.heap.size w).alloc (Nat.le_refl _) (.cells (evC ⟨k, t, o⟩) 55)
  cases q1 <;> cases q2
  all_goals
    go_enter Tryz.func60, Tryz.ntmps60
    go_wp2
    go_ret
    refine ⟨ret_bool ?_, hb⟩
    simp only [beq_iff_eq, beq_eq_false_iff_ne, ne_eq] at r1 r2
    simp [isAccR, r1, r2]
set_option maxHeartbeats 2000000 in
theorem kindOf_any (a b : Ev) (w : World) : Calls Tryz.prog 61 #[evV a, evV b] w fun r w' => r = .returned (.int .i64 (kindR a b)) ∧ Below w.heap.size w w' := by
  obtain ⟨k, t, o⟩ := a
  obtain ⟨k', t', o'⟩ := b
  obtain ⟨q1, r1⟩ : ∃ q, (k == 2) = q := ⟨_, rfl⟩
  obtain ⟨q2, r2⟩ : ∃ q, (k' == 2) = q := ⟨_, rfl⟩
  have hb := ((Below.refl w.heap.size w).alloc (Nat.le_refl _) (.cells (evC ⟨k, t, o⟩) 55)).alloc (by simp) (.cells (evC ⟨k', t', o'⟩) 55)
  cases q1 <;> cases q2
  all_goals
    go_enter Tryz.func61, Tryz.ntmps61
    go_wp2
    go_ret
    refine ⟨ret_int ?_, hb⟩
    simp only [beq_iff_eq, beq_eq_false_iff_ne, ne_eq] at r1 r2
    simp [kindR, r1, r2]

theorem infoR : (Tryz.prog.info? 71).map (fun i => (i.zero, i.size, i.bytes)) = some (some (rcV ⟨0, 0, 0, 0⟩), 4, 32) := by kernel_rfl
/-- A row's own block is none of another type. -/
theorem own_ne {w : World} {base e size n b : Nat} {v : Value} {xs : List Value} {cs : Array Value} {t : TypeId} (h : w.ownsRow base e size v n xs) (hb : Has w b cs t) (ht : t ≠ e) : some b ≠ v.ownBlock := by
  rcases h.2 with ⟨rfl, _⟩ | ⟨g, cap, cur, rfl, hg, hh, _⟩
  · simp [Value.ownBlock]
  · intro e2
    have : b = g := by simpa [Value.ownBlock] using e2
    subst this
    have := hb.out.symm.trans hh
    injection this with this
    injection this with _ e3
    exact ht e3
theorem kindR_zero {a b : Ev} : kindR a b = 0 ↔ ¬ (a.k = 2 ∨ b.k = 2) := by
  unfold kindR
  (repeat' split) <;> omega
theorem all_err (l : List Ev) (a : Option Addr) (c : Nat) (w : World) (h : EvS w a l) (he : (played l).2.2 ≠ 0) :
    Calls Tryz.prog 34 #[.slice a l.length c] w fun r w' => r = .returned (.tuple #[.slice none 0 0, .int .i64 (played l).2.2]) ∧ Below w.heap.size w w' := by
  have e2 : ((played l).2.2 != 0) = true := by simpa using he
  go_enter Tryz.func34, Tryz.ntmps34
  go_wp2_with fail
  refine (before_err l a c _ h he).mono ?_
  rintro r w1 ⟨rfl, hb⟩
  go_wp2
  go_ret2
  exact ⟨rfl, hb⟩
def RacPost (L : List Rc) (w : World) (r : Ending) (w' : World) : Prop := ∃ v, r = .returned (.tuple #[v, .int .i64 0]) ∧ w'.ownsRow w.heap.size 71 4 v L.length (rcL L) ∧ Below w.heap.size w w'

set_option maxRecDepth 100000 in
set_option maxHeartbeats 8000000 in
theorem all_ok (l : List Ev) (a : Option Addr) (c : Nat) (w : World) (h : EvS w a l) (he : (played l).2.2 = 0) :
    Calls Tryz.prog 34 #[.slice a l.length c] w (RacPost (raceL l) w) := by
  obtain ⟨hl80, _⟩ := played_evs he
  obtain ⟨i0, hi, hz0, hz1, hz2⟩ := info_parts infoR
  have hmm := @run_makeMap Tryz.prog
  have hbo := before_ok l a c w h he
  have HI := Lib.hid (I64P_bef hl80)
  have hll := befL_len l hl80
  clear he
  go_enter Tryz.func34, Tryz.ntmps34
  go_wp2_with fail
  refine hbo.mono ?_
  clear hbo
  rintro r w1 ⟨v, rfl, hown, hb⟩
  have hex : ∃ a2 c2, v = .slice a2 (befL l).length c2 ∧ PrS w1 a2 (befL l) := prS_own hown (by omega)
  obtain ⟨a2, c2, rfl, hP⟩ := hex
  replace h := h.below hb
  clear hown
  have hM := MapP.made w1
  have hb1 := (Below.refl w1.heap.size w1).alloc (Nat.le_refl _) (.map #[] 0)
  generalize hL : befL l = L at *
  have HL := Lib.hid hL
  clear hL
  go_wp2
  go_loopw [8, 26] (fun _ i wr => ∃ k : Nat, k ≤ L.length ∧ i = .int .i64 k ∧ MapP wr w1.heap.size k (L.take k) ∧ Below w1.heap.size w1 wr) (fun _ i _ => L.length - (intOf i).toNat)
  case atStart => exact ⟨0, Nat.zero_le _, rfl, hM, hb1⟩
  case round =>
    clear hM hb1
    obtain ⟨k, hk, rfl, hM, hb1⟩ := hrel
    by_cases hlt : k < L.length
    · obtain ⟨b, o, rfl, d0, d1⟩ := (hP.below hb1).at hlt
      have hx : L.take (k + 1) = L.take k ++ [L[k]] := by rw [List.take_add_one, List.getElem?_eq_getElem hlt]; rfl
      have hi := HI.out L[k] (List.getElem_mem hlt)
      generalize L[k] = x at *
      have HX := Lib.hid hx
      clear hx
      have hMx := hM.alloc (.cells (prC x) 111)
      have hb2 := hb1.alloc hb1.size (.cells (prC x) 111)
      go_wp2_with (first | (at_mapUpdate; refine wpList_mapUpdate_own _ rfl _ _ _ 109 rfl 111 4 pr_keyed Tryz.underlying109 _ w1.heap.size k (prD (L.take k)) rfl hMx (by unfold maxLen; omega) _ _ (prKey x) rfl rfl (keyOf_pr x hi.1 hi.2) (.lit (.bool true)) [] (plainElem_bool Tryz.underlying4 true) ?_; intro w3 hM3 hg3) | go_in)
      go_wp2
      go_roundw
      case rel => exact ⟨k + 1, by omega, by go_num, by rw [HX.out, MapP, prD_snoc]; exact hM3, hb2.grown hg3 hb2.size (fun j hj => by cases hj; exact Nat.le_refl _)⟩
      case measure => (simp [intOf]; try omega)
    · obtain rfl : k = L.length := by omega
      rw [List.take_length, ← HL.out] at hM
      obtain ⟨wm, rfl⟩ : ∃ wm : World, wm = wr := ⟨_, rfl⟩
      have hMl := World.ownsMap.lt hM
      replace h := h.below hb1
      have hb2 := hb.trans (hb1.mono hb.size)
      clear hb hb1 hP
      go_wp2
      go_loopw [9, 35] (fun v i wr => ∃ k : Nat, k ≤ l.length ∧ i = .int .i64 k ∧ wr.ownsRow wm.heap.size 71 4 v (allR l l.length k).length (rcL (allR l l.length k)) ∧ Below wm.heap.size wm wr) (fun _ i _ => l.length - (intOf i).toNat)
      case atStart => exact ⟨0, Nat.zero_le _, rfl, World.ownsRow_nil _ _ _ _, Below.refl _ _⟩
      case round =>
        obtain ⟨k, hk, rfl, hown, hb⟩ := hrel
        obtain ⟨wo, rfl⟩ : ∃ wo : World, wo = wr := ⟨_, rfl⟩
        by_cases hlt : k < l.length
        · obtain ⟨b', o', rfl, d0, d1, d2⟩ := (h.below hb).at hlt
          have hx : evAt l k = l[k] := by simp [evAt, hlt]
          generalize l[k] = x at *
          have HX := Lib.hid hx
          clear hx
          have hN := Has.new wo (evC x) 55
          have hox := hown.alloc (.cells (evC x) 55)
          have hbx := hb.alloc hb.size (.cells (evC x) 55)
          go_wp2
          clear d0 d1 d2 hown hb
          go_loopw [9, 12] (fun v j wr => ∃ m : Nat, k < m ∧ m ≤ l.length ∧ j = .int .i64 m ∧ Has wr wo.heap.size (evC x) 55 ∧ wr.ownsRow wm.heap.size 71 4 v (allR l l.length k ++ rowR l k m).length (rcL (allR l l.length k ++ rowR l k m)) ∧ Below wm.heap.size wm wr) (fun _ j _ => l.length - (intOf j).toNat)
          case atStart => exact ⟨k + 1, by omega, by omega, by go_num, hN, by rw [rowR_start, List.append_nil]; exact hox, hbx⟩
          case round =>
            clear hN hox hbx
            obtain ⟨m, hkm, hm, rfl, hN, hown, hb⟩ := hrel
            by_cases hml : m < l.length
            · obtain ⟨b2, o2, hbo, e0, e1, e2⟩ := (h.below hb).at hml
              cases hbo
              have hy : evAt l m = l[m] := by simp [evAt, hml]
              generalize l[m] = y at *
              have HY := Lib.hid hy
              clear hy
              have x0 : wr.cell? ⟨wo.heap.size, 0, none⟩ = some (.int .i64 x.k) := hN.cell rfl
              have x1 : wr.cell? ⟨wo.heap.size, 1, none⟩ = some (.int .i64 x.t) := hN.cell rfl
              have x2 : wr.cell? ⟨wo.heap.size, 2, none⟩ = some (.int .i64 x.o) := hN.cell rfl
              have hlen : (allR l l.length k ++ rowR l k m).length ≤ 6480 := by
                rw [List.length_append]
                have h1 := allR_len l l.length k
                have h2 := rowR_len l k m
                have h3 : k * l.length ≤ 80 * 80 := Nat.mul_le_mul (by omega) hl80
                omega
              have hNl := hN.lt
              have hN1 := hN.alloc (.cells (evC y) 55)
              have hY1 := Has.new wr (evC y) 55
              have ho1 := hown.alloc (.cells (evC y) 55)
              have hb1 := hb.alloc hb.size (.cells (evC y) 55)
              have hR0 : raceB l k m = (isAccR x && isAccR y && decide (x.o = y.o) && !R l m k && (decide (x.k = 2) || decide (y.k = 2))) := by unfold raceB; rw [HX.out, HY.out]
              have HR0 := Lib.hid hR0
              clear hR0
              go_wp2_with fail
              refine (isAccess_any x _).mono ?_
              rintro r w3 ⟨rfl, hk3⟩
              have hN2 := hN1.below hk3 hN1.lt
              have hY2 := hY1.below hk3 hY1.lt
              have ho2 := own_below ho1 hk3
              have hb3 := hb1.trans (hk3.mono hb1.size)
              clear hk3 hN1 hY1 ho1 hb1 hN hown hb x0 x1 x2 e0 e1 e2
              have y0 : w3.cell? ⟨wr.heap.size, 0, none⟩ = some (.int .i64 y.k) := hY2.cell rfl
              have y1 : w3.cell? ⟨wr.heap.size, 1, none⟩ = some (.int .i64 y.t) := hY2.cell rfl
              have y2 : w3.cell? ⟨wr.heap.size, 2, none⟩ = some (.int .i64 y.o) := hY2.cell rfl
              cases hx : isAccR x
              · have hr := rowR_no (l := l) (i := k) (j := m) (by rw [HR0.out, hx]; rfl)
                have HR := Lib.hid hr
                clear hr hx
                go_wp2
                go_roundw
                case rel => exact ⟨m + 1, by omega, by omega, by go_num, hN2, by rw [HR.out]; exact ho2, hb3⟩
                case measure => (simp [intOf]; try omega)
              · have HXA := Lib.hid hx
                clear hx
                go_wp2_with fail
                refine (isAccess_any y _).mono ?_
                rintro r w4 ⟨rfl, hk4⟩
                have hN3 := hN2.below hk4 hN2.lt
                have hY3 := hY2.below hk4 hY2.lt
                have ho3 := own_below ho2 hk4
                have hb4 := hb3.trans (hk4.mono hb3.size)
                clear hk4 hN2 hY2 ho2 hb3 y0 y1 y2
                have y0 : w4.cell? ⟨wr.heap.size, 0, none⟩ = some (.int .i64 y.k) := hY3.cell rfl
                have y1 : w4.cell? ⟨wr.heap.size, 1, none⟩ = some (.int .i64 y.t) := hY3.cell rfl
                have y2 : w4.cell? ⟨wr.heap.size, 2, none⟩ = some (.int .i64 y.o) := hY3.cell rfl
                have x0 : w4.cell? ⟨wo.heap.size, 0, none⟩ = some (.int .i64 x.k) := hN3.cell rfl
                have x1 : w4.cell? ⟨wo.heap.size, 1, none⟩ = some (.int .i64 x.t) := hN3.cell rfl
                have x2 : w4.cell? ⟨wo.heap.size, 2, none⟩ = some (.int .i64 x.o) := hN3.cell rfl
                cases hy : isAccR y
                · have hr := rowR_no (l := l) (i := k) (j := m) (by rw [HR0.out, hy]; simp)
                  have HR := Lib.hid hr
                  clear hr hy
                  go_wp2
                  go_roundw
                  case rel => exact ⟨m + 1, by omega, by omega, by go_num, hN3, by rw [HR.out]; exact ho3, hb4⟩
                  case measure => (simp [intOf]; try omega)
                · have HYA := Lib.hid hy
                  clear hy
                  by_cases ho : x.o = y.o
                  · have hob : (x.o != y.o) = false := by simp [ho]
                    have hq := (hM.below hb4).look1 hl80 k m (by omega) hml
                    cases hR : R l m k
                    · rw [hR] at hq
                      have HRF := Lib.hid hR
                      have HO := Lib.hid ho
                      clear hR ho
                      go_wp2_with fail
                      refine (kindOf_any x y _).mono ?_
                      rintro r w5 ⟨rfl, hk5⟩
                      have hN4 := hN3.below hk5 hN3.lt
                      have ho4 := own_below ho3 hk5
                      have hb5 := hb4.trans (hk5.mono hb4.size)
                      have hs5 := hb5.size
                      have x2 : w5.cell? ⟨wo.heap.size, 2, none⟩ = some (.int .i64 x.o) := hN4.cell rfl
                      clear hk5 hY3 ho3 hb4 hq y0 y1 y2 hN3
                      by_cases hz : kindR x y = 0
                      · have hr := rowR_no (l := l) (i := k) (j := m) (by
                          have := kindR_zero.1 hz
                          rw [HR0.out]
                          have h1 : ¬ x.k = 2 := fun e => this (.inl e)
                          have h2 : ¬ y.k = 2 := fun e => this (.inr e)
                          simp [h1, h2])
                        have HR := Lib.hid hr
                        clear hr
                        rw [hz]
                        clear hz
                        go_wp2
                        go_roundw
                        case rel => exact ⟨m + 1, by omega, by omega, by go_num, hN4, by rw [HR.out]; exact ho4, hb5⟩
                        case measure => (simp [intOf]; try omega)
                      · have hr := rowR_yes (l := l) hkm (by
                          have : x.k = 2 ∨ y.k = 2 := by
                            by_cases hh : x.k = 2 ∨ y.k = 2
                            · exact hh
                            · exact absurd (kindR_zero.2 hh) hz
                          rw [HR0.out, HXA.out, HYA.out, HRF.out, HO.out]
                          rcases this with e | e <;> simp [e])
                        rw [show raceOf l k m = ⟨k, m, x.o, kindR x y⟩ by unfold raceOf; rw [HX.out, HY.out]] at hr
                        have HR := Lib.hid hr
                        have hzb : (kindR x y != 0) = true := by simpa using hz
                        clear hr hz
                        generalize kindR x y = kk at *
                        have hT := Has.new w5 (rcC ⟨k, m, x.o, kk⟩) 71
                        have hb6 := hb5.alloc hs5 (.cells (rcC ⟨k, m, x.o, kk⟩) 71)
                        have hN5 := hN4.alloc (.cells (rcC ⟨k, m, x.o, kk⟩) 71)
                        have hne := own_ne (ho4.alloc (.cells (rcC ⟨k, m, x.o, kk⟩) 71)) hN5 (by decide)
                        go_wp2_with (at_builtin; refine app_list _ rfl (.tmp 79) (.tmp 86) 66 rfl Tryz.underlying66 hi hz0 hz1 hz2 rfl (by decide) rfl (ho4.alloc _) rfl (news := rcL [⟨k, m, x.o, kk⟩]) ⟨rfl, .inr ⟨_, rfl, fun j u hu => hT.cell_add (by simpa [rcL] using hu)⟩⟩ (rcL_one _) ?c3 ?c4 ?c5 ?_)
                        case c3 => unfold maxLen; omega
                        case c4 => omega
                        case c5 => simp; omega
                        intro v' w6 hA
                        have hb7 := hA.below (ho4.alloc _) hb6 (by simp; omega)
                        have hN6 := hN5.grown hA.grown hne
                        have ho6 : w6.ownsRow wm.heap.size 71 4 v' (allR l l.length k ++ rowR l k (m + 1)).length (rcL (allR l l.length k ++ rowR l k (m + 1))) := by
                          have := hA.own
                          rw [HR.out, ← List.append_assoc, rcL_append _ [_], List.length_append, List.length_append]
                          exact this
                        clear hA ho4 hT hb6 hb5 hs5 hN5 hN4 hne
                        go_wp2
                        go_roundw
                        case rel => exact ⟨m + 1, by omega, by omega, by go_num, hN6, ho6, hb7⟩
                        case measure => (simp [intOf]; try omega)
                    · rw [hR] at hq
                      have hr := rowR_no (l := l) (i := k) (j := m) (by rw [HR0.out, hR]; simp)
                      have HR := Lib.hid hr
                      clear hr hR ho
                      go_wp2
                      go_roundw
                      case rel => exact ⟨m + 1, by omega, by omega, by go_num, hN3, by rw [HR.out]; exact ho3, hb4⟩
                      case measure => (simp [intOf]; try omega)
                  · have hob : (x.o != y.o) = true := by simpa using ho
                    have hr := rowR_no (l := l) (i := k) (j := m) (by rw [HR0.out]; simp [ho])
                    have HR := Lib.hid hr
                    clear hr ho
                    go_wp2
                    go_roundw
                    case rel => exact ⟨m + 1, by omega, by omega, by go_num, hN3, by rw [HR.out]; exact ho3, hb4⟩
                    case measure => (simp [intOf]; try omega)
            · obtain rfl : m = l.length := by omega
              have ha := allR_succ l l.length k
              have HA := Lib.hid ha
              clear ha
              go_wp2
              go_roundw
              case rel => exact ⟨k + 1, by omega, by go_num, by rw [HA.out]; exact hown, hb⟩
              case measure => (simp [intOf]; try omega)
        · obtain rfl : k = l.length := by omega
          go_wp2
          go_ret2
          exact ⟨_, rfl, own_low hown hb2.size, hb2.trans (hb.mono hb2.size)⟩
end Go.Proofs.YtfjbnhacfficnaaGreatDoor

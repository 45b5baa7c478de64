/- EveryRaced: if an execution has a race, the picks that Races returns lead to one at the last pick; otherwise no execution has one: for every program and every slice of picks. -/
import Derived.Test.YtoohconipcleiaaRows
import Derived.Test.YtoohconipcleiaaMY
import Derived.Test.YtoohconipcleiaaEvR
import Derived.Test.YtoohconipcleiaaMF
import Derived.Test.YtoohconipcleiaaMI
import Derived.Deep.DeepCutAuto
namespace Go.Proofs.Ytoohconipcleiaa
open Go.ChangeShapes Go.WideShapes Go.ChangeAt Go.RowKit

theorem IntS.takeR {w : World} {a : Option Addr} {l : List Int} (h : IntS w a l) (n : Nat) : IntS w a (l.take n) := by
  refine ⟨by have := h.big; simp; omega, ?_⟩
  rcases h.ok with h0 | ⟨b, o, ha, hc⟩
  · left; simp [h0]
  · right
    refine ⟨b, o, ha, fun i hi => ?_⟩
    rw [List.getElem_take]
    exact hc i (by simp at hi; omega)
theorem evR_may (p : List (List Ev)) (picks : List Int) : (played (evR p picks)).2.2 = 0 := by
  unfold evR
  split
  · rename_i h
    have hp : chkP p = 0 := by
      unfold errR at h
      split at h
      · assumption
      · exact h
    have := runP_may (chkP_ok hp) picks
    unfold mayB at this
    exact eq_of_beq this
  · rfl
/-- How many races a run has. -/
def ofN (p : List (List Ev)) (picks : List Int) : Nat := (raceL (evR p picks)).length
theorem ofN_ok {p : List (List Ev)} {picks : List Int} (h : chkP p = 0) (hl : picks.length ≤ 100) : ofN p picks = (raceL (runP p picks).2).length := by
  unfold ofN evR errR
  rw [if_pos h, if_neg (show ¬ 100 < picks.length by omega), if_pos rfl]
theorem ofN_none {p : List (List Ev)} (h : ∀ picks, raceL (runP p picks).2 = []) (picks : List Int) : ofN p picks = 0 := by
  unfold ofN evR
  split
  · rw [h]; rfl
  · rw [raceL_empty]; rfl
set_option maxRecDepth 100000 in
set_option maxHeartbeats 4000000 in
theorem ofR_any (p : List (List Ev)) (picks : List Int) (ap aq : Option Addr) (cp cq b : Nat) (w : World) (h : PgS w ap p) (hB : Has w b #[.slice ap p.length cp] pgT) (hq : IntS w aq picks) :
    Calls Try.prog 33 #[.slice aq picks.length cq, .pointer (some ⟨b, 0, none⟩)] w fun r w' => r = .returned (.int .i64 (ofN p picks)) ∧ Below w.heap.size w w' := by
  have c1 : w.cell? ⟨b, 0, none⟩ = some (.slice ap p.length cp) := hB.cell rfl
  have hrun := run_any p picks ap aq cp cq w h hq
  have HS := Lib.hid (endR_size p picks)
  have H1 := Lib.hid (endR_one p picks)
  have hz20 := endC_size PS.zero false false
  have HN := Lib.hid (show ofN p picks = (raceL (evR p picks)).length from rfl)
  have hmay := evR_may p picks
  go_enter Try.func33, Try.ntmps33
  go_wp2_with fail
  refine hrun.mono ?_
  rintro r w3 ⟨a3, c3, _, rfl, hES, hk3⟩
  clear hrun c1 hB
  obtain ⟨Y, hYe⟩ : ∃ Y, endR p picks = Y := ⟨_, rfl⟩
  rw [hYe] at HS H1 ⊢
  clear hYe
  go_upto_region 2 with (refine wpList_store_row rfl endT _ _ rfl w3.heap.size Y rfl rfl endT _ (Has.new w3 (endC PS.zero false false) endT).out (by rw [HS.out]; rfl) (by rw [HS.out, hz20]) H1.out ?_)
  generalize hWx : World.setRow _ _ _ = W4
  have hk4 : Below w3.heap.size w3 W4 := by rw [← hWx]; exact below_setRow ((Below.refl _ _).alloc (Nat.le_refl _) _) (Nat.le_refl _)
  have hb4 := hk3.trans (hk4.mono hk3.size)
  have hall := all_ok (evR p picks) a3 c3 W4 (hES.below hk4) hmay
  clear hWx hk4 hES hk3 hmay
  generalize hE : evR p picks = E at *
  go_wp2_with fail
  refine hall.mono ?_
  rintro r w5 ⟨v, rfl, hown, hb5⟩
  obtain ⟨a5, c5, rfl, hS5⟩ := rcS_own hown (by
    have := (played_evs (l := E) (by rw [← hE]; exact evR_may p picks)).1
    have h1 := allR_len E E.length E.length
    have h2 : E.length * E.length ≤ 80 * 80 := Nat.mul_le_mul this this
    unfold raceL
    omega)
  have hb6 := hb4.trans (hb5.mono hb4.size)
  clear hall hown hS5 hE
  generalize raceL E = L at *
  go_wp2
  go_ret
  rw [HN.out]
  exact ⟨rfl, hb6⟩
set_option maxRecDepth 100000 in
set_option maxHeartbeats 8000000 in
theorem everyRaced_walk (a : Option Addr) (p : List (List Ev)) (c : Nat) (ap : Option Addr) (l : List Int) (cp : Nat) (w : World) (hp : PgS w a p ∧ (p.length ≤ c ∧ p.length * 24 ≤ 140737488351232) ∧ ∀ z ∈ p, ∀ e ∈ z, I64 e.k ∧ I64 e.t ∧ I64 e.o) (hl : IntS w ap l ∧ l.length ≤ cp ∧ l.length * 8 ≤ 140737488351232 ∧ ∀ n ∈ l, I64 n) :
    Calls Try.prog 11 #[.slice a p.length c, .slice ap l.length cp] w fun e w' => e = .returned (.bool true) ∧ Below w.heap.size w w' := by
  have h := hp.1
  have hq := hl.1
  clear hp hl
  go_enter Try.func11, Try.ntmps11
  go_upto_region 1 with fail
  generalize hW : World.alloc _ _ = W
  have hB : Has W w.heap.size #[.slice a p.length c] pgT := by rw [← hW]; exact Has.new w _ _
  have hk : Below w.heap.size w W := by rw [← hW]; exact (Below.refl _ _).alloc (Nat.le_refl _) _
  clear hW
  go_wp2_with fail
  refine (everied_any _).mono ?_
  rintro r w1 ⟨rfl, hb1⟩
  have hB1 := hB.below hb1 hB.lt
  have hk1 := hk.trans (hb1.mono hk.size)
  have c1 : w1.cell? ⟨w.heap.size, 0, none⟩ = some (.slice a p.length c) := hB1.cell rfl
  clear hb1 hB hk
  go_wp2_with fail
  refine (races_any p a c w1 (h.below hk1)).mono ?_
  rintro r w2 ⟨hb2, hR⟩
  have hB2 := hB1.below hb2 hB1.lt
  have hk2 := hk1.trans (hb2.mono hk1.size)
  have h2 := h.below hk2
  have hq2 := hq.below hk2
  clear hb2 hB1 hk1 h hq c1
  rcases hR with ⟨h0, rfl⟩ | ⟨hch, ⟨way, aw, cw, hW, hcw, rfl, hIw⟩ | ⟨hno, rfl⟩⟩
  · have e1 : (chkE p != 0) = true := bne_iff_ne.2 h0
    have e2 : (chkE p == 0) = false := beq_eq_false_iff_ne.2 h0
    have e3 : decide (chkE p = 0) = false := decide_eq_false h0
    clear h0
    generalize chkE p = C at *
    go_wp2
    go_ret
    exact ⟨rfl, hk2⟩
  · have hck : chkP p = 0 := by
      unfold chkE at hch
      by_cases c : chkP p = 0
      · exact c
      · rw [if_pos c] at hch; exact hch
    obtain ⟨m, hm⟩ : ∃ m, way.length = m + 1 := ⟨way.length - 1, by have := List.length_pos_iff.2 hW.ne; omega⟩
    have hl10 := hW.len
    have hN1 : 0 < ofN p way := by rw [ofN_ok hck (by omega)]; exact List.length_pos_iff.2 hW.race
    have hN2 : ofN p (way.take m) = 0 := by
      rw [ofN_ok hck (by simp; omega), show way.take m = way.dropLast by rw [List.dropLast_eq_take, hm]; rfl, hW.first]
      rfl
    obtain ⟨bw, ow, rfl⟩ : ∃ bw ow, aw = some ⟨bw, ow, none⟩ := by
      rcases hIw.ok with h0 | ⟨bw, ow, e, _⟩
      · exact absurd h0 hW.ne
      · exact ⟨bw, ow, e⟩
    have hof1 := ofR_any p way a (some ⟨bw, ow, none⟩) c cw w.heap.size w2 h2 hB2 hIw
    have hof2 := fun (w3 : World) (h3 : Below w2.heap.size w2 w3) => ofR_any p (way.take m) a (some ⟨bw, ow, none⟩) c cw w.heap.size w3 (h2.below h3) (hB2.below h3 hB2.lt) ((hIw.takeR m).below h3)
    rw [hN2, show (way.take m).length = m by simp; omega] at hof2
    rw [hm] at hof1 hcw ⊢
    generalize ofN p way = N at *
    have p2 : decide ((0 : Int) < N) = true := decide_eq_true (by omega)
    have p3 : decide ((N : Int) > 0) = true := p2
    have m1 : (m : Int) + 1 ≤ cw := by omega
    have m2 : (m : Int) ≤ cw := by omega
    have m0 : (0 : Int) ≤ m := by omega
    have m9 : (m : Int) ≤ 9 := by omega
    have hc0 : ¬ cw = 0 := by omega
    have hadd : (⟨bw, ow, none⟩ : Addr).add 0 = ⟨bw, ow, none⟩ := rfl
    clear hl10
    have m3 : decide ((0 : Int) < (m : Int) + 1) = true := decide_eq_true (by omega)
    have m4 : decide ((m : Int) + 1 > 0) = true := m3
    clear hch hW hck hm hN2 hB2 hIw h2 hq2
    go_wp2_with fail
    refine hof1.mono ?_
    rintro r w3 ⟨rfl, hb3⟩
    have hof3 := hof2 w3 hb3
    have hk3 := hk2.trans (hb3.mono hk2.size)
    clear hof1 hof2 hb3 hk2
    go_wp2_with fail
    refine hof3.mono ?_
    rintro r w4 ⟨rfl, hb4⟩
    have hk4 := hk3.trans (hb4.mono hk3.size)
    clear hof3
    go_wp2
    go_ret
    exact ⟨rfl, hk4⟩
  · have hof1 := ofR_any p l a ap c cp w.heap.size w2 h2 hB2 hq2
    rw [ofN_none hno] at hof1
    clear hno hch hB2 h2 hq2
    go_wp2_with fail
    refine hof1.mono ?_
    rintro r w3 ⟨rfl, hb3⟩
    have hk3 := hk2.trans (hb3.mono hk2.size)
    clear hof1 hb3 hk2
    go_wp2
    go_ret
    exact ⟨rfl, hk3⟩
/-! The frame of the law EveryRaced, by program. -/
set_option maxRecDepth 100000 in
theorem everyRaced_lifted (os : Os) (started : os.Started) (H : Type) (enc : TypeId × Value → H) :
    ReturnsInHanded {} Try.checked os 11 .any (Rows.everyRacedSpec.pre6 enc Try.prog Try.f11 Rows.everyRacedRow.domain false) (Rows.everyRacedSpec.post enc Try.prog Try.f11 false true false false) := by
  refine returnsInHanded_of_change_shaped (C := Try.checked) frame_own started (by kernel_rfl) Try.func11
    (ChangeSpec.witness6 (enc := enc) (C := Try.checked) false ⟨#[], #[.slice none 0 0, .slice none 0 0], []⟩ 8 (by kernel_rfl) (by kernel_rfl) (by kernel_rfl) (by kernel_rfl)) ?_
  intro W base args ds gs before hval0 hW hcnd hsz hshaped hroom
  clear hcnd hshaped
  have hval : ∀ (j : Nat) t v, Try.f11.params[j]? = some t → args[j]? = some v → Value.okWide Try.prog W .any base t v := hval0
  have hW' := hW
  obtain ⟨p, q, hA0, hV, rfl, hfz, hnd⟩ := hW
  have hA : DataW.TrodAll enc Try.prog W 0 (fun _ => true) true Try.f11.params.toList args.toList ds p := hA0
  rw [Try.params11] at hA hval
  obtain ⟨v0, vs0, d0, ds0, p0, q0, hargs, rfl, rfl, h0, r0⟩ := trodAll_cons hA
  obtain ⟨v1, vs1, d1, ds1, p1, q1, rfl, rfl, rfl, h1, r1⟩ := trodAll_cons r0
  obtain ⟨rfl, rfl, rfl⟩ := trodAll_nil r1
  obtain rfl : args = #[v0, v1] := by cases args; simp_all
  obtain ⟨rfl, rfl⟩ := trodVars_none hV
  have k0 := h0
  have lt0 : ∀ x ∈ p0, x.block < W.heap.size := by obtain ⟨m, hm⟩ := k0; exact DataW.trod_lt m _ _ _ hm
  obtain ⟨a0, z0, c0, rfl, w0⟩ := open_prog (hval 0 22 v0 rfl rfl) h0 (fun n hn => of_decide_eq_true (List.all_eq_true.1 hsz _ (DataW.weights_mem_each (j := 0) rfl rfl n hn)))
  have k1 := h1
  have lt1 : ∀ x ∈ p1, x.block < W.heap.size := by obtain ⟨m, hm⟩ := k1; exact DataW.trod_lt m _ _ _ hm
  obtain ⟨a1, z1, c1, rfl, w1⟩ := open_ints (hval 1 23 v1 rfl rfl) h1 (fun els sp hd => sized_slice hsz (j := 1) rfl (by rw [hd]; rfl) Try.underlying23)
  clear hA0 hval0
  refine (everyRaced_walk a0 z0 c0 a1 z1 c1 W w0 w1).mono fun e W' ⟨he, bel⟩ => ?_
  subst he
  exact ⟨_, rfl, _, _, _, [], _, [], hW', trodAll_mk1 (shut_bool Try.underlying4 _), (trodAll_cons_mk (Below.trod frame_laid (by kernel_rfl) (of_decide_eq_true (by kernel_rfl)) k0 bel lt0) (trodAll_cons_mk (Below.trod frame_laid (by kernel_rfl) (of_decide_eq_true (by kernel_rfl)) k1 bel lt1) trodAll_mk0)), rfl, bel.frame _, fun h => by cases h⟩

theorem everyRaced_over : Rows.everyRacedRow.holds Try.pinned (OpenSpec.ofChange Rows.everyRacedSpec) :=
  OpenClaim.holds_of_wide 11 Try.f11 rfl rfl rfl rfl rfl rfl rfl ⟨rfl, rfl, rfl, rfl, rfl⟩ rfl rfl rfl rfl rfl (by kernel_rfl) Try.func11 (by kernel_rfl)
    (of_decide_eq_true (by kernel_rfl)) (by unfold Func.isWrapper; first | (rw [if_pos (by decide +kernel)]; kernel_rfl) | (rw [if_neg (by decide +kernel)]; exact ⟨rfl, rfl⟩))
    (fun os started H enc _ => everyRaced_lifted os started H enc)

/-- The statement. -/
theorem everyRaced_holds : Rows.EveryRacedSaid := everyRaced_over

end Go.Proofs.Ytoohconipcleiaa

/- FastTrue: every flagged event is the second access of a race of the reported kind: for every trace. -/
import Derived.Test.YtgliichceildgaaRows
import Derived.Test.YtgliichceildgaaFrS
import Derived.Test.YtgliichceildgaaRacB
import Derived.Test.YtgliichceildgaaOpenE
namespace Go.Proofs.Ytgliichceildgaa
open Go.ChangeShapes Go.WideShapes Go.ChangeAt Go.RowKit

/-- Is there such a race among the first j? -/
def hit (L : List Rc) (x : Ev) (j : Nat) : Bool := (L.take j).any fun r => (r.b == x.k) && (r.v == x.t) && (r.k == x.o)
theorem hit_succ (L : List Rc) (x : Ev) {j : Nat} (h : j < L.length) : hit L x (j + 1) = (hit L x j || ((L[j].b == x.k) && (L[j].v == x.t) && (L[j].k == x.o))) := by
  unfold hit
  rw [List.take_add_one, List.getElem?_eq_getElem h, Option.toList_some, List.any_append]
  simp
theorem hit_all {z : List Ev} (he : (played z).2.2 = 0) : ∀ f ∈ qFlags z z.length, hit (raceL z) f (raceL z).length = true := by
  intro f hf
  obtain ⟨j, h1, h2, h3⟩ := mem_qFlags.1 hf
  obtain ⟨i, h4, h5, h6⟩ := fast_true he h1 h2
  have hm : raceOf z i j ∈ raceL z := mem_raceL.2 ⟨i, j, rfl, h4, h1, h5⟩
  have ho := (raceB_iff.1 h5).2.2.1
  unfold hit
  rw [List.take_length, List.any_eq_true]
  refine ⟨_, hm, ?_⟩
  subst h3
  simp [raceOf, ho, h6]
set_option maxRecDepth 100000 in
theorem fastTrue_err (a : Option Addr) (z : List Ev) (c : Nat) (w : World) (h : EvS w a z) (he : (played z).2.2 ≠ 0) :
    Calls Try.prog 13 #[.slice a z.length c] w fun e w' => e = .returned (.bool true) ∧ Below w.heap.size w w' := by
  have hee : ((played z).2.2 == (played z).2.2) = true := by simp
  have e2 : ((played z).2.2 != 0) = true := by simpa using he
  have HE := Lib.hid he
  clear he
  go_enter Try.func13, Try.ntmps13
  go_wp2_with fail
  refine (fasted_any _).mono ?_
  rintro r w1 ⟨rfl, hb⟩
  go_wp2_with fail
  refine (fastRun_err z a c _ (h.below hb) HE.out).mono ?_
  rintro r w2 ⟨rfl, hk⟩
  replace hb := hb.trans (hk.mono hb.size)
  clear hk
  go_wp2_with fail
  refine (all_err z a c _ (h.below hb) HE.out).mono ?_
  rintro r w3 ⟨rfl, hk⟩
  replace hb := hb.trans (hk.mono hb.size)
  clear hk
  go_wp2
  go_ret
  exact ⟨rfl, hb⟩
set_option maxRecDepth 100000 in
set_option maxHeartbeats 4000000 in
theorem fastTrue_ok (a : Option Addr) (z : List Ev) (c : Nat) (w : World) (h : EvS w a z) (he : (played z).2.2 = 0) :
    Calls Try.prog 13 #[.slice a z.length c] w fun e w' => e = .returned (.bool true) ∧ Below w.heap.size w w' := by
  have hl80 := (played_evs he).1
  have hfl := qFlags_len z z.length
  have hLl : (raceL z).length ≤ 6400 := by
    have h1 := allR_len z z.length z.length
    have h2 : z.length * z.length ≤ 80 * 80 := Nat.mul_le_mul hl80 hl80
    simp only [raceL]
    omega
  have HH := Lib.hid (hit_all he)
  have HE := Lib.hid he
  clear he
  go_enter Try.func13, Try.ntmps13
  go_wp2_with fail
  refine (fasted_any _).mono ?_
  rintro r w1 ⟨rfl, hb⟩
  go_wp2_with fail
  refine (fastRun_ok z a c _ (h.below hb) HE.out).mono ?_
  rintro r w2 ⟨v1, rfl, hown1, hk⟩
  have hex : ∃ a2 c2, v1 = .slice a2 (qFlags z z.length).length c2 ∧ EvS w2 a2 (qFlags z z.length) := by
    obtain ⟨a, c, h1, h2, _⟩ := evS_own hown1 (by omega)
    exact ⟨a, c, h1, h2⟩
  obtain ⟨a1, c1, rfl, hAS⟩ := hex
  replace hb := hb.trans (hk.mono hb.size)
  clear hk hown1
  go_wp2_with fail
  refine (all_ok z a c _ (h.below hb) HE.out).mono ?_
  rintro r w3 ⟨v2, rfl, hown2, hk⟩
  have hex : ∃ a2 c2, v2 = .slice a2 (raceL z).length c2 ∧ RcS w3 a2 (raceL z) := rcS_own hown2 (by omega)
  obtain ⟨a2, c2, rfl, hLS⟩ := hex
  replace hAS := hAS.below hk
  replace hb := hb.trans (hk.mono hb.size)
  clear hk hown2 h HE
  generalize qFlags z z.length = A at *
  generalize raceL z = L at *
  have hb4 := Below.refl w3.heap.size w3
  go_wp2
  go_loopw [36] (fun i wr => ∃ k : Nat, k ≤ A.length ∧ i = .int .i64 k ∧ Below w3.heap.size w3 wr) (fun i _ => A.length - (intOf i).toNat)
  case atStart => exact ⟨0, Nat.zero_le _, rfl, hb4⟩
  case round =>
    clear hb4
    obtain ⟨k, hk, rfl, hb4⟩ := hrel
    by_cases hlt : k < A.length
    · obtain ⟨b', o', rfl, d0, d1, d2⟩ := (hAS.below hb4).at hlt
      have HX := Lib.hid (HH.out _ (List.getElem_mem hlt))
      generalize A[k] = x at *
      have hN := Has.new wr (evC x) 46
      have hb5 := hb4.alloc hb4.size (.cells (evC x) 46)
      obtain ⟨wo, rfl⟩ : ∃ wo : World, wo = wr := ⟨_, rfl⟩
      go_wp2
      go_loopw [9, 42] (fun v i wr => ∃ j : Nat, j ≤ L.length ∧ i = .int .i64 j ∧ v = .bool (hit L x j) ∧ Has wr wo.heap.size (evC x) 46 ∧ Below w3.heap.size w3 wr) (fun _ i _ => L.length - (intOf i).toNat)
      case atStart => exact ⟨0, Nat.zero_le _, rfl, rfl, hN, hb5⟩
      case round =>
        clear hN hb5 d0 d1 d2 hb4
        obtain ⟨j, hj, rfl, rfl, hN, hb5⟩ := hrel
        by_cases hjl : j < L.length
        · obtain ⟨g, q, rfl, e0, e1, e2, e3⟩ := (hLS.below hb5).at hjl
          have hsu := hit_succ L x hjl
          generalize L[j] = y at *
          have hN7 := hN.alloc (.cells (rcC y) 32)
          have hR7 := Has.new wr (rcC y) 32
          have hb7 := hb5.alloc hb5.size (.cells (rcC y) 32)
          obtain ⟨q1, r1⟩ : ∃ q, (y.b == x.k) = q := ⟨_, rfl⟩
          obtain ⟨q2, r2⟩ : ∃ q, (y.v == x.t) = q := ⟨_, rfl⟩
          obtain ⟨q3, r3⟩ : ∃ q, (y.k == x.o) = q := ⟨_, rfl⟩
          obtain ⟨p, hp⟩ : ∃ q, hit L x j = q := ⟨_, rfl⟩
          rw [r1, r2, r3, hp] at hsu
          rw [hp]
          have HSU := Lib.hid hsu
          clear hsu hp hb5 hN
          go_upto_region 14 with fail
          generalize wr.alloc (.cells (rcC y) 32) = w7 at *
          obtain ⟨x0, x1, x2⟩ : w7.cell? ⟨wo.heap.size, 0, none⟩ = some (.int .i64 x.k) ∧ w7.cell? ⟨wo.heap.size, 1, none⟩ = some (.int .i64 x.t) ∧ w7.cell? ⟨wo.heap.size, 2, none⟩ = some (.int .i64 x.o) := ⟨hN7.cell rfl, hN7.cell rfl, hN7.cell rfl⟩
          obtain ⟨y1, y2, y3⟩ : w7.cell? ⟨wr.heap.size, 1, none⟩ = some (.int .i64 y.b) ∧ w7.cell? ⟨wr.heap.size, 2, none⟩ = some (.int .i64 y.v) ∧ w7.cell? ⟨wr.heap.size, 3, none⟩ = some (.int .i64 y.k) := ⟨hR7.cell rfl, hR7.cell rfl, hR7.cell rfl⟩
          clear e0 e1 e2 e3
          cases p <;> cases q1 <;> cases q2 <;> cases q3 <;>
          · skip
            go_wp2
            go_roundw
            case rel => exact ⟨j + 1, by omega, by go_num, by rw [HSU.out]; rfl, hN7, hb7⟩
            case measure => (simp [intOf]; try omega)
        · obtain rfl : j = L.length := by omega
          rw [HX.out]
          go_wp2
          go_roundw
          case rel => exact ⟨k + 1, by omega, by go_num, hb5⟩
          case measure => (simp [intOf]; try omega)
    · obtain rfl : k = A.length := by omega
      go_wp2
      go_ret
      exact ⟨rfl, hb.trans (hb4.mono hb.size)⟩
theorem fastTrue_walk (a : Option Addr) (z : List Ev) (c : Nat) (w : World) (hf : EvS w a z ∧ z.length ≤ c ∧ z.length * 24 ≤ 140737488351232 ∧ ∀ e ∈ z, I64 e.k ∧ I64 e.t ∧ I64 e.o) :
    Calls Try.prog 13 #[.slice a z.length c] w fun e w' => e = .returned (.bool true) ∧ Below w.heap.size w w' := by
  by_cases hm : (played z).2.2 = 0
  · exact fastTrue_ok a z c w hf.1 hm
  · exact fastTrue_err a z c w hf.1 hm
/-! The frame of the law FastTrue, by program. -/
set_option maxRecDepth 100000 in
theorem fastTrue_lifted (os : Os) (started : os.Started) (H : Type) (enc : TypeId × Value → H) :
    ReturnsInHanded {} Try.checked os 13 .any (Rows.fastTrueSpec.pre6 enc Try.prog Try.f13 Rows.fastTrueRow.domain false) (Rows.fastTrueSpec.post enc Try.prog Try.f13 false true false false) := by
  refine returnsInHanded_of_change_shaped (C := Try.checked) frame_own started (by kernel_rfl) Try.func13
    (ChangeSpec.witness6 (enc := enc) (C := Try.checked) false ⟨#[], #[.slice none 0 0], []⟩ 8 (by kernel_rfl) (by kernel_rfl) (by kernel_rfl) (by kernel_rfl)) ?_
  intro W base args ds gs before hval0 hW hcnd hsz hshaped hroom
  clear hcnd hshaped
  have hval : ∀ (j : Nat) t v, Try.f13.params[j]? = some t → args[j]? = some v → Value.okWide Try.prog W .any base t v := hval0
  have hW' := hW
  obtain ⟨p, q, hA0, hV, rfl, hfz, hnd⟩ := hW
  have hA : DataW.TrodAll enc Try.prog W 0 (fun _ => true) true Try.f13.params.toList args.toList ds p := hA0
  rw [Try.params13] at hA hval
  obtain ⟨v0, vs0, d0, ds0, p0, q0, hargs, rfl, rfl, h0, r0⟩ := trodAll_cons hA
  obtain ⟨rfl, rfl, rfl⟩ := trodAll_nil r0
  obtain rfl : args = #[v0] := by cases args; simp_all
  obtain ⟨rfl, rfl⟩ := trodVars_none hV
  have k0 := h0
  have lt0 : ∀ x ∈ p0, x.block < W.heap.size := by obtain ⟨m, hm⟩ := k0; exact DataW.trod_lt m _ _ _ hm
  obtain ⟨a0, z0, c0, rfl, w0⟩ := open_evs (hval 0 22 v0 rfl rfl) h0 (fun els sp hd => sized_slice hsz (j := 0) rfl (by rw [hd]; rfl) Try.underlying22)
  clear hA0 hval0
  refine (fastTrue_walk a0 z0 c0 W w0).mono fun e W' ⟨he, bel⟩ => ?_
  subst he
  exact ⟨_, rfl, _, _, _, [], _, [], hW', trodAll_mk1 (shut_bool Try.underlying4 _), (trodAll_cons_mk (Below.trod frame_laid (by kernel_rfl) (of_decide_eq_true (by kernel_rfl)) k0 bel lt0) trodAll_mk0), rfl, bel.frame _, fun h => by cases h⟩

theorem fastTrue_over : Rows.fastTrueRow.holds Try.pinned (OpenSpec.ofChange Rows.fastTrueSpec) :=
  OpenClaim.holds_of_wide 13 Try.f13 rfl rfl rfl rfl rfl rfl rfl ⟨rfl, rfl, rfl, rfl, rfl⟩ rfl rfl rfl rfl rfl (by kernel_rfl) Try.func13 (by kernel_rfl)
    (of_decide_eq_true (by kernel_rfl)) (by unfold Func.isWrapper; first | (rw [if_pos (by decide +kernel)]; kernel_rfl) | (rw [if_neg (by decide +kernel)]; exact ⟨rfl, rfl⟩))
    (fun os started H enc _ => fastTrue_lifted os started H enc)

/-- The statement. -/
theorem fastTrue_holds : Rows.FastTrueSaid := fastTrue_over

end Go.Proofs.Ytgliichceildgaa

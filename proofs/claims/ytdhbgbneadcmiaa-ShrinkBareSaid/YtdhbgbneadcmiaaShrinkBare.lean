/- ShrinkBare: a reduced trace consists of two racing accesses and the necessary Forks: for every trace. -/
import Derived.Test.YtdhbgbneadcmiaaRows
import Derived.Test.YtdhbgbneadcmiaaShd
import Derived.Test.YtdhbgbneadcmiaaShB
import Derived.Test.YtdhbgbneadcmiaaOpenE
namespace Go.Proofs.Ytdhbgbneadcmiaa
open Go.ChangeShapes Go.WideShapes Go.ChangeAt Go.RowKit

/-- Accesses among the first n. -/
def accTo (m : List Ev) (n : Nat) : Nat := ((m.take n).filter fun e => decide (e.k ≤ 2)).length
theorem accTo_succ {m : List Ev} {n : Nat} (h : n < m.length) : accTo m (n + 1) = accTo m n + if m[n].k ≤ 2 then 1 else 0 := by
  unfold accTo
  rw [List.take_add_one, List.getElem?_eq_getElem h, Option.toList_some, List.filter_append, List.length_append]
  by_cases c : m[n].k ≤ 2 <;> simp [c]
theorem accTo_le (m : List Ev) (n : Nat) : accTo m n ≤ n := by
  unfold accTo
  have := List.length_filter_le (fun e : Ev => decide (e.k ≤ 2)) (m.take n)
  simp at this ⊢
  omega
theorem bare_acc {m : List Ev} {i j : Nat} (hb : Bare m i j) : accTo m m.length = 2 := by
  have h0 : ∀ n, n ≤ m.length → accTo m n = (if i < n then 1 else 0) + (if j < n then 1 else 0) := by
    intro n
    induction n with
    | zero => intro _; rfl
    | succ n ih =>
      intro hn
      rw [accTo_succ (by omega), ih (by omega)]
      obtain ⟨r1, r2, _⟩ := raceB_iff.1 hb.race
      have r1 := isAcc_iff.1 r1
      have r2 := isAcc_iff.1 r2
      have hlt := hb.lt
      have hl := hb.last
      have e1 : evAt m n = m[n] := evAt_lt (by omega)
      by_cases c1 : n = i
      · subst c1
        rw [e1] at r1
        rw [if_pos (show m[n].k ≤ 2 by omega), if_neg (by omega), if_neg (by omega), if_pos (by omega), if_neg (by omega)]
      · by_cases c2 : n = j
        · subst c2
          rw [e1] at r2
          rw [if_pos (show m[n].k ≤ 2 by omega), if_pos (by omega), if_neg (by omega), if_pos (by omega), if_pos (by omega)]
        · have h5 := hb.forks n (by omega) c1 c2
          rw [e1] at h5
          rw [if_neg (show ¬ m[n].k ≤ 2 by omega)]
          repeat' split
          all_goals omega
  have := hb.last
  have := hb.lt
  rw [h0 _ (Nat.le_refl _), if_pos (by omega), if_pos (by omega)]
theorem bare_kind {m : List Ev} {i j : Nat} (hb : Bare m i j) {n : Nat} (hn : n < m.length) (h2 : ¬ m[n].k ≤ 2) : m[n].k = 5 := by
  obtain ⟨r1, r2, _⟩ := raceB_iff.1 hb.race
  have r1 := isAcc_iff.1 r1
  have r2 := isAcc_iff.1 r2
  have e1 : evAt m n = m[n] := evAt_lt hn
  by_cases c1 : n = i
  · subst c1; rw [e1] at r1; omega
  · by_cases c2 : n = j
    · subst c2; rw [e1] at r2; omega
    · rw [← e1]; exact hb.forks n hn c1 c2
theorem all_one (l : List Ev) (n : Nat) (hn : l.length = n) (a : Option Addr) (c : Nat) (w : World) (h : EvS w a l) (he : (played l).2.2 = 0) (hr : (raceL l).length = 1) :
    Calls Try.prog 13 #[.slice a n c] w fun r w' => (∃ a' c', r = .returned (.tuple #[.slice a' 1 c', .int .i64 0])) ∧ Below w.heap.size w w' := by
  subst hn
  refine (all_ok l a c w h he).mono ?_
  rintro r w1 ⟨v, rfl, hown, hb⟩
  rw [hr] at hown
  refine ⟨?_, hb⟩
  rcases hown.2 with ⟨rfl, h0⟩ | ⟨g, cap, cur, rfl, _⟩
  · cases h0
  · exact ⟨_, _, rfl⟩
set_option maxRecDepth 100000 in
set_option maxHeartbeats 2000000 in
theorem shrinkBare_walk (a : Option Addr) (z : List Ev) (c : Nat) (w : World) (hf : EvS w a z ∧ z.length ≤ c ∧ z.length * 24 ≤ 140737488351232 ∧ ∀ e ∈ z, I64 e.k ∧ I64 e.t ∧ I64 e.o) :
    Calls Try.prog 5 #[.slice a z.length c] w fun e w' => e = .returned (.bool true) ∧ Below w.heap.size w w' := by
  have h := hf.1
  clear hf
  by_cases hr : Racy z
  · have hm := (mini_is z).racy hr
    obtain ⟨i, j, hB⟩ := bare_of hm (mini_is z).min
    have hml := (played_evs hm.ok).1
    have hm7 := bare_len hm.ok hB
    have hone := bare_one hB
    have hacc := bare_acc hB
    have hkind := fun n hn => bare_kind (n := n) hB hn
    have HC := Lib.hid fun W (hW : EvS W a z) => min_ok z z.length rfl a c W hW hr
    have HA := Lib.hid fun (a : Option Addr) (c : Nat) (W : World) (hW : EvS W a (mini z)) => all_one (mini z) _ rfl a c W hW hm.ok hone
    have HK := Lib.hid hkind
    have HAC := Lib.hid hacc
    have H7 := Lib.hid hm7
    clear hm hr hB hone hacc hkind hm7
    generalize mini z = M at *
    go_enter Try.func5, Try.ntmps5
    go_wp2_with fail
    refine (shrunk_any _).mono ?_
    rintro r w1 ⟨rfl, hb⟩
    go_wp2_with fail
    refine (HC.out _ (h.below hb)).mono ?_
    rintro r w2 ⟨a2, c2, rfl, hS, hk⟩
    replace hb := hb.trans (hk.mono hb.size)
    clear hk HC h
    have hI := Below.refl w2.heap.size w2
    go_wp2
    go_loopw [5, 24] (fun q i wr => ∃ k : Nat, k ≤ M.length ∧ i = .int .i64 k ∧ q = .int .i64 (accTo M k : Nat) ∧ Below w2.heap.size w2 wr) (fun _ i _ => M.length - (intOf i).toNat)
    case atStart => exact ⟨0, Nat.zero_le _, rfl, rfl, hI⟩
    case round =>
      clear hI
      obtain ⟨k, hk, rfl, rfl, hb2⟩ := hrel
      by_cases hlt : k < M.length
      · obtain ⟨g, o, rfl, d0, d1, d2⟩ := (hS.below hb2).at hlt
        have hs := accTo_succ hlt
        have hle := accTo_le M k
        have hk5 := HK.out k hlt
        generalize M[k] = x at *
        generalize accTo M k = Q at *
        have hN := Has.new wr (evC x) 40
        have hb3 := hb2.alloc hb2.size (.cells (evC x) 40)
        have k0 : (0 : Int) ≤ k := by omega
        have k1 : (k : Int) < M.length := by omega
        have hqw := IntWalk.i64_in ((Q : Int) + 1) (by omega)
        have HS := Lib.hid hs
        have HK5 := Lib.hid hk5
        clear hs hk5 hb2
        go_upto_region 10 with fail
        clear d0 d1 d2
        generalize wr.alloc (.cells (evC x) 40) = w3 at *
        obtain ⟨x0, x1, x2⟩ : w3.cell? ⟨wr.heap.size, 0, none⟩ = some (.int .i64 x.k) ∧ w3.cell? ⟨wr.heap.size, 1, none⟩ = some (.int .i64 x.t) ∧ w3.cell? ⟨wr.heap.size, 2, none⟩ = some (.int .i64 x.o) := ⟨hN.cell rfl, hN.cell rfl, hN.cell rfl⟩
        by_cases c : x.k ≤ 2
        · have e1 : decide (x.k ≤ 2) = true := decide_eq_true c
          have HQ := Lib.hid (show accTo M (k + 1) = Q + 1 by rw [HS.out, if_pos c])
          clear HK5 c
          go_wp2
          go_roundw
          case rel => exact ⟨k + 1, by omega, by go_num, by rw [HQ.out]; go_num, hb3⟩
          case measure => (simp [intOf]; try omega)
        · have e1 : decide (x.k ≤ 2) = false := decide_eq_false c
          have e2 : (x.k != 5) = false := by have := HK5.out (by omega); simp [this]
          have HQ := Lib.hid (show accTo M (k + 1) = Q by rw [HS.out, if_neg c]; rfl)
          clear HK5 c
          go_wp2
          go_roundw
          case rel => exact ⟨k + 1, by omega, by go_num, by rw [HQ.out], hb3⟩
          case measure => (simp [intOf]; try omega)
      · obtain rfl : k = M.length := by omega
        have hb3 := hb.trans (hb2.mono hb.size)
        have hS3 := hS.below hb2
        have h7 : decide ((M.length : Int) ≤ 7) = true := decide_eq_true (by have := H7.out; omega)
        have h7' : decide (M.length ≤ 7) = true := decide_eq_true (by have := H7.out; omega)
        rw [HAC.out]
        clear hb hb2 hS
        go_wp2_with fail
        refine (HA.out _ _ _ hS3).mono ?_
        rintro r w4 ⟨⟨a4, c4, rfl⟩, hk4⟩
        have hb4 := hb3.trans (hk4.mono hb3.size)
        go_wp2
        go_ret
        exact ⟨rfl, hb4⟩
  · have HC := Lib.hid fun W (hW : EvS W a z) => min_no z z.length rfl a c W hW hr
    have hq : ((if (played z).2.2 = 0 then 7 else (played z).2.2) != 0) = true := by
      split
      · rfl
      · simpa using (by assumption)
    clear hr
    generalize (if (played z).2.2 = 0 then 7 else (played z).2.2) = E at *
    go_enter Try.func5, Try.ntmps5
    go_wp2_with fail
    refine (shrunk_any _).mono ?_
    rintro r w1 ⟨rfl, hb⟩
    go_wp2_with fail
    refine (HC.out _ (h.below hb)).mono ?_
    rintro r w2 ⟨rfl, hk⟩
    replace hb := hb.trans (hk.mono hb.size)
    go_wp2
    go_ret
    exact ⟨rfl, hb⟩
/-! The frame of the law ShrinkBare, by program. -/
set_option maxRecDepth 100000 in
theorem shrinkBare_lifted (os : Os) (started : os.Started) (H : Type) (enc : TypeId × Value → H) :
    ReturnsInHanded {} Try.checked os 5 .any (Rows.shrinkBareSpec.pre6 enc Try.prog Try.f5 Rows.shrinkBareRow.domain false) (Rows.shrinkBareSpec.post enc Try.prog Try.f5 false true false false) := by
  refine returnsInHanded_of_change_shaped (C := Try.checked) frame_own started (by kernel_rfl) Try.func5
    (ChangeSpec.witness6 (enc := enc) (C := Try.checked) false ⟨#[], #[.slice none 0 0], []⟩ 8 (by kernel_rfl) (by kernel_rfl) (by kernel_rfl) (by kernel_rfl)) ?_
  intro W base args ds gs before hval0 hW hcnd hsz hshaped hroom
  clear hcnd hshaped
  have hval : ∀ (j : Nat) t v, Try.f5.params[j]? = some t → args[j]? = some v → Value.okWide Try.prog W .any base t v := hval0
  have hW' := hW
  obtain ⟨p, q, hA0, hV, rfl, hfz, hnd⟩ := hW
  have hA : DataW.TrodAll enc Try.prog W 0 (fun _ => true) true Try.f5.params.toList args.toList ds p := hA0
  rw [Try.params5] at hA hval
  obtain ⟨v0, vs0, d0, ds0, p0, q0, hargs, rfl, rfl, h0, r0⟩ := trodAll_cons hA
  obtain ⟨rfl, rfl, rfl⟩ := trodAll_nil r0
  obtain rfl : args = #[v0] := by cases args; simp_all
  obtain ⟨rfl, rfl⟩ := trodVars_none hV
  have k0 := h0
  have lt0 : ∀ x ∈ p0, x.block < W.heap.size := by obtain ⟨m, hm⟩ := k0; exact DataW.trod_lt m _ _ _ hm
  obtain ⟨a0, z0, c0, rfl, w0⟩ := open_evs (hval 0 22 v0 rfl rfl) h0 (fun els sp hd => sized_slice hsz (j := 0) rfl (by rw [hd]; rfl) Try.underlying22)
  clear hA0 hval0
  refine (shrinkBare_walk a0 z0 c0 W w0).mono fun e W' ⟨he, bel⟩ => ?_
  subst he
  exact ⟨_, rfl, _, _, _, [], _, [], hW', trodAll_mk1 (shut_bool Try.underlying4 _), (trodAll_cons_mk (Below.trod frame_laid (by kernel_rfl) (of_decide_eq_true (by kernel_rfl)) k0 bel lt0) trodAll_mk0), rfl, bel.frame _, fun h => by cases h⟩

theorem shrinkBare_over : Rows.shrinkBareRow.holds Try.pinned (OpenSpec.ofChange Rows.shrinkBareSpec) :=
  OpenClaim.holds_of_wide 5 Try.f5 rfl rfl rfl rfl rfl rfl rfl ⟨rfl, rfl, rfl, rfl, rfl⟩ rfl rfl rfl rfl rfl (by kernel_rfl) Try.func5 (by kernel_rfl)
    (of_decide_eq_true (by kernel_rfl)) (by unfold Func.isWrapper; first | (rw [if_pos (by decide +kernel)]; kernel_rfl) | (rw [if_neg (by decide +kernel)]; exact ⟨rfl, rfl⟩))
    (fun os started H enc _ => shrinkBare_lifted os started H enc)

/-- The statement. -/
theorem shrinkBare_holds : Rows.ShrinkBareSaid := shrinkBare_over

end Go.Proofs.Ytdhbgbneadcmiaa

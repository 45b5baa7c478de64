/- RingLess: with fewer pairs there is no shorter ring. -/
import Derived.Test.YtjpopjjjnaapnaaRows
import Derived.Test.YtjpopjjjnaapnaaRgP
import Derived.Test.YtjpopjjjnaapnaaRgE
import Derived.Test.YtjpopjjjnaapnaaOpenP
namespace Go.Proofs.Ytjpopjjjnaapnaa
open Go.ChangeShapes Go.WideShapes Go.ChangeAt Go.RowKit

theorem ringOf_n (p : List (Int × Int)) (n : Nat) (hn : p.length = n) (a : Option Addr) (c : Nat) (w : World) (h : PrS w a p) (hp : okPr p) :
    Calls Try.prog 17 #[.slice a n c] w (RingPost (ringP (edgeP p)) w) := by
  subst hn; exact ringOf_ok p a c w h hp
theorem ringLess_walk (a : Option Addr) (z : List (Int × Int)) (c : Nat) (n : Int) (w : World) (h : PrS w a z ∧ z.length * 16 ≤ 140737488351232) (_ : I64 n) :
    Calls Try.prog 4 #[.slice a z.length c, .int .i64 n] w fun e w' => e = .returned (.bool true) ∧ Below w.heap.size w w' := by
  obtain ⟨h1, h2⟩ := h
  have hbig := h1.big
  have q0 := Int.emod_nonneg n (show (z.length : Int) + 1 ≠ 0 by omega)
  have q1 := Int.emod_lt_of_pos n (show 0 < (z.length : Int) + 1 by omega)
  obtain ⟨k, hk⟩ := Int.eq_ofNat_of_zero_le q0
  have hkz : k ≤ z.length := by omega
  have HK := Lib.hid hk
  clear hk q0 q1
  go_enter Try.func4, Try.ntmps4
  go_wp2_with fail
  refine (ringed_any _).mono ?_
  rintro r w1 ⟨rfl, hb⟩
  go_wp2_with fail
  refine (locks_any z _ c _ (h1.below hb) h2).mono ?_
  rintro r w2 ⟨a2, c2, rfl, hP, hc2, hk⟩
  replace hb := hb.trans (hk.mono hb.size)
  clear hk h1
  have hl : (z.map lockP).length = z.length := List.length_map _
  have hok := lockP_ok z
  generalize z.map lockP = p at *
  have T2 := Lib.hid (show (p.take k).length = k by simp; omega)
  have HL := Lib.hid hl
  have HO := Lib.hid hok
  have hmono := fun (hh : ringP (edgeP (p.take k)) ≠ []) => ringP_mono (E := edgeP (p.take k)) (F := edgeP p) (fun i j _ _ e => by
    simp only [edgeP, hasB, decide_eq_true_eq] at e ⊢
    exact List.mem_of_mem_take e) hh
  have HM := Lib.hid hmono
  have hok2 : okPr (p.take k) := fun x hx => hok x (List.mem_of_mem_take hx)
  have HO2 := Lib.hid hok2
  clear hl hok hmono hok2
  have hkz2 : (k : Int) ≤ z.length := by omega
  have hkc : (k : Int) ≤ c2 := by omega
  go_wp2_with fail
  refine (rest_any n ((z.length : Int) + 1) _ (by omega) (by omega)).mono ?_
  rintro r w3 ⟨rfl, rfl⟩
  rw [HK.out]
  go_wp2_with fail
  refine (ringOf_n p z.length HL.out _ _ _ hP HO.out).mono ?_
  rintro r w4 ⟨a4, c4, rfl, hI4, hk⟩
  replace hb := hb.trans (hk.mono hb.size)
  have hP2 := (hP.take k).below hk
  clear hk hP
  go_wp2_with fail
  refine (ringOf_n (p.take k) k T2.out _ _ _ hP2 HO2.out).mono ?_
  rintro r w5 ⟨a5, c5, rfl, hI5, hk⟩
  replace hb := hb.trans (hk.mono hb.size)
  have hlen : (ringP (edgeP (p.take k))).length = 0 ∨ ((0 < (ringP (edgeP p)).length) ∧ (ringP (edgeP p)).length ≤ (ringP (edgeP (p.take k))).length) := by
    by_cases e : ringP (edgeP (p.take k)) = []
    · left; rw [e]; rfl
    · obtain ⟨e1, e2⟩ := HM.out e
      exact .inr ⟨List.length_pos_iff.2 e1, e2⟩
  clear hk hP2 hI4 hI5 HM HO HO2 T2 HL
  generalize (ringP (edgeP (p.take k))).length = x at *
  generalize (ringP (edgeP p)).length = y at *
  rcases hlen with rfl | ⟨e1, e2⟩
  · go_wp2
    go_ret
    exact ⟨rfl, hb⟩
  · have t1 : ((x : Int) == 0) = false := beq_eq_false_iff_ne.2 (by omega)
    have t2 : decide ((y : Int) > 0) = true := decide_eq_true (by omega)
    have t3 : decide ((y : Int) ≤ (x : Int)) = true := decide_eq_true (by omega)
    go_wp2
    go_ret
    exact ⟨rfl, hb⟩
/-! The frame of the law RingLess, by program. -/
set_option maxRecDepth 100000 in
theorem ringLess_lifted (os : Os) (started : os.Started) (H : Type) (enc : TypeId × Value → H) :
    ReturnsInHanded {} Try.checked os 4 .any (Rows.ringLessSpec.pre6 enc Try.prog Try.f4 Rows.ringLessRow.domain false) (Rows.ringLessSpec.post enc Try.prog Try.f4 false true false false) := by
  refine returnsInHanded_of_change_shaped (C := Try.checked) frame_own started (by kernel_rfl) Try.func4
    (ChangeSpec.witness6 (enc := enc) (C := Try.checked) false ⟨#[], #[.slice none 0 0, .int .i64 0], []⟩ 8 (by kernel_rfl) (by kernel_rfl) (by kernel_rfl) (by kernel_rfl)) ?_
  intro W base args ds gs before hval0 hW hcnd hsz hshaped hroom
  clear hcnd hshaped
  have hval : ∀ (j : Nat) t v, Try.f4.params[j]? = some t → args[j]? = some v → Value.okWide Try.prog W .any base t v := hval0
  have hW' := hW
  obtain ⟨p, q, hA0, hV, rfl, hfz, hnd⟩ := hW
  have hA : DataW.TrodAll enc Try.prog W 0 (fun _ => true) true Try.f4.params.toList args.toList ds p := hA0
  rw [Try.params4] at hA hval
  obtain ⟨v0, vs0, d0, ds0, p0, q0, hargs, rfl, rfl, h0, r0⟩ := trodAll_cons hA
  obtain ⟨v1, vs1, d1, ds1, p1, q1, rfl, rfl, rfl, h1, r1⟩ := trodAll_cons r0
  obtain ⟨rfl, rfl, rfl⟩ := trodAll_nil r1
  obtain rfl : args = #[v0, v1] := by cases args; simp_all
  obtain ⟨rfl, rfl⟩ := trodVars_none hV
  have k0 := h0
  have lt0 : ∀ x ∈ p0, x.block < W.heap.size := by obtain ⟨m, hm⟩ := k0; exact DataW.trod_lt m _ _ _ hm
  obtain ⟨a0, z0, c0, rfl, w0⟩ := open_prs (hval 0 22 v0 rfl rfl) h0 (fun els sp hd => sized_slice hsz (j := 0) rfl (by rw [hd]; rfl) Try.underlying22)
  have k1 := h1
  have lt1 : ∀ x ∈ p1, x.block < W.heap.size := by obtain ⟨m, hm⟩ := k1; exact DataW.trod_lt m _ _ _ hm
  obtain ⟨a1, rfl, rfl, rfl, w1⟩ := open_int Try.underlying3 (hval 1 3 v1 rfl rfl) h1
  clear hA0 hval0
  refine (ringLess_walk a0 z0 c0 a1 W w0 (wf_i64 w1)).mono fun e W' ⟨he, bel⟩ => ?_
  subst he
  exact ⟨_, rfl, _, _, _, [], _, [], hW', trodAll_mk1 (shut_bool Try.underlying4 _), (trodAll_cons_mk (Below.trod frame_laid (by kernel_rfl) (of_decide_eq_true (by kernel_rfl)) k0 bel lt0) (trodAll_cons_mk (Below.trod frame_laid (by kernel_rfl) (of_decide_eq_true (by kernel_rfl)) k1 bel lt1) trodAll_mk0)), rfl, bel.frame _, fun h => by cases h⟩

theorem ringLess_over : Rows.ringLessRow.holds Try.pinned (OpenSpec.ofChange Rows.ringLessSpec) :=
  OpenClaim.holds_of_wide 4 Try.f4 rfl rfl rfl rfl rfl rfl rfl ⟨rfl, rfl, rfl, rfl, rfl⟩ rfl rfl rfl rfl rfl (by kernel_rfl) Try.func4 (by kernel_rfl)
    (of_decide_eq_true (by kernel_rfl)) (by unfold Func.isWrapper; first | (rw [if_pos (by decide +kernel)]; kernel_rfl) | (rw [if_neg (by decide +kernel)]; exact ⟨rfl, rfl⟩))
    (fun os started H enc _ => ringLess_lifted os started H enc)

/-- The statement. -/
theorem ringLess_holds : Rows.RingLessSaid := ringLess_over

end Go.Proofs.Ytjpopjjjnaapnaa

/- PackBack, where what it reads is of bulk at most 1048576: an encoded trace is decoded unchanged, and a decoded one is encoded as before. -/
import Derived.Test.YtcfjbgocfcjnhaaRows
import Derived.Test.YtcfjbgocfcjnhaaPkE
import Derived.Test.YtcfjbgocfcjnhaaOpenE
import Derived.Test.YtcfjbgocfcjnhaaUpto
import Derived.ChangeMaps5
namespace Go.Proofs.Ytcfjbgocfcjnhaa
open Go.ChangeShapes Go.WideShapes Go.ChangeAt Go.RowKit

theorem str_nums (s : ByteArray) : ∃ L : List Int, s = strOfNums L ∧ byteL L ∧ L.length = s.size := by
  refine ⟨s.data.toList.map fun b => (b.toNat : Int), ?_, ?_, ?_⟩
  · apply ByteArray.ext
    have e : ((fun n : Int => UInt8.ofNat n.toNat) ∘ fun b : UInt8 => (b.toNat : Int)) = id := by
      funext b
      simp
    simp only [strOfNums, List.map_map, e, List.map_id]
  · intro n hn
    obtain ⟨b, _, rfl⟩ := List.mem_map.1 hn
    have := b.toNat_lt
    omega
  · rw [List.length_map, Array.length_toList]; rfl
theorem read_s (s : ByteArray) (L : List Int) (hs : s = strOfNums L) (hr : byteL L) (hl : L.length ≤ 1048576) (w : World) :
    Calls Try.prog 19 #[.string s] w (ReadPost L w) := by
  subst hs; exact read_any L hr hl w
theorem mayB_no {l : List Ev} (h : (played l).2.2 ≠ 0) : mayB l = false := by
  unfold mayB; simpa using h
theorem mayB_yes {l : List Ev} (h : (played l).2.2 = 0) : mayB l = true := by
  unfold mayB; simpa using h
set_option maxRecDepth 100000 in
set_option maxHeartbeats 4000000 in
theorem packBack_walk (a : Option Addr) (z : List Ev) (c : Nat) (s : ByteArray) (w : World) (h : EvS w a z ∧ z.length ≤ c ∧ z.length * 24 ≤ 140737488351232 ∧ ∀ e ∈ z, I64 e.k ∧ I64 e.t ∧ I64 e.o) (_ : z.length ≤ 1048576) (hs : s.size ≤ 1048576) :
    Calls Try.prog 4 #[.slice a z.length c, .string s] w fun e w' => e = .returned (.bool true) ∧ Below w.heap.size w w' := by
  obtain ⟨h1, hc, h2, _⟩ := h
  obtain ⟨L, hsL, hr, hl⟩ := str_nums s
  have HS := Lib.hid hsL
  have HR := Lib.hid hr
  have HL := Lib.hid (show L.length ≤ 1048576 by omega)
  clear hsL hr hl
  go_enter Try.func4, Try.ntmps4
  go_wp2_with fail
  refine (packed_any _).mono ?_
  rintro r w1 ⟨rfl, hb⟩
  replace h1 := h1.below hb
  by_cases he : (played z).2.2 = 0
  case' pos =>
    obtain ⟨hl80, hev⟩ := played_evs he
    have HE := Lib.hid he
    have HM := Lib.hid (mayB_yes he)
    have HRV := Lib.hid (read_pack he)
    have HRG := Lib.hid (pack_rng hev hl80)
    have HPL := Lib.hid (packL_len z)
    clear he hev
    go_wp2_with fail
    refine (pack_ok z _ _ _ h1 HE.out).mono ?_
    rintro r w2 ⟨rfl, hk⟩
    replace hb := hb.trans (hk.mono hb.size)
    replace h1 := h1.below hk
    clear hk
    go_wp2_with fail
    refine (may_any z _ _ _ h1).mono ?_
    rintro r w3 ⟨rfl, hk⟩
    replace hb := hb.trans (hk.mono hb.size)
    replace h1 := h1.below hk
    clear hk
    rw [HM.out]
    go_wp2_with fail
    refine (read_any (packL z) HRG.out (by rw [HPL.out]; omega) _).mono ?_
    rintro r w4 ⟨a4, c4, rfl, hE4, hk⟩
    replace hb := hb.trans (hk.mono hb.size)
    replace h1 := h1.below hk
    clear hk
    rw [HRV.out] at hE4 ⊢
    simp only at hE4 ⊢
    have hsz : (strOfNums (packL z)).size = 4 + 2 * z.length := by rw [str_size, HPL.out]
    generalize strOfNums (packL z) = t at *
    go_wp2_with fail
    refine (eqEv_any z z _ _ _ _ _ hE4 h1).mono ?_
    rintro r w5 ⟨rfl, hk⟩
    replace hb := hb.trans (hk.mono hb.size)
    clear hk h1 hE4
    rw [show eqB z z = true from eqB_iff.2 rfl]
    go_upto_region 10 with fail
    clear hsz HE HM HRV HRG HPL
  case' neg =>
    have HM := Lib.hid (mayB_no he)
    have he2 : ((played z).2.2 == 0) = false := by simpa using he
    go_wp2_with fail
    refine (pack_err z _ _ _ h1 he).mono ?_
    rintro r w2 ⟨rfl, hk⟩
    replace hb := hb.trans (hk.mono hb.size)
    replace h1 := h1.below hk
    clear hk he
    go_wp2_with fail
    refine (may_any z _ _ _ h1).mono ?_
    rintro r w3 ⟨rfl, hk⟩
    replace hb := hb.trans (hk.mono hb.size)
    clear hk h1
    rw [HM.out]
    go_upto_region 10 with fail
    clear HM he2
  all_goals
    go_wp2_with fail
    refine (read_s s L HS.out HR.out HL.out _).mono ?_
    rintro r w6 ⟨a6, c6, rfl, hE6, hk⟩
    replace hb := hb.trans (hk.mono hb.size)
    clear hk
    by_cases hf : (readV L).2 = 0
    · obtain ⟨hp, hL⟩ := readV_ok hf
      have HP := Lib.hid hp
      have hst : ((strOfNums (packL (readV L).1)).toList == s.toList) = true := by rw [strEq, decide_eq_true_eq, hL, HS.out]
      rw [hf]
      clear hp hL hf
      generalize (readV L).1 = M at *
      go_wp2_with fail
      refine (pack_ok M _ _ _ hE6 HP.out).mono ?_
      rintro r w7 ⟨rfl, hk⟩
      replace hb := hb.trans (hk.mono hb.size)
      clear hk hE6
      go_wp2
      go_ret
      exact ⟨rfl, hb⟩
    · have hn := readV_no hf
      rw [hn] at hE6 ⊢
      have hf2 : ((readV L).2 != 0) = true := by simpa using hf
      clear hn hf
      generalize (readV L).2 = f at *
      go_wp2_with fail
      refine (pack_n [] 0 rfl _ _ _ hE6 (by decide +kernel)).mono ?_
      rintro r w7 ⟨rfl, hk⟩
      replace hb := hb.trans (hk.mono hb.size)
      clear hk hE6
      generalize strOfNums (packL []) = u at *
      go_wp2
      go_ret
      exact ⟨rfl, hb⟩
/-! The frame of the law PackBack (where what it reads is small), by program. -/
set_option maxRecDepth 100000 in
theorem packBack_contract (H : Type) (enc : TypeId × Value → H) (W : World) (base : Nat) (args : Array Value) (ds gs : List (DataW H)) (before : List MemPlace)
    (hval0 : ∀ (j : Nat) t v, Try.f4.params[j]? = some t → args[j]? = some v → Value.okWide Try.prog W .any base t v)
    (hW : DataW.Whole enc Try.prog Try.f4.params.toList Rows.packBackSpec.vars false W args.toList ds gs before) (hk : Rows.uptoSmall H (ds ++ gs) = true) :
    Calls Try.prog 4 args W fun e W' => ∃ v, e = .returned v ∧ Rows.packBackSpec.post enc Try.prog Try.f4 false true false false W args v W' := by
  have hval : ∀ (j : Nat) t v, Try.f4.params[j]? = some t → args[j]? = some v → Value.okWide Try.prog W .any base t v := hval0
  have hW' := hW
  obtain ⟨p, q, hA0, hV, rfl, hfz, hnd⟩ := hW
  have hA : DataW.TrodAll enc Try.prog W 0 (fun _ => true) true Try.f4.params.toList args.toList ds p := hA0
  rw [Try.params4] at hA hval
  obtain ⟨v0, vs0, d0, ds0, p0, q0, hargs, rfl, rfl, h0, r0⟩ := trodAll_cons hA
  obtain ⟨v1, vs1, d1, ds1, p1, q1, rfl, rfl, rfl, h1, r1⟩ := trodAll_cons r0
  obtain ⟨rfl, rfl, rfl⟩ := trodAll_nil r1
  obtain rfl : args = #[v0, v1] := by cases args; simp_all
  obtain ⟨rfl, rfl⟩ := trodVars_none hV
  have k0 := h0
  have lt0 : ∀ x ∈ p0, x.block < W.heap.size := by obtain ⟨m, hm⟩ := k0; exact DataW.trod_lt m _ _ _ hm
  obtain ⟨a0, z0, c0, rfl, w0⟩ := open_evs (hval 0 28 v0 rfl rfl) h0 (fun els sp hd => Nat.le_trans (Nat.mul_le_mul_right _ (upto_slice hk (by simp) hd)) (of_decide_eq_true (by kernel_rfl)))
  have n0 : z0.length ≤ 1048576 := upto_len Try.underlying28 k0 hk (by simp)
  have k1 := h1
  have lt1 : ∀ x ∈ p1, x.block < W.heap.size := by obtain ⟨m, hm⟩ := k1; exact DataW.trod_lt m _ _ _ hm
  obtain ⟨a1, rfl, rfl, rfl, w1⟩ := Go.ChangeMaps.open_string Try.underlying9 (hval 1 9 v1 rfl rfl) h1
  have n1 : a1.size ≤ 1048576 := upto_str hk (by simp)
  clear hA0 hval0 hk
  refine (packBack_walk a0 z0 c0 a1 W w0 n0 n1).mono fun e W' ⟨he, bel⟩ => ?_
  subst he
  exact ⟨_, rfl, _, _, _, [], _, [], hW', trodAll_mk1 (shut_bool Try.underlying4 _), (trodAll_cons_mk (Below.trod frame_laid (by kernel_rfl) (of_decide_eq_true (by kernel_rfl)) k0 bel lt0) (trodAll_cons_mk (Below.trod frame_laid (by kernel_rfl) (of_decide_eq_true (by kernel_rfl)) k1 bel lt1) trodAll_mk0)), rfl, bel.frame _, fun h => by cases h⟩
set_option maxRecDepth 100000 in
theorem packBack_lifted (os : Os) (started : os.Started) (H : Type) (enc : TypeId × Value → H) (F : Stop.Interp) :
    ReturnsInHanded {} Try.checked os 4 .any ((Rows.OpenSpec.upto Rows.packBackSpec).pre6 enc Try.prog Try.f4 Rows.packBackUptoRow.domain false) (((Rows.OpenSpec.upto Rows.packBackSpec).at F).post enc Try.prog Try.f4 false true false false) := by
  refine returnsInHanded_of_cond (C := Try.checked) (s := Rows.OpenSpec.upto Rows.packBackSpec) (k := Rows.uptoSmall) rfl frame_own started (by kernel_rfl) Try.func4
    (OpenSpec.witness (enc := enc) (C := Try.checked) (s := Rows.OpenSpec.upto Rows.packBackSpec) (k := Rows.uptoSmall) rfl false ⟨#[], #[.slice none 0 0, .string ByteArray.empty], []⟩ 8 (by kernel_rfl) (by kernel_rfl) (by kernel_rfl)
      (x := ([.nil, .lit (.string [])], [], [])) (by kernel_rfl) rfl (by kernel_rfl)) ?_
  intro W base args ds gs before hval hW _ hk _
  exact packBack_contract H enc W base args ds gs before hval hW hk

/-- The statement, where what it reads is small. -/
theorem packBack_holds : Rows.PackBackUptoSaid :=
  OpenClaim.holds_of_cond 4 Try.f4 rfl rfl rfl rfl rfl rfl rfl ⟨rfl, rfl, rfl, rfl, rfl⟩ rfl rfl rfl rfl rfl (by kernel_rfl) Try.func4 (by kernel_rfl)
    (of_decide_eq_true (by kernel_rfl)) (by unfold Func.isWrapper; first | (rw [if_pos (by decide +kernel)]; kernel_rfl) | (rw [if_neg (by decide +kernel)]; exact ⟨rfl, rfl⟩))
    (fun os started H enc _ F => packBack_lifted os started H enc F)

end Go.Proofs.Ytcfjbgocfcjnhaa

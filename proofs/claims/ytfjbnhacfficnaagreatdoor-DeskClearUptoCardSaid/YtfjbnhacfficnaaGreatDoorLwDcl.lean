/- DeskClear: behind clear all is as at first. A tied card, where what is read is of bounded bulk. -/
import Derived.Test.YtfjbnhacfficnaaGreatDoorRows
import Derived.Test.YtfjbnhacfficnaaGreatDoorCards
import Derived.Test.YtfjbnhacfficnaaGreatDoorTie
import Derived.Test.YtfjbnhacfficnaaGreatDoorDkLs
import Derived.Test.YtfjbnhacfficnaaGreatDoorOpS
import Derived.Test.YtfjbnhacfficnaaGreatDoorDkV
import Derived.Test.YtfjbnhacfficnaaGreatDoorZC
import Derived.Test.YtfjbnhacfficnaaGreatDoorZB
import Derived.Lay
import Derived.LaidOnce
import Derived.SevenTiedAt
import Derived.ChangeVars
import Derived.HandedShaped
import Derived.Shelf.Vars
namespace Go.Proofs.YtfjbnhacfficnaaGreatDoor
open Go.ChangeShapes Go.WideShapes Go.ChangeAt Go.RowKit

set_option maxRecDepth 100000 in
set_option maxHeartbeats 8000000 in
theorem deskClear_walk (a : Option Addr) (z : List ByteArray) (c : Nat) (a' : Option Addr) (y : List ByteArray) (c' : Nat) (w : World) (hV : DkV w) (hV8 : 8 ≤ w.heap.size) (h : StrS w a z ∧ z.length ≤ c ∧ z.length * 16 ≤ 140737488351232) (hz : z.length ≤ 1048576) (h' : StrS w a' y ∧ y.length ≤ c' ∧ y.length * 16 ≤ 140737488351232) (hy : y.length ≤ 1048576) :
    Calls Tryz.prog 5 #[.slice a z.length c, .slice a' y.length c'] w fun e w' => e = .returned (.bool true) ∧ Below w.heap.size w w' := by
  obtain ⟨h1, _, _⟩ := h
  obtain ⟨h2, _, _⟩ := h'
  obtain ⟨i0', hi, hz0, hz1, hz2⟩ := info_parts infoSt
  go_enter Tryz.func5, Tryz.ntmps5
  go_wp2_with (at_builtin; refine app_list _ rfl (.const (.slice none 0 0)) (.tmp 10) 22 rfl Tryz.underlying22 hi hz0 hz1 hz2 rfl (by decide) (base := w.heap.size) rfl (World.ownsRow_nil _ _ _ _) rfl h1.src (stL_one _) ?c3 ?c4 (Nat.le_refl _) ?_)
  case c3 => unfold maxLen; omega
  case c4 => omega
  intro v1 w1 hA1
  have hb1 := hA1.below (World.ownsRow_nil _ _ _ _) (Below.refl w.heap.size w) (Nat.le_refl _)
  have ho1 := hA1.own
  have hT := Has.new w1 #[.string clearB] 9
  have hb2 := hb1.alloc hb1.size (.cells #[.string clearB] 9)
  have hs1 := hb1.size
  clear hA1
  go_wp2_with (at_builtin; refine app_list _ rfl (.tmp 11) (.tmp 12) 22 rfl Tryz.underlying22 hi hz0 hz1 hz2 rfl (by decide) rfl (ho1.alloc _) rfl (news := stL [clearB]) ⟨rfl, .inr ⟨_, rfl, fun j u hu => hT.cell_add (by simpa [stL] using hu)⟩⟩ (stL_one _) ?c3 ?c4 ?c5 ?_)
  case c3 => unfold maxLen; omega
  case c4 => omega
  case c5 => simp; omega
  intro v2 w2 hA2
  have hb3 := hA2.below (ho1.alloc _) hb2 (by simp; omega)
  have ho2 := hA2.own
  have hs2 := hb3.size
  have h23 := h2.below hb3
  clear hA2 hT hb2 hb1 ho1
  go_wp2_with (at_builtin; refine app_list _ rfl (.tmp 13) (.tmp 14) 22 rfl Tryz.underlying22 hi hz0 hz1 hz2 rfl (by decide) rfl ho2 rfl h23.src (stL_one _) ?c3 ?c4 hs2 ?_)
  case c3 => unfold maxLen; omega
  case c4 => omega
  intro v3 w3 hA3
  have hb4 := hA3.below ho2 hb3 hs2
  have ho3 := hA3.own
  have hcat : stL z ++ (stL [clearB] ++ stL y) = stL (z ++ [clearB] ++ y) := by rw [stL_append, stL_append, List.append_assoc]
  rw [hcat] at ho3
  have hlen : (z ++ [clearB] ++ y).length = z.length + 1 + y.length := by simp; omega
  obtain ⟨a3, c3, hv3, hS3, _⟩ := strS_own (l := z ++ [clearB] ++ y) (by rw [hlen]; exact ho3) (by rw [hlen]; omega)
  rw [hlen] at hv3
  subst hv3
  have hV4 := hV.below hV8 hb4
  have h84 : 8 ≤ w3.heap.size := by have := hb4.size; omega
  have h24 := h2.below hb4
  have HL := Lib.hid hlen
  clear hA3 ho2 ho3 hcat hb3 hs1 hs2 h23 hlen h1 h2
  by_cases hok : okLines (z ++ [clearB] ++ y)
  · have hokY : okLines y := ⟨by have := hok.1; have := HL.out; omega, fun s hs => hok.2 s (by simp [hs])⟩
    have hrun : dkA dkF [] (z ++ [clearB] ++ y) = dkA dkF [] z ++ okB :: dkA dkF [] y := by
      rw [List.append_assoc, List.singleton_append]
      exact dkA_clear dkF (fun l => dkF_clear l) [] z y
    have hr := run_ok (z ++ [clearB] ++ y) a3 c3 w3 hS3 hok hV4 h84
    unfold DkRun at hr
    rw [hrun, HL.out] at hr
    have hzl := dkA_len dkF z []
    have hyl := dkA_len dkF y []
    clear hok hrun
    go_wp2_with fail
    refine hr.mono ?_
    clear hr
    rintro e w5 ⟨a5, c5, rfl, hS5, hc5, hk5⟩
    have hb5 := hb4.trans (hk5.mono hb4.size)
    have hr2 := run_ok y a' c' w5 (h24.below hk5) hokY (hV4.below h84 hk5) (by have := hk5.size; omega)
    clear hokY hS3 hV4 h24 hk5 hb4
    go_wp2_with fail
    refine hr2.mono ?_
    clear hr2
    rintro e w6 ⟨a6, c6, rfl, hS6, _, hk6⟩
    have hb6 := hb5.trans (hk6.mono hb5.size)
    have hS5' := hS5.below hk6
    obtain ⟨Z, hZ⟩ : ∃ Z, dkA dkF [] z = Z := ⟨_, rfl⟩
    obtain ⟨Y, hY⟩ : ∃ Y, dkA dkF [] y = Y := ⟨_, rfl⟩
    rw [hZ] at hS5' hzl
    rw [hY] at hS5' hS6 hyl
    have hLen5 : (Z ++ okB :: Y).length = z.length + 1 + y.length := by simp; omega
    obtain ⟨b5, o5, rfl, hx5⟩ := hS5'.at (i := 0) (by omega)
    clear hx5
    obtain ⟨b', o', e, d0⟩ := hS5'.at (i := z.length) (by omega)
    cases e
    have hget : (Z ++ okB :: Y)[z.length]'(by omega) = okB := by
      have h3 : (Z ++ okB :: Y)[z.length]? = some okB := by rw [List.getElem?_append_right (by omega), hzl, Nat.sub_self]; rfl
      exact (List.getElem?_eq_some_iff.1 h3).2
    rw [hget] at d0
    have hD := hS5'.drop (z.length + 1)
    rw [show (Z ++ okB :: Y).drop (z.length + 1) = Y by
      rw [show Z ++ okB :: Y = (Z ++ [okB]) ++ Y by simp, show z.length + 1 = (Z ++ [okB]).length by simp; omega, List.drop_left]] at hD
    have hw1 := IntWalk.i64_in ((z.length : Int) + 1) (by omega)
    have hw2 := IntWalk.i64_in ((z.length : Int) + 1 + y.length) (by omega)
    have hS5'0 := hS5'
    clear hS5 hS5' hget hZ hY hb5 hk6
    have hes := fun b o cc (h : StrS w6 (some ⟨b, o, none⟩) Y) => eqSt_same Y y.length hyl (some ⟨b, o, none⟩) a6 cc c6 w6 h hS6
    have hy0 : y.length = 0 → StrS w6 (some ⟨b5, o5, none⟩) Y := fun h0 => by
      obtain rfl : Y = [] := List.length_eq_zero_iff.1 (by omega)
      exact hS5'0.take 0
    have hoe : (okB.toList == ([111, 107] : List UInt8)) = true := by kernel_rfl
    clear hyl hzl hLen5 HL hS5'0
    go_wp2_with fail
    case' inr => refine (hes _ _ _ hD).mono ?_
    case' inl => refine (hes _ _ _ (hy0 (by omega))).mono ?_
    all_goals
      clear hes hy0
      rintro e w7 ⟨rfl, rfl⟩
      go_wp2
      go_ret
      exact ⟨rfl, hb6⟩
  · have hr := run_no (z ++ [clearB] ++ y) a3 c3 w3 hS3 hok
    rw [HL.out] at hr
    go_wp2_with fail
    refine hr.mono ?_
    clear hr
    rintro e w5 ⟨rfl, hk5⟩
    have hb5 := hb4.trans (hk5.mono hb4.size)
    by_cases hokY : okLines y
    · go_wp2_with fail
      refine (run_ok y a' c' w5 (h24.below hk5) hokY (hV4.below h84 hk5) (by have := hk5.size; omega)).mono ?_
      rintro e w6 ⟨a6, c6, rfl, hS6, _, hk6⟩
      have hb6 := hb5.trans (hk6.mono hb5.size)
      go_wp2
      go_ret
      exact ⟨rfl, hb6⟩
    · go_wp2_with fail
      refine (run_no y a' c' w5 (h24.below hk5) hokY).mono ?_
      rintro e w6 ⟨rfl, hk6⟩
      have hb6 := hb5.trans (hk6.mono hb5.size)
      go_wp2
      go_ret
      exact ⟨rfl, hb6⟩
/-! The frame of the law DeskClear (where what it reads is small), by program. -/
set_option maxRecDepth 100000 in
theorem deskClear_contract (H : Type) (enc : TypeId × Value → H) (W : World) (base : Nat) (args : Array Value) (ds gs : List (DataW H)) (before : List MemPlace)
    (hval0 : ∀ (j : Nat) t v, Tryz.f5.params[j]? = some t → args[j]? = some v → Value.okWide Tryz.prog W .any base t v)
    (hW : DataW.Whole enc Tryz.prog Tryz.f5.params.toList Rows.deskClearSpec.vars false W args.toList ds gs before) (hk : Rows.uptoSmall H (ds ++ gs) = true) (hSh : W.ShapedOpen Tryz.prog) (hL : laidMetH Tryz.prog Rows.deskClearUptoRow.laid W) :
    Calls Tryz.prog 5 args W fun e W' => ∃ v, e = .returned v ∧ Rows.deskClearSpec.post enc Tryz.prog Tryz.f5 false true false false W args v W' := by
  have hval : ∀ (j : Nat) t v, Tryz.f5.params[j]? = some t → args[j]? = some v → Value.okWide Tryz.prog W .any base t v := hval0
  have hW' := hW
  obtain ⟨p, q, hA0, hV, rfl, hfz, hnd⟩ := hW
  have hA : DataW.TrodAll enc Tryz.prog W 0 (fun _ => true) true Tryz.f5.params.toList args.toList ds p := hA0
  rw [Tryz.params5] at hA hval
  obtain ⟨v0, vs0, d0, ds0, p0, q0, hargs, rfl, rfl, h0, r0⟩ := trodAll_cons hA
  obtain ⟨v1, vs1, d1, ds1, p1, q1, rfl, rfl, rfl, h1, r1⟩ := trodAll_cons r0
  obtain ⟨rfl, rfl, rfl⟩ := trodAll_nil r1
  obtain rfl : args = #[v0, v1] := by cases args; simp_all
  obtain ⟨rfl, rfl⟩ := trodVars_none hV
  have k0 := h0
  have lt0 : ∀ x ∈ p0, x.block < W.heap.size := by obtain ⟨m, hm⟩ := k0; exact DataW.trod_lt m _ _ _ hm
  obtain ⟨a0, z0, c0, rfl, w0⟩ := open_strs (hval 0 22 v0 rfl rfl) h0 (fun els sp hd => Nat.le_trans (Nat.mul_le_mul_right _ (upto_slice hk (by simp) hd)) (of_decide_eq_true (by kernel_rfl)))
  have n0 : z0.length ≤ 1048576 := upto_len Tryz.underlying22 k0 hk (by simp)
  have k1 := h1
  have lt1 : ∀ x ∈ p1, x.block < W.heap.size := by obtain ⟨m, hm⟩ := k1; exact DataW.trod_lt m _ _ _ hm
  obtain ⟨a1, z1, c1, rfl, w1⟩ := open_strs (hval 1 22 v1 rfl rfl) h1 (fun els sp hd => Nat.le_trans (Nat.mul_le_mul_right _ (upto_slice hk (by simp) hd)) (of_decide_eq_true (by kernel_rfl)))
  have n1 : z1.length ≤ 1048576 := upto_len Tryz.underlying22 k1 hk (by simp)
  clear hA0 hval0 hk
  obtain ⟨hV, hV8⟩ := dkV_of hSh hL
  refine (deskClear_walk a0 z0 c0 a1 z1 c1 W hV hV8 w0 n0 w1 n1).mono fun e W' ⟨he, bel⟩ => ?_
  subst he
  exact ⟨_, rfl, _, _, _, [], _, [], hW', trodAll_mk1 (shut_bool Tryz.underlying4 _), (trodAll_cons_mk (Below.trod frame_laid (by kernel_rfl) (of_decide_eq_true (by kernel_rfl)) k0 bel lt0) (trodAll_cons_mk (Below.trod frame_laid (by kernel_rfl) (of_decide_eq_true (by kernel_rfl)) k1 bel lt1) trodAll_mk0)), rfl, bel.frame _, fun h => by cases h⟩
set_option maxRecDepth 100000 in
theorem deskClear_lifted (os : Os) (started : os.Started) (H : Type) (enc : TypeId × Value → H) (F : Stop.Interp) :
    ReturnsInHanded {} Tryz.checked os 5 .any (fun w args => ((Rows.OpenSpec.upto Rows.deskClearSpec).pre enc Tryz.prog Tryz.f5 [] false w args ∧ laidMetH Tryz.prog Rows.deskClearUptoRow.laid w) ∧ sizedMet enc Tryz.prog Tryz.f5 (Rows.OpenSpec.upto Rows.deskClearSpec) false w args) (((Rows.OpenSpec.upto Rows.deskClearSpec).at F).post enc Tryz.prog Tryz.f5 false true false false) := by
  refine cond_and_shaped (C := Tryz.checked) (s := Rows.OpenSpec.upto Rows.deskClearSpec) (k := Rows.uptoSmall) rfl (X := fun w _ => laidMetH Tryz.prog Rows.deskClearUptoRow.laid w) (fun _ _ _ hh h => h.of_heap hh) frame_own started (by kernel_rfl) Tryz.func5
    (cond_witness (enc := enc) (C := Tryz.checked) (os := os) (s := Rows.OpenSpec.upto Rows.deskClearSpec) (k := Rows.uptoSmall) rfl (X := fun w _ => laidMetH Tryz.prog Rows.deskClearUptoRow.laid w) false (World.laidAll Tryz.prog os Rows.deskClearUptoRow.laid) #[.slice none 0 0, .slice none 0 0] 8 (World.laidAll_os _ _ _)
      (World.shaped_of_ZipB (by kernel_rfl) (by kernel_rfl)) (by kernel_rfl) (x := ([.nil, .nil], [], [])) (by kernel_rfl) rfl (by kernel_rfl) (by kernel_rfl)
      (by rw [MakeChecks.laidMetH_plain _ _ _ (by kernel_rfl)]; exact laidMet_laidAll _ (by kernel_rfl) (by kernel_rfl))) ?_
  intro W base args ds gs before hval hW hk hL hSh
  exact deskClear_contract H enc W base args ds gs before hval hW hk hSh hL

theorem deskClear_over : Rows.deskClearUptoRow.holds Tryz.pinned (Rows.OpenSpec.upto Rows.deskClearSpec) :=
  OpenClaim.holds_of_cond 5 Tryz.f5 rfl rfl rfl rfl rfl rfl rfl ⟨rfl, rfl, rfl, rfl, rfl⟩ rfl rfl rfl rfl rfl (by kernel_rfl) Tryz.func5 (by kernel_rfl)
    (of_decide_eq_true (by kernel_rfl)) (by unfold Func.isWrapper; first | (rw [if_pos (by decide +kernel)]; kernel_rfl) | (rw [if_neg (by decide +kernel)]; exact ⟨rfl, rfl⟩))
    (fun os started H enc _ F => deskClear_lifted os started H enc F)


theorem deskClear_holds : Rows.DeskClearUptoCardSaid :=
  Claim7.holds_tied_plain_at .later [] [.data, .data, .data, .data, .sentinel, .sentinel, .pinned] true (true, "29a05870c4a8c29996d1cd37cebb1180ea1a94bb86ee612645e2ddada1e73ee7") true deskClear_over (fun _ h => by cases h) (by kernel_rfl) (fun _ h => by cases h) deskClearUpto_row_tie rfl ⟨rfl, rfl⟩ (by kernel_rfl) rfl
    (fun f fn hf hfn => by
      obtain rfl : f = 5 := (Option.some.inj ((show Tryz.prog.funcNamed "deadheat/deadheatkeep.DeskClear" = some 5 by kernel_rfl).symm.trans hf)).symm
      obtain rfl : fn = Tryz.f5 := (Option.some.inj (Tryz.func5.symm.trans hfn)).symm
      exact ⟨by kernel_rfl, fun j t ht => by
        rw [Tryz.params5] at ht
        have hm : t ∈ [22, 22] := by simpa using Array.mem_of_getElem? ht
        have hall : ([22, 22].all fun u => !Tryz.prog.wantsStandIn u) = true := by kernel_rfl
        exact (show Tryz.prog.wantsStandIn t = false by simpa using List.all_eq_true.1 hall t hm)⟩)
    (by kernel_rfl)
end Go.Proofs.YtfjbnhacfficnaaGreatDoor

/- DeskErrors: lines of a desk that end in an error are of no matter to others. A tied card. -/
import Derived.Test.YtfjbnhacfficnaaGreatDoorRows
import Derived.Test.YtfjbnhacfficnaaGreatDoorCards
import Derived.Test.YtfjbnhacfficnaaGreatDoorTie
import Derived.Test.YtfjbnhacfficnaaGreatDoorDkLs
import Derived.Test.YtfjbnhacfficnaaGreatDoorOpS
import Derived.Test.YtfjbnhacfficnaaGreatDoorDkV
import Derived.Test.YtfjbnhacfficnaaGreatDoorZB
import Derived.Lay
import Derived.LaidOnce
import Derived.SevenTiedAt
import Derived.ChangeVars
import Derived.HandedShaped
import Derived.Shelf.Vars
namespace Go.Proofs.YtfjbnhacfficnaaGreatDoor
open Go.ChangeShapes Go.WideShapes Go.ChangeAt Go.RowKit

theorem run_none : dkA dkF [] [sizeB] = [⟨#[48]⟩] := by
  show [(dkF [] sizeB).1] = _
  rw [dkF_size]
  rfl
noncomputable def goodL (z : List ByteArray) : List ByteArray := dkG dkF isErrB [] z
def wantL (l : List ByteArray) : List ByteArray := l.filter fun x => !isErrB x
theorem wantL_append (l m : List ByteArray) : wantL (l ++ m) = wantL l ++ wantL m := by simp [wantL]
theorem wantL_len (l : List ByteArray) : (wantL l).length ≤ l.length := List.length_filter_le _ _
set_option maxRecDepth 100000 in
set_option maxHeartbeats 8000000 in
theorem deskErrors_walk (a : Option Addr) (z : List ByteArray) (c : Nat) (w : World) (hV : DkV w) (hV8 : 8 ≤ w.heap.size) (h : StrS w a z ∧ z.length ≤ c ∧ z.length * 16 ≤ 140737488351232) :
    Calls Tryz.prog 4 #[.slice a z.length c] w fun e w' => e = .returned (.bool true) ∧ Below w.heap.size w w' := by
  obtain ⟨h1, _, _⟩ := h
  have hbig := h1.big
  obtain ⟨i0', hi, hz0, hz1, hz2⟩ := info_parts infoSt
  have hT0 := Has.new w #[.string sizeB] 9
  have hb0 := (Below.refl w.heap.size w).alloc (Nat.le_refl _) (.cells #[.string sizeB] 9)
  have hS0 := strS_full (l := [sizeB]) hT0 rfl (by decide)
  have hV0 := hV.below hV8 hb0
  have hr1 := run_ok [sizeB] (some ⟨w.heap.size, 0, none⟩) 1 _ hS0 ⟨by decide, by simp [sizeB]; decide⟩ hV0 (by have := hb0.size; omega)
  rw [show ([sizeB] : List ByteArray).length = 1 from rfl] at hr1
  go_enter Tryz.func4, Tryz.ntmps4
  go_wp2_with fail
  refine hr1.mono ?_
  clear hr1
  rintro e w1 ⟨a1, c1, rfl, hS1, _, hk1⟩
  rw [run_none] at hS1
  have hb1 := hb0.trans (hk1.mono hb0.size)
  clear hT0 hb0 hS0 hV0 hk1
  have hT2 := Has.new w1 #[.string ⟨#[48]⟩] 9
  have hb2 := hb1.alloc hb1.size (.cells #[.string ⟨#[48]⟩] 9)
  have hS2 := strS_full (l := [⟨#[48]⟩]) hT2 rfl (by decide)
  have hS3 := hS1.below ((Below.refl _ _).alloc (Nat.le_refl _) (.cells #[.string ⟨#[48]⟩] 9))
  go_wp2_with fail
  refine (eqSt_same [⟨#[48]⟩] 1 rfl _ _ _ _ _ hS3 hS2).mono ?_
  rintro e w2 ⟨rfl, rfl⟩
  have h2 := h1.below hb2
  have hV2 := hV.below hV8 hb2
  have h82 : 8 ≤ (w1.alloc (.cells #[.string ⟨#[48]⟩] 9)).heap.size := by have := hb2.size; omega
  go_upto_region 4 with fail
  generalize w1.alloc (.cells #[.string ⟨#[48]⟩] 9) = W at *
  clear hT2 hS2 hS3 hS1 hb1 h1
  by_cases hok : okLines z
  · have hOK := Lib.hid hok
    have h60 := hok.1
    go_wp2_with fail
    refine (run_ok z a c W h2 hok hV2 h82).mono ?_
    rintro e w3 ⟨a3, c3, rfl, hS3, _, hk3⟩
    have hb3 := hb2.trans (hk3.mono hb2.size)
    have h3 := h2.below hk3
    have hV3 := hV2.below h82 hk3
    have h83 : 8 ≤ w3.heap.size := by have := hk3.size; omega
    have hal := dkA_len dkF z []
    clear hok h2 hV2 h82 hb2
    go_wp2
    go_loopw [7, 8, 38] (fun v u i wr => ∃ k : Nat, k ≤ z.length ∧ i = .int .i64 k ∧ wr.ownsRow w3.heap.size 9 1 v (goodL (z.take k)).length (stL (goodL (z.take k))) ∧ wr.ownsRow w3.heap.size 9 1 u (wantL (dkA dkF [] (z.take k))).length (stL (wantL (dkA dkF [] (z.take k)))) ∧ Dis v u ∧ Below w3.heap.size w3 wr) (fun _ _ i _ => z.length - (intOf i).toNat)
    case atStart => exact ⟨0, Nat.zero_le _, rfl, World.ownsRow_nil _ _ _ _, World.ownsRow_nil _ _ _ _, .inl rfl, Below.refl _ _⟩
    case round =>
      obtain ⟨k, hk, rfl, hg, hu, hd, hb⟩ := hrel
      obtain ⟨wo, rfl⟩ : ∃ wo : World, wo = wr := ⟨_, rfl⟩
      by_cases hlt : k < z.length
      · have hlt2 : k < (dkA dkF [] z).length := by rw [hal]; exact hlt
        obtain ⟨b', o', ha3, d0⟩ := (hS3.below hb).at hlt2
        obtain ⟨b2, o2, ha2, d1⟩ := (h3.below hb).at hlt
        rw [dkA_get dkF [] z hlt] at d0
        have hG := dkG_take dkF isErrB [] z hlt
        have hA := dkA_take dkF [] z hlt
        have hgl : (goodL (z.take k)).length ≤ 60 := Nat.le_trans (dkG_sub dkF isErrB (z.take k) []).1 (by simp; omega)
        have hul : (wantL (dkA dkF [] (z.take k))).length ≤ 60 := Nat.le_trans (wantL_len _) (by rw [dkA_len]; simp; omega)
        obtain ⟨y, hy⟩ : ∃ y, z[k] = y := ⟨_, rfl⟩
        rw [hy] at d0 d1 hG hA
        obtain ⟨x, hx⟩ : ∃ x, (dkF (dkS dkF [] (z.take k)) y).1 = x := ⟨_, rfl⟩
        rw [hx] at d0 hG hA
        subst ha3
        subst ha2
        have HG := Lib.hid (show goodL (z.take (k + 1)) = goodL (z.take k) ++ (if isErrB x = true then [] else [y]) from hG)
        have HW := Lib.hid (show wantL (dkA dkF [] (z.take (k + 1))) = wantL (dkA dkF [] (z.take k)) ++ wantL [x] by rw [hA, wantL_append])
        clear hy hx hG hA
        obtain ⟨GL, hGL⟩ : ∃ GL, goodL (z.take k) = GL := ⟨_, rfl⟩
        obtain ⟨WL, hWL⟩ : ∃ WL, wantL (dkA dkF [] (z.take k)) = WL := ⟨_, rfl⟩
        rw [hGL] at hg HG hgl
        rw [hWL] at hu HW hul
        clear hGL hWL
        obtain ⟨q, hq⟩ : ∃ q, isErrB x = q := ⟨_, rfl⟩
        have hqe : q = (decide (6 ≤ x.size) && ((x.extract 0 6).toList == (⟨#[101, 114, 114, 111, 114, 32]⟩ : ByteArray).toList)) := by
          rw [← hq, strEqS, isErrB, Bool.decide_and]
        go_upto_region 11 with fail
        go_cut [50] (fun p wz => p = .bool (!q) ∧ wz = wo)
        case first =>
          by_cases h6 : 6 ≤ x.size
          · have n6 : ¬ ((x.size : Int) < 6) := by omega
            have m6 : (6 : Int) ≤ x.size := by omega
            obtain ⟨p, hp⟩ : ∃ p, ((x.extract 0 6).toList == (⟨#[101, 114, 114, 111, 114, 32]⟩ : ByteArray).toList) = p := ⟨_, rfl⟩
            rw [hp, decide_eq_true h6, Bool.true_and] at hqe
            rw [show (⟨#[101, 114, 114, 111, 114, 32]⟩ : ByteArray).toList = [101, 114, 114, 111, 114, 32] by first | rfl | decide | simp [ByteArray.toList_eq]] at hp
            subst hqe
            clear hq
            go_wp2_with fail
            go_meet
            exact ⟨rfl, rfl⟩
          · have n6 : ((x.size : Int) < 6) := by omega
            rw [decide_eq_false h6, Bool.false_and] at hqe
            subst hqe
            clear hq
            go_wp2_with fail
            go_meet
            exact ⟨rfl, rfl⟩
        case rest =>
          obtain ⟨rfl, rfl⟩ := hcut
          cases q
          · have HG1 := Lib.hid (show goodL (z.take (k + 1)) = GL ++ [y] by rw [HG.out, hq]; rfl)
            have HW1 := Lib.hid (show wantL (dkA dkF [] (z.take (k + 1))) = WL ++ [x] by rw [HW.out]; simp [wantL, hq])
            have hT := Has.new wc #[.string y] 9
            have hb6 := hb.alloc hb.size (.cells #[.string y] 9)
            clear hqe hq HG HW
            go_wp2_with (first
              | (at_builtin; refine app_list _ rfl (.tmp 51) (.tmp 56) 22 rfl Tryz.underlying22 hi hz0 hz1 hz2 rfl (by decide) rfl (hg.alloc _) rfl (news := stL [y]) ⟨rfl, .inr ⟨_, rfl, fun j u hu => hT.cell_add (by simpa [stL] using hu)⟩⟩ (stL_one _) (by unfold maxLen; omega) (by omega) (by have := hb.size; simp; omega) ?_; intro v6 w6 hAp; have hb7 := hAp.below (hg.alloc _) hb6 (by have := hb.size; simp; omega); obtain ⟨hd6, hu6⟩ := hd.app hAp (hu.alloc _); have hs6 := hb7.size)
              | (at_builtin; refine app_list _ rfl (.tmp 58) (.tmp 60) 22 rfl Tryz.underlying22 hi hz0 hz1 hz2 rfl (by decide) rfl (hu6.alloc _) rfl (news := stL [x]) ⟨rfl, .inr ⟨_, rfl, fun j u hu => (Has.new w6 #[.string x] 9).cell_add (by simpa [stL] using hu)⟩⟩ (stL_one _) (by unfold maxLen; omega) (by omega) (by simp; omega) ?_; intro v9 w9 hAp9))
            have hb8 := hAp9.below (hu6.alloc _) (hb7.alloc hs6 _) (by simp; omega)
            have hv6 : w6.ownsRow w3.heap.size 9 1 v6 (goodL (z.take (k + 1))).length (stL (goodL (z.take (k + 1)))) := by
              have := hAp.own
              rw [HG1.out, stL_append, List.length_append]
              exact this
            obtain ⟨hd9, hv9⟩ := Dis.app (Dis.symm hd6) hAp9 (hv6.alloc _)
            have hu9 : w9.ownsRow w3.heap.size 9 1 v9 (wantL (dkA dkF [] (z.take (k + 1)))).length (stL (wantL (dkA dkF [] (z.take (k + 1))))) := by
              have := hAp9.own
              rw [HW1.out, stL_append, List.length_append]
              exact this
            have H9 := Lib.hid (And.intro hv9 (And.intro hu9 (And.intro hd9.symm hb8)))
            clear hAp hAp9 hT hb6 hb7 hg hu hb hv6 hu6 hv9 hu9 hd9 hd6 hb8 hd
            go_wp2
            go_roundw
            case rel =>
              exact ⟨k + 1, by omega, by go_num, H9.out.1, H9.out.2.1, H9.out.2.2.1, H9.out.2.2.2⟩
            case measure => (simp [intOf]; try omega)
          · have HG1 := Lib.hid (show goodL (z.take (k + 1)) = GL by rw [HG.out, hq]; simp)
            have HW1 := Lib.hid (show wantL (dkA dkF [] (z.take (k + 1))) = WL by rw [HW.out]; simp [wantL, hq])
            have H9 := Lib.hid (And.intro (show wc.ownsRow w3.heap.size 9 1 u7 (goodL (z.take (k + 1))).length (stL (goodL (z.take (k + 1)))) by rw [HG1.out]; exact hg) (show wc.ownsRow w3.heap.size 9 1 u8 (wantL (dkA dkF [] (z.take (k + 1)))).length (stL (wantL (dkA dkF [] (z.take (k + 1))))) by rw [HW1.out]; exact hu))
            clear hqe hq HG HW hg hu
            go_wp2
            go_roundw
            case rel =>
              exact ⟨k + 1, by omega, by go_num, H9.out.1, H9.out.2, hd, hb⟩
            case measure => (simp [intOf]; try omega)
      · obtain rfl : k = z.length := by omega
        rw [List.take_length] at hg hu
        obtain ⟨hsub1, hsub2⟩ := dkG_sub dkF isErrB z []
        have hgl : (goodL z).length ≤ 60 := Nat.le_trans hsub1 h60
        have hul : (wantL (dkA dkF [] z)).length ≤ 60 := Nat.le_trans (wantL_len _) (by rw [dkA_len]; omega)
        obtain ⟨a7, c7, rfl, hS7, _⟩ := strS_own hg (by omega)
        obtain ⟨a8, c8, rfl, hS8, _⟩ := strS_own hu (by omega)
        have hokG : okLines (goodL z) := ⟨hgl, fun s hs => hOK.out.2 s (hsub2 s hs)⟩
        have hrun : dkA dkF [] (goodL z) = wantL (dkA dkF [] z) := dkG_run dkF isErrB (fun l s hh => dkF_err l s hh) z []
        have hlen : (goodL z).length = (wantL (dkA dkF [] z)).length := by rw [← hrun, dkA_len]
        have hrk := run_ok (goodL z) a7 c7 wo hS7 hokG (hV3.below h83 hb) (by have := hb.size; omega)
        unfold DkRun at hrk
        rw [hrun, hlen] at hrk
        have HL := Lib.hid hlen
        obtain ⟨WL, hWL⟩ : ∃ WL, wantL (dkA dkF [] z) = WL := ⟨_, rfl⟩
        rw [hWL] at hrk hS8 hlen hul ⊢
        rw [hlen]
        obtain ⟨n, hn⟩ : ∃ n, WL.length = n := ⟨_, rfl⟩
        rw [hn] at hrk ⊢
        have hb4 := hb3.trans (hb.mono hb3.size)
        clear hlen hrun hsub1 hsub2 hg hu hWL hd hal hS7 hgl hokG hS3
        go_wp2_with fail
        refine hrk.mono ?_
        clear hrk
        rintro e w5 ⟨a9, c9, rfl, hS9, _, hk9⟩
        have hb5 := hb4.trans (hk9.mono hb4.size)
        go_wp2_with fail
        refine (eqSt_same WL n hn _ _ _ _ _ hS9 (hS8.below hk9)).mono ?_
        rintro e w6 ⟨rfl, rfl⟩
        go_wp2
        go_ret
        exact ⟨rfl, hb5⟩
  · go_wp2_with fail
    refine (run_no z a c W h2 hok).mono ?_
    rintro e w3 ⟨rfl, hk3⟩
    have hb3 := hb2.trans (hk3.mono hb2.size)
    go_wp2
    go_ret
    exact ⟨rfl, hb3⟩
/-! The frame of the law DeskErrors, a tied card, by program. -/
set_option maxRecDepth 100000 in
theorem deskErrors_lifted (os : Os) (started : os.Started) (H : Type) (enc : TypeId × Value → H) :
    ReturnsInHanded {} Tryz.checked os 4 .any (fun w args => (Rows.deskErrorsSpec.pre enc Tryz.prog Tryz.f4 [] false w args ∧ laidMetH Tryz.prog Rows.deskErrorsRow.laid w) ∧ sizedMet enc Tryz.prog Tryz.f4 (OpenSpec.ofChange Rows.deskErrorsSpec) false w args) (Rows.deskErrorsSpec.post enc Tryz.prog Tryz.f4 false true false false) := by
  refine change_and_shaped (C := Tryz.checked) (X := fun w _ => laidMetH Tryz.prog Rows.deskErrorsRow.laid w) (fun _ _ _ hh h => h.of_heap hh) frame_own started (by kernel_rfl) Tryz.func4
    (ChangeSpec.witness_shaped (enc := enc) (C := Tryz.checked) (os := os) (X := fun w _ => laidMetH Tryz.prog Rows.deskErrorsRow.laid w) false (World.laidAll Tryz.prog os Rows.deskErrorsRow.laid) #[.slice none 0 0] 8 (World.laidAll_os _ _ _)
      (World.shaped_of_ZipB (by kernel_rfl) (by kernel_rfl)) (by kernel_rfl) (by kernel_rfl) (by kernel_rfl)
      (by rw [MakeChecks.laidMetH_plain _ _ _ (by kernel_rfl)]; exact laidMet_laidAll _ (by kernel_rfl) (by kernel_rfl))) ?_
  intro W base args ds gs before hval0 hW hcnd hsz hL hSh hroom
  clear hcnd
  have hval : ∀ (j : Nat) t v, Tryz.f4.params[j]? = some t → args[j]? = some v → Value.okWide Tryz.prog W .any base t v := hval0
  have hW' := hW
  obtain ⟨p, q, hA0, hV, rfl, hfz, hnd⟩ := hW
  have hA : DataW.TrodAll enc Tryz.prog W 0 (fun _ => true) true Tryz.f4.params.toList args.toList ds p := hA0
  rw [Tryz.params4] at hA hval
  obtain ⟨v0, vs0, d0, ds0, p0, q0, hargs, rfl, rfl, h0, r0⟩ := trodAll_cons hA
  obtain ⟨rfl, rfl, rfl⟩ := trodAll_nil r0
  obtain rfl : args = #[v0] := by cases args; simp_all
  obtain ⟨rfl, rfl⟩ := trodVars_none hV
  have k0 := h0
  have lt0 : ∀ x ∈ p0, x.block < W.heap.size := by obtain ⟨m, hm⟩ := k0; exact DataW.trod_lt m _ _ _ hm
  obtain ⟨a0, z0, c0, rfl, w0⟩ := open_strs (hval 0 22 v0 rfl rfl) h0 (fun els sp hd => sized_slice hsz (j := 0) rfl (by rw [hd]; rfl) Tryz.underlying22)
  clear hA0 hval0
  obtain ⟨hV, hV8⟩ := dkV_of hSh hL
  refine (deskErrors_walk a0 z0 c0 W hV hV8 w0).mono fun e W' ⟨he, bel⟩ => ?_
  subst he
  exact ⟨_, rfl, _, _, _, [], _, [], hW', trodAll_mk1 (shut_bool Tryz.underlying4 _), (trodAll_cons_mk (Below.trod frame_laid (by kernel_rfl) (of_decide_eq_true (by kernel_rfl)) k0 bel lt0) trodAll_mk0), rfl, bel.frame _, fun h => by cases h⟩

theorem deskErrors_over : Rows.deskErrorsRow.holds Tryz.pinned (OpenSpec.ofChange Rows.deskErrorsSpec) :=
  OpenClaim.holds_of_wide 4 Tryz.f4 rfl rfl rfl rfl rfl rfl rfl ⟨rfl, rfl, rfl, rfl, rfl⟩ rfl rfl rfl rfl rfl (by kernel_rfl) Tryz.func4 (by kernel_rfl)
    (of_decide_eq_true (by kernel_rfl)) (by unfold Func.isWrapper; first | (rw [if_pos (by decide +kernel)]; kernel_rfl) | (rw [if_neg (by decide +kernel)]; exact ⟨rfl, rfl⟩))
    (fun os started H enc _ => deskErrors_lifted os started H enc)


theorem deskErrors_holds : Rows.DeskErrorsCardSaid :=
  Claim7.holds_tied_plain_at .later [] [.data, .data, .data, .data, .sentinel, .sentinel, .pinned] true (true, "29a05870c4a8c29996d1cd37cebb1180ea1a94bb86ee612645e2ddada1e73ee7") true deskErrors_over (fun _ h => by cases h) (by kernel_rfl) (fun _ h => by cases h) deskErrors_row_tie rfl ⟨rfl, rfl⟩ (by kernel_rfl) rfl
    (fun f fn hf hfn => by
      obtain rfl : f = 4 := (Option.some.inj ((show Tryz.prog.funcNamed "deadheat/deadheatkeep.DeskErrors" = some 4 by kernel_rfl).symm.trans hf)).symm
      obtain rfl : fn = Tryz.f4 := (Option.some.inj (Tryz.func4.symm.trans hfn)).symm
      exact ⟨by kernel_rfl, fun j t ht => by
        rw [Tryz.params4] at ht
        have hm : t ∈ [22] := by simpa using Array.mem_of_getElem? ht
        have hall : ([22].all fun u => !Tryz.prog.wantsStandIn u) = true := by kernel_rfl
        exact (show Tryz.prog.wantsStandIn t = false by simpa using List.all_eq_true.1 hall t hm)⟩)
    (by kernel_rfl)
end Go.Proofs.YtfjbnhacfficnaaGreatDoor

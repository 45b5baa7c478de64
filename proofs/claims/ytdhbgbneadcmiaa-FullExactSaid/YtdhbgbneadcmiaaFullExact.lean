/- FullExact: exactly the second accesses of all races are flagged: for every trace. -/
import Derived.Test.YtdhbgbneadcmiaaRows
import Derived.Test.YtdhbgbneadcmiaaFulX
import Derived.Test.YtdhbgbneadcmiaaSec
import Derived.Test.YtdhbgbneadcmiaaDet
import Derived.Test.YtdhbgbneadcmiaaOpenE
namespace Go.Proofs.Ytdhbgbneadcmiaa
open Go.ChangeShapes Go.WideShapes Go.ChangeAt Go.RowKit

theorem fKind_two {l : List Ev} {i : Nat} (h : fKind l i ≠ 0) : (fKind l i == 2) = ((evAt l i).k == 1) := by
  unfold fKind at h ⊢
  by_cases k1 : (evAt l i).k = 1
  · rw [if_pos k1] at h ⊢
    by_cases c : cle (wrAt l i (evAt l i).o.toNat) (vw l i) = true
    · rw [if_pos c] at h; exact absurd rfl h
    · rw [if_neg c, k1]; rfl
  · have e : ((evAt l i).k == 1) = false := by simpa using k1
    rw [if_neg k1, e]
    repeat' split
    all_goals rfl
set_option maxRecDepth 100000 in
set_option maxHeartbeats 4000000 in
theorem fullExact_ok (a : Option Addr) (z : List Ev) (c : Nat) (w : World) (h : EvS w a z) (he : (played z).2.2 = 0) :
    Calls Try.prog 9 #[.slice a z.length c] w fun e w' => e = .returned (.bool true) ∧ Below w.heap.size w w' := by
  have hl80 := (played_evs he).1
  have hbig := h.big
  have hfl := fFlags_len z z.length
  have hsec := sec_full he
  have hmem : ∀ k (hk : k < (fFlags z z.length).length), ∃ i, i < z.length ∧ fKind z i ≠ 0 ∧ (fFlags z z.length)[k] = ⟨i, (evAt z i).o, fKind z i⟩ := fun k hk => mem_fFlags.1 (List.getElem_mem hk)
  have HA := Lib.hid fun W (hW : EvS W a z) => fullRun_ok z a c W hW he
  have HB := Lib.hid fun W (hW : EvS W a z) => seconds_ok z z.length rfl a c W hW he
  rw [hsec] at HB
  have HMEM := Lib.hid hmem
  clear hsec hmem he
  generalize fFlags z z.length = A at *
  have hSl : (A.map Ev.k).length = A.length := List.length_map _
  have hSk : ∀ k (hk : k < A.length) (hk2 : k < (A.map Ev.k).length), (A.map Ev.k)[k] = A[k].k := fun k hk hk2 => List.getElem_map ..
  have HSK := Lib.hid hSk
  clear hSk
  generalize A.map Ev.k = S at *
  have hne : ((A.length : Int) != (S.length : Int)) = false := by rw [hSl]; simp
  go_enter Try.func9, Try.ntmps9
  go_wp2_with fail
  refine (detected_any _).mono ?_
  rintro r w1 ⟨rfl, hb⟩
  go_wp2_with fail
  refine (HA.out _ (h.below hb)).mono ?_
  rintro r w2 ⟨v, rfl, hown, hk⟩
  replace hb := hb.trans (hk.mono hb.size)
  have hex : ∃ a2 c2, v = .slice a2 A.length c2 ∧ EvS w2 a2 A := by
    obtain ⟨a2, c2, e, hS, _⟩ := evS_own hown (by omega)
    exact ⟨a2, c2, e, hS⟩
  obtain ⟨a2, c2, rfl, hA⟩ := hex
  clear hk hown HA
  go_wp2_with fail
  refine (HB.out _ (h.below hb)).mono ?_
  rintro r w3 ⟨a3, c3, rfl, hS, hk⟩
  replace hb := hb.trans (hk.mono hb.size)
  replace hA := hA.below hk
  replace h := h.below hb
  clear hk HB
  have hI := Below.refl w3.heap.size w3
  have HSL := Lib.hid hSl
  clear hSl
  go_wp2
  go_loopw [42] (fun i wr => ∃ k : Nat, k ≤ A.length ∧ i = .int .i64 k ∧ Below w3.heap.size w3 wr) (fun i _ => A.length - (intOf i).toNat)
  case atStart => exact ⟨0, Nat.zero_le _, rfl, hI⟩
  case round =>
    clear hI hne
    obtain ⟨k, hk, rfl, hb4⟩ := hrel
    by_cases hlt : k < A.length
    · have hlt2 : k < S.length := by rw [HSL.out]; exact hlt
      obtain ⟨g, o, rfl, d0, d1, d2⟩ := (hA.below hb4).at hlt
      obtain ⟨i, hi, hf, hx⟩ := HMEM.out k hlt
      have hsk := HSK.out k hlt hlt2
      rw [hx] at d0 d1 d2 hsk
      simp only at d0 d1 d2 hsk
      have hkd := fKind_two hf
      generalize fKind z i = K at *
      have hev := evAt_lt hi
      rw [hev] at d1 hkd
      have HX := Lib.hid hev
      have HSKK := Lib.hid hsk
      have hN := Has.new wr (evC ⟨i, z[i].o, K⟩) 51
      have hb5 := hb4.alloc hb4.size (.cells (evC ⟨i, z[i].o, K⟩) 51)
      have k0 : (0 : Int) ≤ k := by omega
      have k1 : (k : Int) < A.length := by omega
      have k2 : (k : Int) < S.length := by omega
      have i0 : (0 : Int) ≤ i := by omega
      have i1 : (i : Int) < z.length := by omega
      clear hx hsk hb4 hf hev
      go_upto_region 12 with fail
      clear d0 d1 d2
      generalize wr.alloc (.cells (evC ⟨i, z[i].o, K⟩) 51) = w5 at *
      obtain ⟨x0, x1, x2⟩ : w5.cell? ⟨wr.heap.size, 0, none⟩ = some (.int .i64 (i : Int)) ∧ w5.cell? ⟨wr.heap.size, 1, none⟩ = some (.int .i64 z[i].o) ∧ w5.cell? ⟨wr.heap.size, 2, none⟩ = some (.int .i64 K) := ⟨hN.cell rfl, hN.cell rfl, hN.cell rfl⟩
      obtain ⟨g2, o2, rfl, s0⟩ := (hS.below hb5).at hlt2
      rw [HSKK.out] at s0
      obtain ⟨g3, o3, rfl, z0, z1, z2⟩ := (h.below hb5).at hi
      generalize z[i] = y at *
      obtain ⟨p, hp⟩ : ∃ p, (y.k == 1) = p := ⟨_, rfl⟩
      rw [hp] at hkd
      cases p
      all_goals
        refine wp_region_quiet_lit (by kernel_rfl) (by kernel_rfl) ?_
        repeat (with_reducible refine wpQuiet_step (fun K hK => ?_); go_simp; with_reducible refine hK _ ?_; clear hK K)
        with_reducible refine wpQuiet_nil ?_
        rintro _ ⟨nq, rfl⟩
        clear x0 x1 x2 s0 z0 z1 z2
        go_wp2
        go_roundw
        case rel => exact ⟨k + 1, by omega, by go_num, below_drewN hb5 _⟩
        case measure => (simp [intOf]; try omega)
    · have hb5 := hb.trans (hb4.mono hb.size)
      go_wp2
      go_ret
      exact ⟨rfl, hb5⟩
theorem fullExact_walk (a : Option Addr) (z : List Ev) (c : Nat) (w : World) (hf : EvS w a z ∧ z.length ≤ c ∧ z.length * 24 ≤ 140737488351232 ∧ ∀ e ∈ z, I64 e.k ∧ I64 e.t ∧ I64 e.o) :
    Calls Try.prog 9 #[.slice a z.length c] w fun e w' => e = .returned (.bool true) ∧ Below w.heap.size w w' := by
  have h := hf.1
  clear hf
  by_cases he : (played z).2.2 = 0
  · exact fullExact_ok a z c w h he
  · have e1 : ((played z).2.2 != 0) = true := by simpa using he
    have HA := Lib.hid fun W (hW : EvS W a z) => fullRun_err z a c W hW he
    have HB := Lib.hid fun W (hW : EvS W a z) => seconds_no z z.length rfl a c W hW he
    unfold SecNo at HB
    clear he
    generalize (played z).2.2 = E at *
    go_enter Try.func9, Try.ntmps9
    go_wp2_with fail
    refine (detected_any _).mono ?_
    rintro r w1 ⟨rfl, hb⟩
    go_wp2_with fail
    refine (HA.out _ (h.below hb)).mono ?_
    rintro r w2 ⟨rfl, hk⟩
    replace hb := hb.trans (hk.mono hb.size)
    go_wp2_with fail
    refine (HB.out _ (h.below hb)).mono ?_
    rintro r w3 ⟨rfl, hk⟩
    replace hb := hb.trans (hk.mono hb.size)
    go_wp2
    go_ret
    exact ⟨rfl, hb⟩
/-! The frame of the law FullExact, by program. -/
set_option maxRecDepth 100000 in
theorem fullExact_lifted (os : Os) (started : os.Started) (H : Type) (enc : TypeId × Value → H) :
    ReturnsInHanded {} Try.checked os 9 .any (Rows.fullExactSpec.pre6 enc Try.prog Try.f9 Rows.fullExactRow.domain false) (Rows.fullExactSpec.post enc Try.prog Try.f9 false true false false) := by
  refine returnsInHanded_of_change_shaped (C := Try.checked) frame_own started (by kernel_rfl) Try.func9
    (ChangeSpec.witness6 (enc := enc) (C := Try.checked) false ⟨#[], #[.slice none 0 0], []⟩ 8 (by kernel_rfl) (by kernel_rfl) (by kernel_rfl) (by kernel_rfl)) ?_
  intro W base args ds gs before hval0 hW hcnd hsz hshaped hroom
  clear hcnd hshaped
  have hval : ∀ (j : Nat) t v, Try.f9.params[j]? = some t → args[j]? = some v → Value.okWide Try.prog W .any base t v := hval0
  have hW' := hW
  obtain ⟨p, q, hA0, hV, rfl, hfz, hnd⟩ := hW
  have hA : DataW.TrodAll enc Try.prog W 0 (fun _ => true) true Try.f9.params.toList args.toList ds p := hA0
  rw [Try.params9] at hA hval
  obtain ⟨v0, vs0, d0, ds0, p0, q0, hargs, rfl, rfl, h0, r0⟩ := trodAll_cons hA
  obtain ⟨rfl, rfl, rfl⟩ := trodAll_nil r0
  obtain rfl : args = #[v0] := by cases args; simp_all
  obtain ⟨rfl, rfl⟩ := trodVars_none hV
  have k0 := h0
  have lt0 : ∀ x ∈ p0, x.block < W.heap.size := by obtain ⟨m, hm⟩ := k0; exact DataW.trod_lt m _ _ _ hm
  obtain ⟨a0, z0, c0, rfl, w0⟩ := open_evs (hval 0 22 v0 rfl rfl) h0 (fun els sp hd => sized_slice hsz (j := 0) rfl (by rw [hd]; rfl) Try.underlying22)
  clear hA0 hval0
  refine (fullExact_walk a0 z0 c0 W w0).mono fun e W' ⟨he, bel⟩ => ?_
  subst he
  exact ⟨_, rfl, _, _, _, [], _, [], hW', trodAll_mk1 (shut_bool Try.underlying4 _), (trodAll_cons_mk (Below.trod frame_laid (by kernel_rfl) (of_decide_eq_true (by kernel_rfl)) k0 bel lt0) trodAll_mk0), rfl, bel.frame _, fun h => by cases h⟩

theorem fullExact_over : Rows.fullExactRow.holds Try.pinned (OpenSpec.ofChange Rows.fullExactSpec) :=
  OpenClaim.holds_of_wide 9 Try.f9 rfl rfl rfl rfl rfl rfl rfl ⟨rfl, rfl, rfl, rfl, rfl⟩ rfl rfl rfl rfl rfl (by kernel_rfl) Try.func9 (by kernel_rfl)
    (of_decide_eq_true (by kernel_rfl)) (by unfold Func.isWrapper; first | (rw [if_pos (by decide +kernel)]; kernel_rfl) | (rw [if_neg (by decide +kernel)]; exact ⟨rfl, rfl⟩))
    (fun os started H enc _ => fullExact_lifted os started H enc)

/-- The statement. -/
theorem fullExact_holds : Rows.FullExactSaid := fullExact_over

end Go.Proofs.Ytdhbgbneadcmiaa

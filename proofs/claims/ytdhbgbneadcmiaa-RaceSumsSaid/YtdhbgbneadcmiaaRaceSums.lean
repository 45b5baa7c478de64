/- RaceSums: Seconds, Vars and First agree with all races: for every trace. -/
import Derived.Test.YtdhbgbneadcmiaaRows
import Derived.Test.YtdhbgbneadcmiaaRacB
import Derived.Test.YtdhbgbneadcmiaaFir
import Derived.Test.YtdhbgbneadcmiaaHasI
import Derived.Test.YtdhbgbneadcmiaaOpenE
namespace Go.Proofs.Ytdhbgbneadcmiaa
open Go.ChangeShapes Go.WideShapes Go.ChangeAt Go.RowKit

theorem nodup_sub_len : ∀ (a b : List Int), a.Nodup → (∀ x ∈ a, x ∈ b) → a.length ≤ b.length
  | [], _, _, _ => Nat.zero_le _
  | x :: a, b, hn, hs => by
    rw [List.nodup_cons] at hn
    have hx := hs x (List.mem_cons_self ..)
    have ih := nodup_sub_len a (b.erase x) hn.2 fun y hy => by
      have hy2 := hs y (List.mem_cons_of_mem _ hy)
      have hne : y ≠ x := fun e => hn.1 (e ▸ hy)
      exact (List.mem_erase_of_ne hne).2 hy2
    rw [List.length_erase_of_mem hx] at ih
    have := List.length_pos_of_mem hx
    simp
    omega
theorem rises_nodup {a : List Int} (h : a.Pairwise (· < ·)) : a.Nodup := h.imp fun h e => by omega
theorem find_le {p : Int → Bool} : ∀ {S : List Int} {q y : Int}, S.Pairwise (· < ·) → S.find? p = some q → y ∈ S → p y = true → q ≤ y
  | [], _, _, _, h, _, _ => by cases h
  | s :: S, q, y, hs, h, hy, hp => by
    rw [List.pairwise_cons] at hs
    by_cases c : p s = true
    · rw [List.find?_cons_of_pos c] at h
      cases h
      rcases List.mem_cons.1 hy with rfl | hy
      · exact Int.le_refl _
      · have := hs.1 y hy; omega
    · rw [List.find?_cons_of_neg c] at h
      rcases List.mem_cons.1 hy with rfl | hy
      · exact absurd hp c
      · exact find_le hs.2 h hy hp
structure Sums (l : List Ev) : Prop where
  s : (secL ((raceL l).map Rc.b)).length ≤ (raceL l).length
  v : (secL ((raceL l).map Rc.v)).length ≤ (secL ((raceL l).map Rc.b)).length
  z : (raceL l).length = 0 ↔ (secL ((raceL l).map Rc.v)).length = 0
  r : ∀ r ∈ raceL l, hasB (secL ((raceL l).map Rc.b)) r.b = true ∧ hasB (secL ((raceL l).map Rc.v)) r.v = true ∧ (firV l r.v).2 = true ∧ (firV l r.v).1 ≤ r.b ∧ ∃ x : Nat, r.v = x ∧ x < 8
theorem hasI_iff {l : List Int} {x : Int} : hasB l x = true ↔ x ∈ l := by simp [hasB]
theorem sums_of {l : List Ev} (h : (played l).2.2 = 0) : Sums l := by
  have hv : ∀ r ∈ raceL l, ∃ i j : Nat, r = raceOf l i j ∧ i < j ∧ j < l.length ∧ (evAt l j).o = r.v ∧ isAcc (evAt l j) = true := by
    intro r hr
    obtain ⟨i, j, rfl, hij, hj, hB⟩ := mem_raceL.1 hr
    obtain ⟨_, r2, r3, _⟩ := raceB_iff.1 hB
    exact ⟨i, j, rfl, hij, hj, r3.symm, r2⟩
  refine ⟨?_, ?_, ?_, fun r hr => ?_⟩
  · have := secL_len ((raceL l).map Rc.b)
    rwa [List.length_map] at this
  · have := nodup_sub_len (secL ((raceL l).map Rc.v)) ((secL ((raceL l).map Rc.b)).map fun q => (evAt l q.toNat).o) (rises_nodup (secL_rises _)) (fun x hx => by
      rw [mem_secL, List.mem_map] at hx
      obtain ⟨r, hr, rfl⟩ := hx
      obtain ⟨i, j, rfl, _, _, ho, _⟩ := hv r hr
      refine List.mem_map.2 ⟨(raceOf l i j).b, mem_secL.2 (List.mem_map_of_mem hr), ?_⟩
      simpa [raceOf] using ho)
    rwa [List.length_map] at this
  · rw [List.length_eq_zero_iff, List.length_eq_zero_iff, secL_nil, List.map_eq_nil_iff]
  · obtain ⟨i, j, rfl, hij, hj, ho, ha⟩ := hv r hr
    have hb : (raceOf l i j).b ∈ secL ((raceL l).map Rc.b) := mem_secL.2 (List.mem_map_of_mem hr)
    have hp : atV l (raceOf l i j).v (raceOf l i j).b = true := by
      unfold atV
      rw [beq_iff_eq]
      simpa [raceOf] using ho
    refine ⟨hasI_iff.2 hb, hasI_iff.2 (mem_secL.2 (List.mem_map_of_mem hr)), ?_, ?_, ?_⟩
    · unfold firV
      cases hf : (secL ((raceL l).map Rc.b)).find? (atV l (raceOf l i j).v) with
      | none => exact absurd hp (List.find?_eq_none.1 hf _ hb)
      | some q => rfl
    · unfold firV
      cases hf : (secL ((raceL l).map Rc.b)).find? (atV l (raceOf l i j).v) with
      | none => exact absurd hp (List.find?_eq_none.1 hf _ hb)
      | some q => exact find_le (secL_rises _) hf hb hp
    · have h1 := ev_at h hj
      have h2 := isAcc_iff.1 ha
      have h3 : manyOf (evAt l j).k = 8 := by
        rcases h2 with e | e <;> rw [e] <;> decide
      rw [ho] at h1
      exact ⟨(raceOf l i j).v.toNat, by omega, by omega⟩
set_option maxRecDepth 100000 in
set_option maxHeartbeats 4000000 in
theorem raceSums_ok (a : Option Addr) (z : List Ev) (c : Nat) (w : World) (h : EvS w a z) (he : (played z).2.2 = 0) :
    Calls Try.prog 3 #[.slice a z.length c] w fun e w' => e = .returned (.bool true) ∧ Below w.heap.size w w' := by
  have hl80 := (played_evs he).1
  have hbig := h.big
  have hLl : (raceL z).length ≤ 6400 := by
    have h1 := allR_len z z.length z.length
    have h2 : z.length * z.length ≤ 80 * 80 := Nat.mul_le_mul hl80 hl80
    simp only [raceL]
    omega
  have hs := sums_of he
  have hS1 := hs.s
  have hS2 := hs.v
  have hS3 := hs.z
  have HR := Lib.hid hs.r
  have HA := Lib.hid fun W (hW : EvS W a z) => all_ok z a c W hW he
  have HB := Lib.hid fun W (hW : EvS W a z) => seconds_ok z z.length rfl a c W hW he
  have HV := Lib.hid fun W (hW : EvS W a z) => vars_ok z z.length rfl a c W hW he
  have HF := Lib.hid fun (x : Nat) (hx : x < 8) W (hW : EvS W a z) => first_ok z z.length x rfl a c W hW he hx
  clear hs he
  generalize secL ((raceL z).map Rc.b) = S at *
  generalize secL ((raceL z).map Rc.v) = V at *
  generalize raceL z = L at *
  have t1 : decide (S.length > L.length) = false := decide_eq_false (by omega)
  have t2 : decide (L.length < S.length) = false := decide_eq_false (by omega)
  have t3 : decide (S.length < V.length) = false := decide_eq_false (by omega)
  obtain ⟨q, hq⟩ : ∃ q, ((L.length : Int) == 0) = q := ⟨_, rfl⟩
  have hq2 : ((V.length : Int) == 0) = q := by
    rw [← hq, Bool.eq_iff_iff, beq_iff_eq, beq_iff_eq]
    omega
  have hq3 : (L.length == 0) = q := by
    rw [← hq, Bool.eq_iff_iff, beq_iff_eq, beq_iff_eq]
    omega
  have hq4 : (V.length == 0) = q := by
    rw [← hq, Bool.eq_iff_iff, beq_iff_eq, beq_iff_eq]
    omega
  have hq5 : decide (L = []) = q := by
    rw [← hq, Bool.eq_iff_iff, beq_iff_eq, decide_eq_true_eq, ← List.length_eq_zero_iff]
    omega
  have hq6 : decide (V = []) = q := by
    rw [← hq, Bool.eq_iff_iff, beq_iff_eq, decide_eq_true_eq, ← List.length_eq_zero_iff]
    omega
  clear hS1 hS2 hS3
  go_enter Try.func3, Try.ntmps3
  go_wp2_with fail
  refine (raced_any _).mono ?_
  rintro r w1 ⟨rfl, hb⟩
  go_wp2_with fail
  refine (HA.out _ (h.below hb)).mono ?_
  rintro r w2 ⟨v, rfl, hown, hk⟩
  replace hb := hb.trans (hk.mono hb.size)
  have hex : ∃ a2 c2, v = .slice a2 L.length c2 ∧ RcS w2 a2 L := rcS_own hown (by omega)
  obtain ⟨a2, c2, rfl, hL⟩ := hex
  clear hk hown HA
  go_wp2_with fail
  refine (HB.out _ (h.below hb)).mono ?_
  rintro r w3 ⟨a3, c3, rfl, hS, hk⟩
  replace hb := hb.trans (hk.mono hb.size)
  replace hL := hL.below hk
  clear hk HB
  go_wp2_with fail
  refine (HV.out _ (h.below hb)).mono ?_
  rintro r w4 ⟨a4, c4, rfl, hV, hk⟩
  replace hb := hb.trans (hk.mono hb.size)
  replace hL := hL.below hk
  replace hS := hS.below hk
  replace h := h.below hb
  clear hk HV
  have hI := Below.refl w4.heap.size w4
  cases q
  all_goals
    go_wp2
    go_loopw [80] (fun i wr => ∃ k : Nat, k ≤ L.length ∧ i = .int .i64 k ∧ Below w4.heap.size w4 wr) (fun i _ => L.length - (intOf i).toNat)
    case atStart => exact ⟨0, Nat.zero_le _, rfl, hI⟩
    case round =>
      clear hI hq hq2 hq3 hq4 hq5 hq6 t1 t2 t3
      obtain ⟨k, hk, rfl, hb4⟩ := hrel
      by_cases hlt : k < L.length
      · obtain ⟨g, o, rfl, d0, d1, d2, d3⟩ := (hL.below hb4).at hlt
        obtain ⟨r1, r2, r3, r4, x, r5, r6⟩ := HR.out _ (List.getElem_mem hlt)
        generalize L[k] = y at *
        obtain ⟨ya, yb, yv, yk⟩ := y
        simp only at d0 d1 d2 d3 r1 r2 r3 r4 r5
        subst r5
        have hN := Has.new wr (rcC ⟨ya, yb, (x : Int), yk⟩) 32
        have hb5 := hb4.alloc hb4.size (.cells (rcC ⟨ya, yb, (x : Int), yk⟩) 32)
        have k0 : (0 : Int) ≤ k := by omega
        have k1 : (k : Int) < L.length := by omega
        have HF2 := Lib.hid fun W (hW : EvS W a z) => HF.out x r6 W hW
        rw [r3] at HF2
        obtain ⟨fv, hfv⟩ : ∃ fv, (firV z x).1 = fv := ⟨_, rfl⟩
        rw [hfv] at HF2 r4
        have t4 : decide (fv > yb) = false := decide_eq_false (by omega)
        have R1 := Lib.hid r1
        have R2 := Lib.hid r2
        clear hb4 r1 r2 r3 r4 r6 hfv
        go_upto_region 13 with fail
        clear d0 d1 d2 d3
        generalize wr.alloc (.cells (rcC ⟨ya, yb, (x : Int), yk⟩) 32) = w5 at *
        obtain ⟨x0, x1, x2⟩ : w5.cell? ⟨wr.heap.size, 0, none⟩ = some (.int .i64 ya) ∧ w5.cell? ⟨wr.heap.size, 1, none⟩ = some (.int .i64 yb) ∧ w5.cell? ⟨wr.heap.size, 2, none⟩ = some (.int .i64 (x : Int)) := ⟨hN.cell rfl, hN.cell rfl, hN.cell rfl⟩
        go_wp2_with fail
        refine (HF2.out _ (h.below hb5)).mono ?_
        rintro r w6 ⟨rfl, hk6⟩
        have hb6 := hb5.trans (hk6.mono hb5.size)
        replace hN := hN.below hk6 hN.lt
        clear hk6 hb5 HF2 x0 x1 x2
        obtain ⟨x1, x2⟩ : w6.cell? ⟨wr.heap.size, 1, none⟩ = some (.int .i64 yb) ∧ w6.cell? ⟨wr.heap.size, 2, none⟩ = some (.int .i64 (x : Int)) := ⟨hN.cell rfl, hN.cell rfl⟩
        go_wp2_with fail
        refine (hasInt_any S yb _ _ _ (hS.below hb6)).mono ?_
        rintro r w7 ⟨rfl, rfl⟩
        rw [R1.out]
        go_wp2_with fail
        refine (hasInt_any V (x : Int) _ _ _ (hV.below hb6)).mono ?_
        rintro r w8 ⟨rfl, rfl⟩
        rw [R2.out]
        go_wp2
        go_roundw
        case rel => exact ⟨k + 1, by omega, by go_num, hb6⟩
        case measure => (simp [intOf]; try omega)
      · have hb5 := hb.trans (hb4.mono hb.size)
        go_wp2
        go_ret
        exact ⟨rfl, hb5⟩
theorem raceSums_walk (a : Option Addr) (z : List Ev) (c : Nat) (w : World) (hf : EvS w a z ∧ z.length ≤ c ∧ z.length * 24 ≤ 140737488351232 ∧ ∀ e ∈ z, I64 e.k ∧ I64 e.t ∧ I64 e.o) :
    Calls Try.prog 3 #[.slice a z.length c] w fun e w' => e = .returned (.bool true) ∧ Below w.heap.size w w' := by
  have h := hf.1
  clear hf
  by_cases he : (played z).2.2 = 0
  · exact raceSums_ok a z c w h he
  · have e1 : ((played z).2.2 != 0) = true := by simpa using he
    have HA := Lib.hid fun W (hW : EvS W a z) => all_err z a c W hW he
    have HB := Lib.hid fun W (hW : EvS W a z) => seconds_no z z.length rfl a c W hW he
    have HV := Lib.hid fun W (hW : EvS W a z) => vars_no z z.length rfl a c W hW he
    unfold SecNo at HB HV
    clear he
    generalize (played z).2.2 = E at *
    go_enter Try.func3, Try.ntmps3
    go_wp2_with fail
    refine (raced_any _).mono ?_
    rintro r w1 ⟨rfl, hb⟩
    go_wp2_with fail
    refine (HA.out _ (h.below hb)).mono ?_
    rintro r w2 ⟨rfl, hk⟩
    replace hb := hb.trans (hk.mono hb.size)
    go_wp2_with fail
    refine (HB.out _ (h.below hb)).mono ?_
    rintro r w3 ⟨rfl, hk⟩
    replace hb := hb.trans (hk.mono hb.size)
    go_wp2_with fail
    refine (HV.out _ (h.below hb)).mono ?_
    rintro r w4 ⟨rfl, hk⟩
    replace hb := hb.trans (hk.mono hb.size)
    go_wp2
    go_ret
    exact ⟨rfl, hb⟩
/-! The frame of the law RaceSums, by program. -/
set_option maxRecDepth 100000 in
theorem raceSums_lifted (os : Os) (started : os.Started) (H : Type) (enc : TypeId × Value → H) :
    ReturnsInHanded {} Try.checked os 3 .any (Rows.raceSumsSpec.pre6 enc Try.prog Try.f3 Rows.raceSumsRow.domain false) (Rows.raceSumsSpec.post enc Try.prog Try.f3 false true false false) := by
  refine returnsInHanded_of_change_shaped (C := Try.checked) frame_own started (by kernel_rfl) Try.func3
    (ChangeSpec.witness6 (enc := enc) (C := Try.checked) false ⟨#[], #[.slice none 0 0], []⟩ 8 (by kernel_rfl) (by kernel_rfl) (by kernel_rfl) (by kernel_rfl)) ?_
  intro W base args ds gs before hval0 hW hcnd hsz hshaped hroom
  clear hcnd hshaped
  have hval : ∀ (j : Nat) t v, Try.f3.params[j]? = some t → args[j]? = some v → Value.okWide Try.prog W .any base t v := hval0
  have hW' := hW
  obtain ⟨p, q, hA0, hV, rfl, hfz, hnd⟩ := hW
  have hA : DataW.TrodAll enc Try.prog W 0 (fun _ => true) true Try.f3.params.toList args.toList ds p := hA0
  rw [Try.params3] at hA hval
  obtain ⟨v0, vs0, d0, ds0, p0, q0, hargs, rfl, rfl, h0, r0⟩ := trodAll_cons hA
  obtain ⟨rfl, rfl, rfl⟩ := trodAll_nil r0
  obtain rfl : args = #[v0] := by cases args; simp_all
  obtain ⟨rfl, rfl⟩ := trodVars_none hV
  have k0 := h0
  have lt0 : ∀ x ∈ p0, x.block < W.heap.size := by obtain ⟨m, hm⟩ := k0; exact DataW.trod_lt m _ _ _ hm
  obtain ⟨a0, z0, c0, rfl, w0⟩ := open_evs (hval 0 22 v0 rfl rfl) h0 (fun els sp hd => sized_slice hsz (j := 0) rfl (by rw [hd]; rfl) Try.underlying22)
  clear hA0 hval0
  refine (raceSums_walk a0 z0 c0 W w0).mono fun e W' ⟨he, bel⟩ => ?_
  subst he
  exact ⟨_, rfl, _, _, _, [], _, [], hW', trodAll_mk1 (shut_bool Try.underlying4 _), (trodAll_cons_mk (Below.trod frame_laid (by kernel_rfl) (of_decide_eq_true (by kernel_rfl)) k0 bel lt0) trodAll_mk0), rfl, bel.frame _, fun h => by cases h⟩

theorem raceSums_over : Rows.raceSumsRow.holds Try.pinned (OpenSpec.ofChange Rows.raceSumsSpec) :=
  OpenClaim.holds_of_wide 3 Try.f3 rfl rfl rfl rfl rfl rfl rfl ⟨rfl, rfl, rfl, rfl, rfl⟩ rfl rfl rfl rfl rfl (by kernel_rfl) Try.func3 (by kernel_rfl)
    (of_decide_eq_true (by kernel_rfl)) (by unfold Func.isWrapper; first | (rw [if_pos (by decide +kernel)]; kernel_rfl) | (rw [if_neg (by decide +kernel)]; exact ⟨rfl, rfl⟩))
    (fun os started H enc _ => raceSums_lifted os started H enc)

/-- The statement. -/
theorem raceSums_holds : Rows.RaceSumsSaid := raceSums_over

end Go.Proofs.Ytdhbgbneadcmiaa

/- PackTurned: changing one byte, or truncation, is detected. -/
import Derived.Test.YtcfjbgocfcjnhaaRows
import Derived.Test.YtcfjbgocfcjnhaaPkE
import Derived.Test.YtcfjbgocfcjnhaaRest
import Derived.Test.YtcfjbgocfcjnhaaOpenE
import Derived.WalkSpells
namespace Go.Proofs.Ytcfjbgocfcjnhaa
open Go.ChangeShapes Go.WideShapes Go.ChangeAt Go.RowKit

theorem read_s (s : ByteArray) (L : List Int) (hs : s = strOfNums L) (hr : byteL L) (hl : L.length ≤ 1048576) (w : World) :
    Calls Try.prog 19 #[.string s] w (ReadPost L w) := by
  subst hs; exact read_any L hr hl w
theorem str_drop (l : List Int) (n : Nat) : (strOfNums l).extract n l.length = strOfNums (l.drop n) := by
  apply ByteArray.ext
  simp [strOfNums, ByteArray.data_extract, ← List.map_drop, ← List.map_take]
  rw [List.take_of_length_le (by simp)]
theorem str_byte (s : ByteArray) (P : List Int) (hs : s = strOfNums P) (hr : byteL P) {i : Nat} (hi : i < P.length) : ∀ h : i < s.size, (((s[i]'h).toNat : Nat) : Int) = P[i] := by
  subst hs
  intro h
  have h1 := hr _ (List.getElem_mem hi)
  have h2 : (strOfNums P)[i]'h = UInt8.ofNat (P[i]).toNat := by
    show (strOfNums P).data[i]'_ = _
    simp [strOfNums]
  rw [h2]
  simp
  omega
theorem str_append (l m : List Int) : strOfNums l ++ strOfNums m = strOfNums (l ++ m) := by
  apply ByteArray.ext
  simp [strOfNums]
set_option maxRecDepth 100000 in
set_option maxHeartbeats 4000000 in
theorem packTurned_walk (a : Option Addr) (z : List Ev) (c : Nat) (at' cut b : Int) (w : World) (h : EvS w a z ∧ z.length ≤ c ∧ z.length * 24 ≤ 140737488351232 ∧ ∀ e ∈ z, I64 e.k ∧ I64 e.t ∧ I64 e.o) (_ : I64 at') (_ : I64 cut) (hbb : 0 ≤ b ∧ b ≤ 255) :
    Calls Try.prog 5 #[.slice a z.length c, .int .i64 at', .int .i64 cut, .int .u8 b] w fun e w' => e = .returned (.bool true) ∧ Below w.heap.size w w' := by
  obtain ⟨h1, hc, h2, _⟩ := h
  go_enter Try.func5, Try.ntmps5
  go_wp2_with fail
  refine (packed_any _).mono ?_
  rintro r w1 ⟨rfl, hb⟩
  replace h1 := h1.below hb
  by_cases he : (played z).2.2 = 0
  · obtain ⟨hl80, hev⟩ := played_evs he
    have hrg := pack_rng hev hl80
    have hpl := packL_len z
    have q0 := Int.emod_nonneg at' (show ((packL z).length : Int) ≠ 0 by omega)
    have q1 := Int.emod_lt_of_pos at' (show 0 < ((packL z).length : Int) by omega)
    obtain ⟨i, hi⟩ := Int.eq_ofNat_of_zero_le q0
    have p0 := Int.emod_nonneg cut (show ((packL z).length : Int) ≠ 0 by omega)
    have p1 := Int.emod_lt_of_pos cut (show 0 < ((packL z).length : Int) by omega)
    obtain ⟨j, hj⟩ := Int.eq_ofNat_of_zero_le p0
    have hil : i < (packL z).length := by omega
    have hjl : j < (packL z).length := by omega
    have HI := Lib.hid hi
    have HJ := Lib.hid hj
    have HE := Lib.hid he
    have hsz := str_size (packL z)
    have HT := Lib.hid (fun (hne : b ≠ (packL z)[i]) => read_turn he hil hbb hne)
    have HB := Lib.hid (read_pack he)
    have HC := Lib.hid (read_cut (l := z) hjl)
    have hpl2 : (packL z).length ≤ 164 := by omega
    clear q0 q1 p0 p1 hi hj he
    go_wp2_with fail
    refine (pack_ok z _ _ _ h1 HE.out).mono ?_
    rintro r w2 ⟨rfl, hk⟩
    replace hb := hb.trans (hk.mono hb.size)
    clear hk h1 HE hpl
    obtain ⟨s, hs⟩ : ∃ s, s = strOfNums (packL z) := ⟨_, rfl⟩
    rw [← hs] at hsz ⊢
    generalize packL z = P at *
    obtain ⟨N, hN⟩ : ∃ N, P.length = N := ⟨_, rfl⟩
    rw [hN] at hsz hil hjl hpl2 HI HJ
    have HS := Lib.hid hs
    have HN := Lib.hid hN
    clear hs hN
    go_wp2_with fail
    refine (rest_any at' (N : Int) _ (by omega) (by omega)).mono ?_
    rintro r w3 ⟨rfl, rfl⟩
    rw [HI.out]
    go_wp2_with fail
    refine (rest_any cut (N : Int) _ (by omega) (by omega)).mono ?_
    rintro r w3 ⟨rfl, rfl⟩
    rw [HJ.out]
    clear HI HJ
    have i0 : (0 : Int) ≤ i := by omega
    have i1 : (i : Int) < N := by omega
    have i2 : (i : Int) ≤ N := by omega
    have i3 : (i : Int) + 1 ≤ N := by omega
    have i4 : (0 : Int) ≤ (i : Int) + 1 := by omega
    have hwi := IntWalk.i64_in ((i : Int) + 1) (by omega)
    have j0 : (0 : Int) ≤ j := by omega
    have j2 : (j : Int) ≤ N := by omega
    have hBN : ByS (w3.alloc (.cells #[.int .u8 b] 5)).drew (some ⟨w3.heap.size, 0, none⟩) [b] := ⟨by simp, by intro n hn; simp at hn; subst hn; exact hbb, .inr ⟨_, _, rfl, fun i hi => by
      obtain rfl : i = 0 := by simp at hi; exact hi
      exact (Has.new w3 #[.int .u8 b] 5).drew.cell rfl⟩⟩
    have hcv := conv_n (n := 1) (c := 1) hBN rfl (by omega)
    have x0 : (w3.alloc (.cells #[.int .u8 b] 5)).drew.cell? ⟨w3.heap.size, 0, none⟩ = some (.int .u8 b) := (Has.new w3 #[.int .u8 b] 5).drew.cell rfl
    have hmin : min i N = i := Nat.min_eq_left (by omega)
    have hb1 : (strOfNums [b]).size = 1 := rfl
    have g1 : ¬ (9223372036854775807 < i + 1) := by omega
    go_upto_region 7 with fail
    have g2 : ¬ (9223372036854775807 < i + 1 + (N - (i + 1))) := by omega
    have HCAT := Lib.hid (show s.extract 0 i ++ strOfNums [b] ++ s.extract (i + 1) N = strOfNums (P.set i b) by
      rw [HS.out, str_take, ← HN.out, str_drop, str_append, str_append, List.set_eq_take_append_cons_drop, if_pos (by rw [HN.out]; exact hil), List.append_assoc]
      rfl)
    have HSR := Lib.hid (show byteL (P.set i b) from fun n hn => by
      rcases List.mem_or_eq_of_mem_set hn with h | rfl
      · exact hrg n h
      · exact hbb)
    have HCR := Lib.hid (show byteL (P.take j) from fun n hn => hrg n (List.mem_of_mem_take hn))
    have hbA := (hb.alloc hb.size (.cells #[.int .u8 b] 5)).drew
    go_region_law (first | (go_simp; go_at_call 19; refine (read_s _ (P.set i b) HCAT.out HSR.out (by rw [List.length_set, HN.out]; omega) _).mono ?_; rintro r w6 ⟨a6, c6, rfl, hE6, hk6⟩))
    all_goals
      have hb6 := hbA.trans (hk6.mono hbA.size)
      clear hk6 hE6 hbA hcv x0 hBN hb g1 g2 hmin hb1
      have hsj : s.extract 0 j = strOfNums (P.take j) := by rw [HS.out, str_take]
      have HSJ := Lib.hid hsj
      clear hsj
      go_wp2_with fail
      refine (read_s _ (P.take j) HSJ.out HCR.out (by rw [List.length_take, HN.out]; omega) _).mono ?_
      rintro r w7 ⟨a7, c7, rfl, hE7, hk7⟩
      have hb7 := hb6.trans (hk7.mono hb6.size)
      have hne : ((readV (P.take j)).2 != 0) = true := by simpa using HC.out
      clear hk7 hE7 hb6
      generalize (readV (P.take j)).2 = g at *
      clear HC
      have hPi : i < P.length := by rw [HN.out]; exact hil
      have hget := str_byte s P HS.out hrg hPi
      obtain ⟨x, hx⟩ : ∃ x, P[i] = x := ⟨_, rfl⟩
      by_cases hbx : b = x
      · have hset : P.set i b = P := by rw [hbx, ← hx, List.set_getElem_self]
        have hf : (readV (P.set i b)).2 = 0 := by rw [hset, HB.out]
        have t1 : (x == b) = true := by simpa using hbx.symm
        have hg2 := hget (by omega)
        rw [hx] at hg2
        rw [hf]
        clear hset hf hx hbx HT HB HCAT HSR HCR HSJ hget
        go_wp2
        go_ret
        exact ⟨rfl, hb7⟩
      · have hf : (readV (P.set i b)).2 = 6 := by rw [HT.out (by rw [hx]; exact hbx)]
        have t1 : (x == b) = false := by simpa using fun h : x = b => hbx h.symm
        have hg2 := hget (by omega)
        rw [hx] at hg2
        rw [hf]
        clear hf hx hbx HT HB HCAT HSR HCR HSJ hget
        go_wp2
        go_ret
        exact ⟨rfl, hb7⟩
  · have he2 : ((played z).2.2 != 0) = true := by simpa using he
    go_wp2_with fail
    refine (pack_err z _ _ _ h1 he).mono ?_
    rintro r w2 ⟨rfl, hk⟩
    replace hb := hb.trans (hk.mono hb.size)
    clear hk he
    go_wp2
    go_ret
    exact ⟨rfl, hb⟩
/-! The frame of the law PackTurned, by program. -/
set_option maxRecDepth 100000 in
theorem packTurned_lifted (os : Os) (started : os.Started) (H : Type) (enc : TypeId × Value → H) :
    ReturnsInHanded {} Try.checked os 5 .any (Rows.packTurnedSpec.pre6 enc Try.prog Try.f5 Rows.packTurnedRow.domain false) (Rows.packTurnedSpec.post enc Try.prog Try.f5 false true false false) := by
  refine returnsInHanded_of_change_shaped (C := Try.checked) frame_own started (by kernel_rfl) Try.func5
    (ChangeSpec.witness6 (enc := enc) (C := Try.checked) false ⟨#[], #[.slice none 0 0, .int .i64 0, .int .i64 0, .int .u8 0], []⟩ 8 (by kernel_rfl) (by kernel_rfl) (by kernel_rfl) (by kernel_rfl)) ?_
  intro W base args ds gs before hval0 hW hcnd hsz hshaped hroom
  clear hcnd hshaped
  have hval : ∀ (j : Nat) t v, Try.f5.params[j]? = some t → args[j]? = some v → Value.okWide Try.prog W .any base t v := hval0
  have hW' := hW
  obtain ⟨p, q, hA0, hV, rfl, hfz, hnd⟩ := hW
  have hA : DataW.TrodAll enc Try.prog W 0 (fun _ => true) true Try.f5.params.toList args.toList ds p := hA0
  rw [Try.params5] at hA hval
  obtain ⟨v0, vs0, d0, ds0, p0, q0, hargs, rfl, rfl, h0, r0⟩ := trodAll_cons hA
  obtain ⟨v1, vs1, d1, ds1, p1, q1, rfl, rfl, rfl, h1, r1⟩ := trodAll_cons r0
  obtain ⟨v2, vs2, d2, ds2, p2, q2, rfl, rfl, rfl, h2, r2⟩ := trodAll_cons r1
  obtain ⟨v3, vs3, d3, ds3, p3, q3, rfl, rfl, rfl, h3, r3⟩ := trodAll_cons r2
  obtain ⟨rfl, rfl, rfl⟩ := trodAll_nil r3
  obtain rfl : args = #[v0, v1, v2, v3] := by cases args; simp_all
  obtain ⟨rfl, rfl⟩ := trodVars_none hV
  have k0 := h0
  have lt0 : ∀ x ∈ p0, x.block < W.heap.size := by obtain ⟨m, hm⟩ := k0; exact DataW.trod_lt m _ _ _ hm
  obtain ⟨a0, z0, c0, rfl, w0⟩ := open_evs (hval 0 28 v0 rfl rfl) h0 (fun els sp hd => sized_slice hsz (j := 0) rfl (by rw [hd]; rfl) Try.underlying28)
  have k1 := h1
  have lt1 : ∀ x ∈ p1, x.block < W.heap.size := by obtain ⟨m, hm⟩ := k1; exact DataW.trod_lt m _ _ _ hm
  obtain ⟨a1, rfl, rfl, rfl, w1⟩ := open_int Try.underlying3 (hval 1 3 v1 rfl rfl) h1
  have k2 := h2
  have lt2 : ∀ x ∈ p2, x.block < W.heap.size := by obtain ⟨m, hm⟩ := k2; exact DataW.trod_lt m _ _ _ hm
  obtain ⟨a2, rfl, rfl, rfl, w2⟩ := open_int Try.underlying3 (hval 2 3 v2 rfl rfl) h2
  have k3 := h3
  have lt3 : ∀ x ∈ p3, x.block < W.heap.size := by obtain ⟨m, hm⟩ := k3; exact DataW.trod_lt m _ _ _ hm
  obtain ⟨a3, rfl, rfl, rfl, w3⟩ := open_int Try.underlying5 (hval 3 5 v3 rfl rfl) h3
  clear hA0 hval0
  refine (packTurned_walk a0 z0 c0 a1 a2 a3 W w0 (wf_i64 w1) (wf_i64 w2) (bounds_u8 w3)).mono fun e W' ⟨he, bel⟩ => ?_
  subst he
  exact ⟨_, rfl, _, _, _, [], _, [], hW', trodAll_mk1 (shut_bool Try.underlying4 _), (trodAll_cons_mk (Below.trod frame_laid (by kernel_rfl) (of_decide_eq_true (by kernel_rfl)) k0 bel lt0) (trodAll_cons_mk (Below.trod frame_laid (by kernel_rfl) (of_decide_eq_true (by kernel_rfl)) k1 bel lt1) (trodAll_cons_mk (Below.trod frame_laid (by kernel_rfl) (of_decide_eq_true (by kernel_rfl)) k2 bel lt2) (trodAll_cons_mk (Below.trod frame_laid (by kernel_rfl) (of_decide_eq_true (by kernel_rfl)) k3 bel lt3) trodAll_mk0)))), rfl, bel.frame _, fun h => by cases h⟩

theorem packTurned_over : Rows.packTurnedRow.holds Try.pinned (OpenSpec.ofChange Rows.packTurnedSpec) :=
  OpenClaim.holds_of_wide 5 Try.f5 rfl rfl rfl rfl rfl rfl rfl ⟨rfl, rfl, rfl, rfl, rfl⟩ rfl rfl rfl rfl rfl (by kernel_rfl) Try.func5 (by kernel_rfl)
    (of_decide_eq_true (by kernel_rfl)) (by unfold Func.isWrapper; first | (rw [if_pos (by decide +kernel)]; kernel_rfl) | (rw [if_neg (by decide +kernel)]; exact ⟨rfl, rfl⟩))
    (fun os started H enc _ => packTurned_lifted os started H enc)

/-- The statement. -/
theorem packTurned_holds : Rows.PackTurnedSaid := packTurned_over

end Go.Proofs.Ytcfjbgocfcjnhaa

/- RingTurned, where what it reads is of bulk at most 1048576: the order and the repetition of pairs do not matter. -/
import Derived.Test.YtjpopjjjnaapnaaRows
import Derived.Test.YtjpopjjjnaapnaaRgR
import Derived.Test.YtjpopjjjnaapnaaRgE
import Derived.Test.YtjpopjjjnaapnaaOpenP
import Derived.Test.YtjpopjjjnaapnaaUpto
namespace Go.Proofs.Ytjpopjjjnaapnaa
open Go.ChangeShapes Go.WideShapes Go.ChangeAt Go.RowKit

theorem ringOf_n (p : List (Int × Int)) (n : Nat) (hn : p.length = n) (a : Option Addr) (c : Nat) (w : World) (h : PrS w a p) (hp : okPr p) :
    Calls Try.prog 17 #[.slice a n c] w (RingPost (ringP (edgeP p)) w) := by
  subst hn; exact ringOf_ok p a c w h hp
theorem rank_n (p : List (Int × Int)) (n : Nat) (hn : p.length = n) (a : Option Addr) (c : Nat) (w : World) (h : PrS w a p) (hp : okPr p) :
    Calls Try.prog 21 #[.slice a n c] w (RankPost (edgeP p) w) := by
  subst hn; exact rank_ok p a c w h hp
theorem PrS.src {w : World} {a : Option Addr} {l : List (Int × Int)} (h : PrS w a l) : Src w 2 a l.length (prL l) := by
  refine ⟨prL_length l, ?_⟩
  rcases h.ok with rfl | ⟨b, o, ha, hc⟩
  · exact .inl ⟨rfl, rfl⟩
  · right
    refine ⟨_, ha, fun j u hu => ?_⟩
    have hj : j < l.length * 2 := by have := (List.getElem?_eq_some_iff.1 hu).1; rw [prL_length] at this; exact this
    have hadd : (⟨b, o, none⟩ : Addr).add j = ⟨b, o + j, none⟩ := by unfold Addr.add; split <;> simp_all
    have hi : j / 2 < l.length := by omega
    obtain ⟨c0, c1⟩ := hc (j / 2) hi
    obtain ⟨g0, g1⟩ := prL_get l (j / 2) hi
    rw [hadd]
    rcases Nat.mod_two_eq_zero_or_one j with e | e
    · rw [show j / 2 * 2 = j by omega] at c0 g0
      rw [c0, ← hu, g0]
    · rw [show o + j / 2 * 2 + 1 = o + j by omega] at c1
      rw [show j / 2 * 2 + 1 = j by omega] at g1
      rw [c1, ← hu, g1]
theorem PrS.drop {w : World} {l : List (Int × Int)} (g o : Nat) (k : Nat) (h : PrS w (some ⟨g, o, none⟩) l) : PrS w (some ⟨g, o + k * 2, none⟩) (l.drop k) := by
  refine ⟨by have := h.big; simp; omega, ?_⟩
  rcases h.ok with h0 | ⟨b, o', ha, hc⟩
  · left; simp [h0]
  · right
    cases ha
    refine ⟨_, _, rfl, fun i hi => ?_⟩
    have hi' : k + i < l.length := by simp at hi; omega
    obtain ⟨c0, c1⟩ := hc _ hi'
    rw [List.getElem_drop]
    rw [show o + k * 2 + i * 2 = o + (k + i) * 2 by omega]
    exact ⟨c0, c1⟩
theorem ringOf_e (p : List (Int × Int)) (n : Nat) (hn : p.length = n) (E : Nat → Nat → Bool) (hE : edgeP p = E) (a : Option Addr) (c : Nat) (w : World) (h : PrS w a p) (hp : okPr p) :
    Calls Try.prog 17 #[.slice a n c] w (RingPost (ringP E) w) := by
  subst hn; subst hE; exact ringOf_ok p a c w h hp
theorem rank_e (p : List (Int × Int)) (n : Nat) (hn : p.length = n) (E : Nat → Nat → Bool) (hE : edgeP p = E) (a : Option Addr) (c : Nat) (w : World) (h : PrS w a p) (hp : okPr p) :
    Calls Try.prog 21 #[.slice a n c] w (RankPost E w) := by
  subst hn; subst hE; exact rank_ok p a c w h hp
def turnL (p : List (Int × Int)) (k : Nat) : List (Int × Int) := p.drop k ++ p.take k ++ p.drop k
theorem turn_mem {p : List (Int × Int)} {k : Nat} {x : Int × Int} : x ∈ turnL p k ↔ x ∈ p := by
  simp only [turnL, List.mem_append]
  constructor
  · rintro ((h | h) | h)
    · exact List.mem_of_mem_drop h
    · exact List.mem_of_mem_take h
    · exact List.mem_of_mem_drop h
  · intro h
    rw [← List.take_append_drop k p, List.mem_append] at h
    rcases h with h | h
    · exact .inl (.inr h)
    · exact .inr h
theorem turn_edge (p : List (Int × Int)) (k : Nat) : edgeP (turnL p k) = edgeP p := by
  funext a b
  simp only [edgeP, hasB]
  exact decide_eq_decide.2 turn_mem
theorem eqInt_n (l m : List Int) (n k : Nat) (hn : l.length = n) (hm : m.length = k) (a a' : Option Addr) (c c' : Nat) (w : World) (h : IntS w a l) (h' : IntS w a' m) :
    Calls Try.prog 22 #[.slice a n c, .slice a' k c'] w fun e w' => e = .returned (.bool (eqB l m)) ∧ w' = w := by
  subst hn; subst hm; exact eqInt_any l m a a' c c' w h h'
theorem rowI_list (f : Nat → Int) : rowI 5 f = (ints ((List.range 5).map f)).toArray := by simp [rowI, ints]
theorem eqB_self (l : List Int) : eqB l l = true := eqB_iff.2 rfl
set_option maxRecDepth 100000 in
set_option maxHeartbeats 8000000 in
theorem ringTurned_walk (a : Option Addr) (z : List (Int × Int)) (c : Nat) (n : Int) (w : World) (h : PrS w a z ∧ z.length * 16 ≤ 140737488351232) (hn : z.length ≤ 1048576) (_ : I64 n) :
    Calls Try.prog 6 #[.slice a z.length c, .int .i64 n] w fun e w' => e = .returned (.bool true) ∧ Below w.heap.size w w' := by
  obtain ⟨i0, hi, hz0, hz1, hz2⟩ := info_parts infoPr
  obtain ⟨h1, h2⟩ := h
  have hbig := h1.big
  have q0 := Int.emod_nonneg n (show (z.length : Int) + 1 ≠ 0 by omega)
  have q1 := Int.emod_lt_of_pos n (show 0 < (z.length : Int) + 1 by omega)
  obtain ⟨k, hk⟩ := Int.eq_ofNat_of_zero_le q0
  have hkz : k ≤ z.length := by omega
  have HK := Lib.hid hk
  clear hk q0 q1
  go_enter Try.func6, Try.ntmps6
  go_wp2_with fail
  refine (ringed_any _).mono ?_
  rintro r w1 ⟨rfl, hb⟩
  go_wp2_with fail
  refine (locks_any z _ c _ (h1.below hb) h2).mono ?_
  rintro r w2 ⟨a2, c2, rfl, hP, hc2, hk⟩
  replace hb := hb.trans (hk.mono hb.size)
  clear hk h1
  have hl : (z.map lockP).length = z.length := List.length_map _
  have hok := lockP_ok z
  generalize z.map lockP = p at *
  have HL := Lib.hid hl
  have HO := Lib.hid hok
  obtain ⟨q, hq⟩ : ∃ q, q = turnL p k := ⟨_, rfl⟩
  have HQ := Lib.hid (show okPr q from fun x hx => hok x (turn_mem.1 (hq ▸ hx)))
  have HE := Lib.hid (show edgeP q = edgeP p by rw [hq]; exact turn_edge p k)
  have HQL := Lib.hid (show q.length = 0 + (z.length - k) + k + (z.length - k) by rw [hq]; simp [turnL]; omega)
  have HQP := Lib.hid (show prL q = [] ++ prL (p.drop k) ++ prL (p.take k) ++ prL (p.drop k) by rw [hq, turnL, prL_append, prL_append, List.nil_append])
  have HT := Lib.hid (show (p.take k).length = k by simp; omega)
  have HD := Lib.hid (show (p.drop k).length = z.length - k by simp; omega)
  clear hl hok hq
  have hkz2 : (k : Int) ≤ z.length := by omega
  have hkc : (k : Int) ≤ c2 := by omega
  have k0 : (0 : Int) ≤ k := by omega
  go_wp2_with fail
  refine (rest_any n ((z.length : Int) + 1) _ (by omega) (by omega)).mono ?_
  rintro r w3 ⟨rfl, rfl⟩
  rw [HK.out]
  clear HK
  have hs := hb.size
  have hN := World.ownsRow_nil w3.drew w3.drew.heap.size 31 2
  have hPd := hP.below ((Below.refl w3.heap.size w3).drew)
  have hlD := HD.out
  have hlT := HT.out
  generalize z.length = N at *
  obtain ⟨hcc, hc2⟩ := hc2
  rcases hc2 with ⟨rfl, rfl, hz⟩ | ⟨g, rfl⟩
  case' inl =>
    obtain rfl : N = 0 := hz
    obtain rfl : k = 0 := by omega
    have hS1 : Src w3.drew 2 none (0 - 0) (prL (p.drop 0)) := ⟨by rw [prL_length, hlD], .inl ⟨by rw [List.eq_nil_of_length_eq_zero (show (p.drop 0).length = 0 by omega)]; rfl, rfl⟩⟩
    have hS2 : Src w3.drew 2 none 0 (prL (p.take 0)) := by rw [List.take_zero]; exact ⟨rfl, .inl ⟨rfl, rfl⟩⟩
    go_upto_region 5 with fail
    go_region_law (first
      | (refine app_step _ rfl (.const (.slice none 0 0)) (.tmp 25) 22 rfl Try.underlying22 hi hz0 hz1 hz2 rfl (by decide) (by conv => lhs; simp [go_sem]) hN (A := none) (m := N - k) (c := 0) (news := prL (p.drop k)) (by simp [go_sem]) hS1 (prL_one _) (by unfold maxLen; omega) (by omega) (by omega) ?_; intro v6 w6 hA1; have hB1 := hA1.below hN (Below.refl _ _) (Nat.le_refl _); have ho1 := hA1.own; have hs1 := hB1.size; have hT2 := hS2.below hB1; clear hA1)
      | (refine app_step _ rfl (.tmp 26) (.tmp 29) 22 rfl Try.underlying22 hi hz0 hz1 hz2 rfl (by decide) (by conv => lhs; simp [go_sem]) ho1 (A := none) (m := k) (c := 0) (news := prL (p.take k)) (by simp [go_sem]) hT2 (prL_one _) (by unfold maxLen; omega) (by omega) (by omega) ?_; intro v7 w7 hA2; have hB2 := hA2.below ho1 hB1 hs1; have ho2 := hA2.own; have hs2 := hB2.size; have hT3 := hS1.below hB2; clear hA2)
      | (refine app_step _ rfl (.tmp 30) (.tmp 33) 22 rfl Try.underlying22 hi hz0 hz1 hz2 rfl (by decide) (by conv => lhs; simp [go_sem]) ho2 (A := none) (m := N - k) (c := 0) (news := prL (p.drop k)) (by simp [go_sem]) hT3 (prL_one _) (by unfold maxLen; omega) (by omega) (by omega) ?_; intro v8 w8 hA3; have hB3 := hA3.below ho2 hB2 hs2; have ho3 := hA3.own; clear hA3))
    all_goals
      clear hS1 hS2
      have hB3 := Below.refl w3.drew.heap.size w3.drew
      have HQM := Lib.hid (show q.length = 0 from HQL.out)
      have hQ8 : PrS w3.drew none q := ⟨by rw [HQM.out]; omega, .inl (List.eq_nil_of_length_eq_zero HQM.out)⟩
  case' inr =>
    have hS1 : Src w3.drew 2 (if c2 = k then some ⟨g, 0, none⟩ else some ⟨g, k * 2, none⟩) (N - k) (prL (p.drop k)) := by
      have h := (PrS.drop g 0 k hPd).src
      rw [hlD, Nat.zero_add] at h
      split
      · refine ⟨h.len, .inl ⟨?_, by omega⟩⟩
        rw [List.eq_nil_of_length_eq_zero (show (p.drop k).length = 0 by omega)]
        rfl
      · exact h
    have hS2 : Src w3.drew 2 (some ⟨g, 0, none⟩) k (prL (p.take k)) := by
      have h := (hPd.take k).src
      rw [hlT] at h
      exact h
    go_upto_region 5 with fail
    go_region_law (first
      | (refine app_step _ rfl (.const (.slice none 0 0)) (.tmp 25) 22 rfl Try.underlying22 hi hz0 hz1 hz2 rfl (by decide) (by conv => lhs; simp [go_sem]) hN (A := if c2 = k then some ⟨g, 0, none⟩ else some ⟨g, k * 2, none⟩) (m := N - k) (c := c2 - k) (news := prL (p.drop k)) (by simp [go_sem]) hS1 (prL_one _) (by unfold maxLen; omega) (by omega) (by omega) ?_; intro v6 w6 hA1; have hB1 := hA1.below hN (Below.refl _ _) (Nat.le_refl _); have ho1 := hA1.own; have hs1 := hB1.size; have hT2 := hS2.below hB1; clear hA1)
      | (refine app_step _ rfl (.tmp 26) (.tmp 29) 22 rfl Try.underlying22 hi hz0 hz1 hz2 rfl (by decide) (by conv => lhs; simp [go_sem]) ho1 (A := some ⟨g, 0, none⟩) (m := k) (c := c2) (news := prL (p.take k)) (by simp [go_sem]) hT2 (prL_one _) (by unfold maxLen; omega) (by omega) (by omega) ?_; intro v7 w7 hA2; have hB2 := hA2.below ho1 hB1 hs1; have ho2 := hA2.own; have hs2 := hB2.size; have hT3 := hS1.below hB2; clear hA2)
      | (refine app_step _ rfl (.tmp 30) (.tmp 33) 22 rfl Try.underlying22 hi hz0 hz1 hz2 rfl (by decide) (by conv => lhs; simp [go_sem]) ho2 (A := if c2 = k then some ⟨g, 0, none⟩ else some ⟨g, k * 2, none⟩) (m := N - k) (c := c2 - k) (news := prL (p.drop k)) (by simp [go_sem]) hT3 (prL_one _) (by unfold maxLen; omega) (by omega) (by omega) ?_; intro v8 w8 hA3; have hB3 := hA3.below ho2 hB2 hs2; have ho3 := hA3.own; clear hA3))
    all_goals
      clear hS1 hS2 hT2 hT3
      generalize (if c2 = k then some (⟨g, 0, none⟩ : Addr) else some ⟨g, k * 2, none⟩) = A1 at *
      rw [← HQP.out, ← HQL.out] at ho3
      obtain ⟨a8, c8, rfl, hQ8, _, _⟩ := prS_ownc ho3 (by rw [HQL.out]; omega)
      obtain ⟨M, hM⟩ : ∃ M, q.length = M := ⟨_, rfl⟩
      rw [hM]
      have HQM := Lib.hid hM
      clear hM hB2 hB1 ho1 ho2 ho3 hs1 hs2
  all_goals
    have hb8 := hb.drew.trans (hB3.mono hb.drew.size)
    have hP8 := hPd.below hB3
    clear hB3 hPd hP hN hb hs HQP hlD hlT HT HD HQL
    go_wp2_with fail
    refine (ringOf_n p _ HL.out _ _ _ hP8 HO.out).mono ?_
    rintro r w9 ⟨a9, c9, rfl, hI9, _, hk⟩
    replace hb8 := hb8.trans (hk.mono hb8.size)
    replace hP8 := hP8.below hk
    replace hQ8 := hQ8.below hk
    clear hk
    go_wp2_with fail
    refine (ringOf_e q _ HQM.out _ HE.out _ _ _ hQ8 HQ.out).mono ?_
    rintro r w10 ⟨a10, c10, rfl, hI10, _, hk⟩
    replace hb8 := hb8.trans (hk.mono hb8.size)
    replace hP8 := hP8.below hk
    replace hQ8 := hQ8.below hk
    replace hI9 := hI9.below hk
    clear hk
    go_wp2_with fail
    refine (rank_n p _ HL.out _ _ _ hP8 HO.out).mono ?_
    rintro r w11 ⟨hk, hpost⟩
    replace hb8 := hb8.trans (hk.mono hb8.size)
    replace hQ8 := hQ8.below hk
    replace hI9 := hI9.below hk
    replace hI10 := hI10.below hk
    clear hk hP8
    rcases hpost with ⟨hne, rfl⟩ | ⟨he, g11, rfl, hO⟩
    · have HN := Lib.hid hne
      clear hne
      go_wp2_with fail
      refine (rank_e q _ HQM.out _ HE.out _ _ _ hQ8 HQ.out).mono ?_
      rintro r w12 ⟨hk, hpost⟩
      replace hb8 := hb8.trans (hk.mono hb8.size)
      replace hI9 := hI9.below hk
      replace hI10 := hI10.below hk
      clear hk hQ8
      rcases hpost with ⟨_, rfl⟩ | ⟨he, _⟩
      · go_wp2_with fail
        refine (eqInt_n _ _ _ _ rfl rfl _ _ _ _ _ hI9 hI10).mono ?_
        rintro r w13 ⟨rfl, rfl⟩
        rw [eqB_self]
        go_wp2_with fail
        refine (eqInt_n [] [] _ _ rfl rfl none none 0 0 _ ⟨by simp, .inl rfl⟩ ⟨by simp, .inl rfl⟩).mono ?_
        rintro r w14 ⟨rfl, rfl⟩
        rw [eqB_self]
        go_wp2
        go_ret
        exact ⟨rfl, hb8⟩
      · exact absurd he HN.out
    · have HN := Lib.hid he
      clear he
      go_wp2_with fail
      refine (rank_e q _ HQM.out _ HE.out _ _ _ hQ8 HQ.out).mono ?_
      rintro r w12 ⟨hk, hpost⟩
      replace hb8 := hb8.trans (hk.mono hb8.size)
      replace hI9 := hI9.below hk
      replace hI10 := hI10.below hk
      replace hO := hO.below hk hO.lt
      clear hk hQ8
      rcases hpost with ⟨hne, _⟩ | ⟨_, g12, rfl, hO2⟩
      · exact absurd HN.out hne
      · have hJ1 := intS_full hO (rowI_list _) (by simp)
        have hJ2 := intS_full hO2 (rowI_list _) (by simp)
        go_wp2_with fail
        refine (eqInt_n (ringP (edgeP p)) (ringP (edgeP p)) 0 0 (by rw [HN.out]; rfl) (by rw [HN.out]; rfl) _ _ _ _ _ hI9 hI10).mono ?_
        rintro r w13 ⟨rfl, rfl⟩
        rw [eqB_self]
        go_wp2_with fail
        refine (eqInt_n _ _ 5 5 (by simp) (by simp) _ _ 5 5 _ hJ1 hJ2).mono ?_
        rintro r w14 ⟨rfl, rfl⟩
        rw [eqB_self]
        go_wp2
        go_ret
        exact ⟨rfl, hb8⟩
/-! The frame of the law RingTurned (where what it reads is small), by program. -/
set_option maxRecDepth 100000 in
theorem ringTurned_contract (H : Type) (enc : TypeId × Value → H) (W : World) (base : Nat) (args : Array Value) (ds gs : List (DataW H)) (before : List MemPlace)
    (hval0 : ∀ (j : Nat) t v, Try.f6.params[j]? = some t → args[j]? = some v → Value.okWide Try.prog W .any base t v)
    (hW : DataW.Whole enc Try.prog Try.f6.params.toList Rows.ringTurnedSpec.vars false W args.toList ds gs before) (hk : Rows.uptoSmall H (ds ++ gs) = true) :
    Calls Try.prog 6 args W fun e W' => ∃ v, e = .returned v ∧ Rows.ringTurnedSpec.post enc Try.prog Try.f6 false true false false W args v W' := by
  have hval : ∀ (j : Nat) t v, Try.f6.params[j]? = some t → args[j]? = some v → Value.okWide Try.prog W .any base t v := hval0
  have hW' := hW
  obtain ⟨p, q, hA0, hV, rfl, hfz, hnd⟩ := hW
  have hA : DataW.TrodAll enc Try.prog W 0 (fun _ => true) true Try.f6.params.toList args.toList ds p := hA0
  rw [Try.params6] at hA hval
  obtain ⟨v0, vs0, d0, ds0, p0, q0, hargs, rfl, rfl, h0, r0⟩ := trodAll_cons hA
  obtain ⟨v1, vs1, d1, ds1, p1, q1, rfl, rfl, rfl, h1, r1⟩ := trodAll_cons r0
  obtain ⟨rfl, rfl, rfl⟩ := trodAll_nil r1
  obtain rfl : args = #[v0, v1] := by cases args; simp_all
  obtain ⟨rfl, rfl⟩ := trodVars_none hV
  have k0 := h0
  have lt0 : ∀ x ∈ p0, x.block < W.heap.size := by obtain ⟨m, hm⟩ := k0; exact DataW.trod_lt m _ _ _ hm
  obtain ⟨a0, z0, c0, rfl, w0⟩ := open_prs (hval 0 22 v0 rfl rfl) h0 (fun els sp hd => Nat.le_trans (Nat.mul_le_mul_right _ (upto_slice hk (by simp) hd)) (of_decide_eq_true (by kernel_rfl)))
  have n0 : z0.length ≤ 1048576 := upto_len Try.underlying22 k0 hk (by simp)
  have k1 := h1
  have lt1 : ∀ x ∈ p1, x.block < W.heap.size := by obtain ⟨m, hm⟩ := k1; exact DataW.trod_lt m _ _ _ hm
  obtain ⟨a1, rfl, rfl, rfl, w1⟩ := open_int Try.underlying3 (hval 1 3 v1 rfl rfl) h1
  clear hA0 hval0 hk
  refine (ringTurned_walk a0 z0 c0 a1 W w0 n0 (wf_i64 w1)).mono fun e W' ⟨he, bel⟩ => ?_
  subst he
  exact ⟨_, rfl, _, _, _, [], _, [], hW', trodAll_mk1 (shut_bool Try.underlying4 _), (trodAll_cons_mk (Below.trod frame_laid (by kernel_rfl) (of_decide_eq_true (by kernel_rfl)) k0 bel lt0) (trodAll_cons_mk (Below.trod frame_laid (by kernel_rfl) (of_decide_eq_true (by kernel_rfl)) k1 bel lt1) trodAll_mk0)), rfl, bel.frame _, fun h => by cases h⟩
set_option maxRecDepth 100000 in
theorem ringTurned_lifted (os : Os) (started : os.Started) (H : Type) (enc : TypeId × Value → H) (F : Stop.Interp) :
    ReturnsInHanded {} Try.checked os 6 .any ((Rows.OpenSpec.upto Rows.ringTurnedSpec).pre6 enc Try.prog Try.f6 Rows.ringTurnedUptoRow.domain false) (((Rows.OpenSpec.upto Rows.ringTurnedSpec).at F).post enc Try.prog Try.f6 false true false false) := by
  refine returnsInHanded_of_cond (C := Try.checked) (s := Rows.OpenSpec.upto Rows.ringTurnedSpec) (k := Rows.uptoSmall) rfl frame_own started (by kernel_rfl) Try.func6
    (OpenSpec.witness (enc := enc) (C := Try.checked) (s := Rows.OpenSpec.upto Rows.ringTurnedSpec) (k := Rows.uptoSmall) rfl false ⟨#[], #[.slice none 0 0, .int .i64 0], []⟩ 8 (by kernel_rfl) (by kernel_rfl) (by kernel_rfl)
      (x := ([.nil, .lit (.int .i64 0)], [], [])) (by kernel_rfl) rfl (by kernel_rfl)) ?_
  intro W base args ds gs before hval hW _ hk _
  exact ringTurned_contract H enc W base args ds gs before hval hW hk

/-- The statement, where what it reads is small. -/
theorem ringTurned_holds : Rows.RingTurnedUptoSaid :=
  OpenClaim.holds_of_cond 6 Try.f6 rfl rfl rfl rfl rfl rfl rfl ⟨rfl, rfl, rfl, rfl, rfl⟩ rfl rfl rfl rfl rfl (by kernel_rfl) Try.func6 (by kernel_rfl)
    (of_decide_eq_true (by kernel_rfl)) (by unfold Func.isWrapper; first | (rw [if_pos (by decide +kernel)]; kernel_rfl) | (rw [if_neg (by decide +kernel)]; exact ⟨rfl, rfl⟩))
    (fun os started H enc _ F => ringTurned_lifted os started H enc F)

end Go.Proofs.Ytjpopjjjnaapnaa

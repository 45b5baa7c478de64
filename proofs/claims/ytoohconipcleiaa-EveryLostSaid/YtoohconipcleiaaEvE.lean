/- Slices of ends in memory; which lies in one. -/
import Derived.Test.YtoohconipcleiaaMV
import Derived.Test.YtoohconipcleiaaNG
import Derived.Test.YtoohconipcleiaaMF
namespace Go.Proofs.Ytoohconipcleiaa
open Go.RowKit

theorem enE_size (e : EnD) : (enE e).size = 20 := endC_size _ _ _
theorem enE_one (e : EnD) : (enE e).all (·.oneCell') = true := endC_one _ _ _
theorem map_range_inj {α : Type} {n : Nat} {f g : Nat → α} (h : (List.range n).map f = (List.range n).map g) : ∀ i, i < n → f i = g i := fun i hi => by
  have := congrArg (fun l => l[i]?) h
  simpa [hi] using this
theorem litE_iff {s s' : PS} {d k d' k' : Bool} : litE s d k = litE s' d' k' ↔ endC s d k = endC s' d' k' := by
  constructor
  · intro h
    unfold litE at h
    obtain ⟨h1, h⟩ := List.append_inj h (by simp)
    obtain ⟨h2, h⟩ := List.append_inj h (by simp)
    obtain ⟨h3, h⟩ := List.append_inj h (by simp)
    have e1 : ∀ i, i < 8 → s.mem i = s'.mem i := fun i hi => by have := map_range_inj h1 i hi; simpa using this
    have e2 : ∀ i, i < 4 → s.vols i = s'.vols i := fun i hi => by have := map_range_inj h2 i hi; simpa using this
    have e3 : ∀ i, i < 6 → s.has i = s'.has i := fun i hi => by have := map_range_inj h3 i hi; simpa using this
    simp at h
    obtain ⟨rfl, rfl⟩ := h
    unfold endC
    have : ∀ i, i ∈ List.range 20 → psF s d k i = psF s' d k i := fun i hi => by
      have hi : i < 20 := List.mem_range.1 hi
      unfold psF
      by_cases a1 : i < 8
      · rw [if_pos a1, if_pos a1, e1 i a1]
      by_cases a2 : i < 12
      · rw [if_neg a1, if_pos a2, if_neg a1, if_pos a2, e2 _ (by omega)]
      by_cases a3 : i < 18
      · rw [if_neg a1, if_neg a2, if_pos a3, if_neg a1, if_neg a2, if_pos a3, e3 _ (by omega)]
      rcases (show i = 18 ∨ i = 19 by omega) with rfl | rfl <;> simp
    rw [List.map_congr_left this]
  · intro h
    have hc : ∀ i, i < 20 → psF s d k i = psF s' d' k' i := fun i hi => by
      have h1 := endC_get s d k hi
      rw [h, endC_get s' d' k' hi] at h1
      exact (Option.some.inj h1).symm
    have hd : d = d' := by have := hc 18 (by omega); simpa [psF] using this
    have hk : k = k' := by have := hc 19 (by omega); simpa [psF] using this
    subst hd; subst hk
    unfold litE
    have e1 : (List.range 8).map (fun i => Lit.int .i64 (s.mem i)) = (List.range 8).map (fun i => Lit.int .i64 (s'.mem i)) := List.map_congr_left fun i hi => by
      have hi := List.mem_range.1 hi
      have := hc i (by omega)
      simp only [psF, if_pos hi, Value.int.injEq, true_and] at this
      rw [this]
    have e2 : (List.range 4).map (fun i => Lit.int .i64 (s.vols i)) = (List.range 4).map (fun i => Lit.int .i64 (s'.vols i)) := List.map_congr_left fun i hi => by
      have hi := List.mem_range.1 hi
      have := hc (8 + i) (by omega)
      unfold psF at this
      rw [if_neg (by omega), if_pos (by omega), if_neg (by omega), if_pos (by omega), Nat.add_sub_cancel_left] at this
      simp only [Value.int.injEq, true_and] at this
      rw [this]
    have e3 : (List.range 6).map (fun i => Lit.int .i64 (s.has i)) = (List.range 6).map (fun i => Lit.int .i64 (s'.has i)) := List.map_congr_left fun i hi => by
      have hi := List.mem_range.1 hi
      have := hc (12 + i) (by omega)
      unfold psF at this
      rw [if_neg (by omega), if_neg (by omega), if_pos (by omega), if_neg (by omega), if_neg (by omega), if_pos (by omega), Nat.add_sub_cancel_left] at this
      simp only [Value.int.injEq, true_and] at this
      rw [this]
    rw [e1, e2, e3]
open Classical in
noncomputable def eqE (x y : EnD) : Bool := decide (enE x = enE y)
theorem eqE_iff {x y : EnD} : eqE x y = true ↔ enE x = enE y := by simp [eqE]
theorem eql_enE {x y : EnD} (hx : NumOk x.1) (hy : NumOk y.1) (w : World) : (binOp .eql endT (.agg (enE x)) (.agg (enE y))).run Try.prog w = .ok (.bool (eqE x y)) w := by
  obtain ⟨r, hr, hiff⟩ := eql_end hx hy x.2.1 x.2.2 y.2.1 y.2.2 w
  rw [litE_iff] at hiff
  have : r = eqE x y := by rw [Bool.eq_iff_iff, hiff, eqE_iff]; rfl
  rw [← this]; exact hr
def enL (out : List EnD) : List Value := out.flatMap fun e => (enE e).toList
theorem enL_append (a b : List EnD) : enL (a ++ b) = enL a ++ enL b := by simp [enL]
theorem enL_len : ∀ (out : List EnD), (enL out).length = out.length * 20
  | [] => rfl
  | e :: out => by
    have : enL (e :: out) = (enE e).toList ++ enL out := rfl
    rw [this, List.length_append, enL_len out, Array.length_toList, enE_size, List.length_cons]
    omega
theorem enL_one (out : List EnD) : ∀ u ∈ enL out, u.oneCell' = true := by
  intro u hu
  obtain ⟨e, _, hu⟩ := List.mem_flatMap.1 hu
  exact (Array.all_eq_true_iff_forall_mem.1 (enE_one e)) u (by simpa using hu)
theorem enL_get : ∀ (out : List EnD) (i : Nat) (h : i < out.length) (j : Nat), j < 20 → (enL out)[i * 20 + j]? = (enE out[i]).toList[j]?
  | [], i, h, _, _ => absurd h (Nat.not_lt_zero _)
  | e :: out, 0, _, j, hj => by
    have : enL (e :: out) = (enE e).toList ++ enL out := rfl
    rw [this, Nat.zero_mul, Nat.zero_add, List.getElem?_append_left (by rw [Array.length_toList, enE_size]; exact hj)]
    rfl
  | e :: out, i + 1, h, j, hj => by
    have : enL (e :: out) = (enE e).toList ++ enL out := rfl
    rw [this, List.getElem?_append_right (by rw [Array.length_toList, enE_size]; omega), Array.length_toList, enE_size, show (i + 1) * 20 + j - 20 = i * 20 + j by omega]
    exact enL_get out i (by simpa using h) j hj
structure EnS (w : World) (a : Option Addr) (out : List EnD) : Prop where
  big : out.length < 4611686018427387904
  ok : out = [] ∨ ∃ b o, a = some ⟨b, o, none⟩ ∧ ∀ i (h : i < out.length), w.rangeAt b (o + i * 20) (enE out[i]).toList
theorem EnS.below {w w' : World} {a : Option Addr} {out : List EnD} (h : EnS w a out) (k : Below w.heap.size w w') : EnS w' a out := by
  refine ⟨h.big, ?_⟩
  rcases h.ok with h0 | ⟨b, o, ha, hc⟩
  · exact .inl h0
  · refine .inr ⟨b, o, ha, fun i hi j v hv => ?_⟩
    have h1 := hc i hi j v hv
    exact (k.cell (World.block_lt_of_cell? w _ h1)).trans h1
theorem EnS.at {w : World} {a : Option Addr} {out : List EnD} (h : EnS w a out) {i : Nat} (hi : i < out.length) : ∃ b o, a = some ⟨b, o, none⟩ ∧ w.rangeAt b (o + i * 20) (enE out[i]).toList := by
  rcases h.ok with h0 | ⟨b, o, ha, hc⟩
  · subst h0; cases hi
  · exact ⟨b, o, ha, hc i hi⟩
theorem enS_own {w : World} {base : Nat} {e : TypeId} {v : Value} {out : List EnD} (h : w.ownsRow base e 20 v out.length (enL out)) (hb : out.length < 4611686018427387904) :
    ∃ a c, v = .slice a out.length c ∧ EnS w a out ∧ (∀ ad : Addr, a = some ad → base ≤ ad.block ∧ ad.block < w.heap.size ∧ ad.off = 0 ∧ ad.spot = none) ∧ (∀ k, v.ownBlock = some k → base ≤ k) := by
  have hlt := h.lt
  rcases h.2 with ⟨rfl, hn⟩ | ⟨g, cap, cur, rfl, hg, hh, _⟩
  · exact ⟨none, 0, by rw [hn], ⟨hb, .inl (List.eq_nil_of_length_eq_zero hn)⟩, fun ad e => (by cases e), fun k hk => (hlt k hk).1⟩
  · refine ⟨_, _, rfl, ⟨hb, .inr ⟨g, 0, rfl, fun i hi j v hv => ?_⟩⟩, fun ad e => by cases e; exact ⟨(hlt g rfl).1, (hlt g rfl).2, rfl, rfl⟩, fun k hk => (hlt k hk).1⟩
    have hj : j < 20 := by
      have := (List.getElem?_eq_some_iff.1 hv).1
      rwa [Array.length_toList, enE_size] at this
    have e1 := h.cells (g := g) rfl (i * 20 + j) v (by rw [enL_get out i hi j hj]; exact hv)
    have hadd : (⟨g, 0, none⟩ : Addr).add (i * 20 + j) = ⟨g, 0 + i * 20 + j, none⟩ := by unfold Addr.add; split <;> simp_all
    rw [hadd] at e1
    exact e1
/-- What Index says of an end. -/
def IdxE (out : List EnD) (e : EnD) (w : World) (r : Ending) (w' : World) : Prop := ∃ i : Int, r = .returned (.int .i64 i) ∧ decide (i ≥ 0) = inE out e ∧ Below w.heap.size w w'
set_option maxRecDepth 100000 in
set_option maxHeartbeats 4000000 in
theorem indexE_any (out : List EnD) (e : EnD) (a : Option Addr) (c : Nat) (w : World) (h : EnS w a out) (hn : ∀ x ∈ out, NumOk x.1) (he : NumOk e.1) :
    Calls Try.prog 89 #[.slice a out.length c, .agg (enE e)] w (IdxE out e w) := by
  have hbig := h.big
  have hsz := enE_size e
  have HE := Lib.hid (fun k (hk : k < out.length) (w1 : World) => eql_enE he (hn _ (List.getElem_mem hk)) w1)
  have HQ := Lib.hid (fun x => (eqE_iff (x := e) (y := x)))
  obtain ⟨Y, hY⟩ : ∃ Y, enE e = Y := ⟨_, rfl⟩
  have HY := Lib.hid hY
  rw [hY] at hsz HE ⊢
  have hI := Below.refl w.heap.size w
  clear hY hn he
  go_enter Try.func89, Try.ntmps89
  go_upto_region 1 with fail
  generalize hW : World.alloc _ _ = W
  have hS : Has W w.heap.size Y endT := by rw [← hW]; exact Has.new w _ _
  have hk : Below w.heap.size w W := by rw [← hW]; exact hI.alloc (Nat.le_refl _) _
  clear hW hI
  go_wp2
  go_loopw [8] (fun i wr => ∃ k : Nat, k ≤ out.length ∧ i = .int .i64 k ∧ Hid (∀ j (h : j < out.length), j < k → enE out[j] ≠ Y) ∧ Has wr w.heap.size Y endT ∧ Below w.heap.size w wr) (fun i _ => out.length - (intOf i).toNat)
  case atStart => exact ⟨0, Nat.zero_le _, rfl, Lib.hid (fun j _ h => absurd h (Nat.not_lt_zero _)), hS, hk⟩
  case round =>
    clear hS hk
    obtain ⟨k, hk, rfl, HN, hS, hb⟩ := hrel
    by_cases hlt : k < out.length
    · obtain ⟨b, o, rfl, hr⟩ := h.at hlt
      have heq := HE.out k hlt
      have hq := HQ.out out[k]
      have hZ := enE_size out[k]
      obtain ⟨q, hqe⟩ : ∃ q, eqE e out[k] = q := ⟨_, rfl⟩
      rw [hqe] at heq hq
      rw [HY.out] at hq
      have hne : Hid (q = false → enE out[k] ≠ Y) := Lib.hid fun h0 e1 => by rw [h0] at hq; exact absurd (hq.2 e1.symm) (by decide)
      have hyes : Hid (q = true → inE out e = true) := Lib.hid fun h0 => inE_iff.2 ⟨out[k], List.getElem_mem hlt, by rw [HY.out]; exact (hq.1 h0).symm⟩
      have hne2 : Hid (∀ j (h : j < out.length), j < k + 1 → enE out[j] ≠ Y ∨ j = k) := Lib.hid fun j h1 h2 => by
        by_cases e1 : j = k
        · exact .inr e1
        · exact .inl (HN.out j h1 (by omega))
      clear hqe hq
      obtain ⟨Z, hZe⟩ : ∃ Z, enE out[k] = Z := ⟨_, rfl⟩
      have HZ := Lib.hid hZe
      rw [hZe] at heq hr hne hZ
      clear hZe
      have k0 : (0 : Int) ≤ k := by omega
      have k1 : (k : Int) < out.length := by omega
      go_upto_region 4 with fail
      have F1 : ∀ w1, Below wr.heap.size wr w1 → w1.rangeAt b (o + k * 20) Z.toList := fun w1 h1 j v hv => by
        have h2 := hr j v hv
        have h3 := (hb.cell (World.block_lt_of_cell? w _ h2)).trans h2
        exact (h1.cell (World.block_lt_of_cell? wr _ h3)).trans h3
      refine wp_region_fac 6 (fun _ => false) [.one ?x0, .one ?x1, .one ?x2, .one ?x3, .one ?x4, .one ?x5] (by kernel_rfl) (by kernel_rfl) (by kernel_rfl) (by intro F hF; simp at hF) ?gox
      case gox =>
      simp only [List.take_succ_cons, List.take_zero, List.drop_succ_cons, List.drop_zero]
      with_reducible refine wpFac_one rfl (fun w1 hw1 hd => ?_) (fun a1 ha1 => ?_)
      · refine asked rfl ?_
        refine wp_load_row 29 _ rfl (w.heap.size) rfl 29 Y (0, 0) _ (hS.below hw1 hS.lt).out Try.underlying29 rfl (by rw [hsz]; rfl) ?_
        refine ⟨rfl, atD_some ?_, Below.refl _ _⟩
        simp [Act.put]
        exact rfl
      simp [Act.put] at ha1; subst ha1
      repeat (with_reducible refine wpFac_one rfl (fun w1 hw1 hd => ?_) (fun a1 ha1 => ?_); (· go_simp; first | exact rfl | (refine ⟨atD_some ?_, Below.refl _ _⟩; simp only [List.getElem?_toArray, List.getElem?_cons_succ, List.getElem?_cons_zero]; exact rfl)); simp [Act.put] at ha1; subst ha1)
      with_reducible refine wpFac_one rfl (fun w1 hw1 hd => ?_) (fun a1 ha1 => ?_)
      · refine asked rfl ?_
        refine wp_load_mid 29 _ rfl b (o + k * 20) rfl Z.toList _ (F1 w1 hw1) Try.underlying29 rfl (by rw [Array.length_toList, hZ]; rfl) ?_
        refine ⟨rfl, atD_some ?_, Below.refl _ _⟩
        simp [Act.put]
        exact rfl
      simp [Act.put] at ha1; subst ha1
      have F2 : ∀ w1, Below wr.heap.size wr w1 → (binOp .eql endT (.agg Y) (.agg Z)).run Try.prog w1 = .ok (.bool q) w1 := fun w1 _ => heq w1
      repeat (with_reducible refine wpFac_one rfl (fun w1 hw1 hd => ?_) (fun a1 ha1 => ?_); (· have eF2 := F2 w1 hw1; go_simp; first | exact rfl | (refine ⟨atD_some ?_, Below.refl _ _⟩; simp only [List.getElem?_toArray, List.getElem?_cons_succ, List.getElem?_cons_zero]; exact rfl)); simp [Act.put] at ha1; subst ha1)
      refine wpFac_nil ?_
      intro w1 hw1 _
      refine wpList_nil ?_
      have hS1 := hS.below hw1 hS.lt
      have hb1 := hb.trans (hw1.mono hb.size)
      clear F1 F2 heq hr hw1 hS hb
      cases q
      · go_wp2
        go_roundw
        case rel => exact ⟨k + 1, by omega, by go_num, Lib.hid (fun j h1 h2 => (hne2.out j h1 h2).elim id fun e1 => by subst e1; rw [HZ.out]; exact hne.out rfl), hS1, hb1⟩
        case measure => (simp [intOf]; try omega)
      · have hin : Hid (inE out e = true) := Lib.hid (hyes.out rfl)
        clear hyes hne hne2 HN
        go_wp2
        go_ret
        exact ⟨k, rfl, by rw [hin.out]; exact decide_eq_true k0, hb1⟩
    · obtain rfl : k = out.length := by omega
      have HR : Hid (inE out e = false) := Lib.hid (by
        rw [Bool.eq_false_iff]
        intro h0
        obtain ⟨x, hx, e1⟩ := inE_iff.1 h0
        obtain ⟨j, hj, rfl⟩ := List.mem_iff_getElem.1 hx
        rw [HY.out] at e1
        exact HN.out j hj hj e1)
      go_wp2
      go_ret
      exact ⟨-1, rfl, by rw [HR.out]; rfl, hb⟩
set_option maxRecDepth 100000 in
set_option maxHeartbeats 4000000 in
theorem containsE_any (out : List EnD) (e : EnD) (a : Option Addr) (c : Nat) (w : World) (h : EnS w a out) (hn : ∀ x ∈ out, NumOk x.1) (he : NumOk e.1) :
    Calls Try.prog 57 #[.slice a out.length c, .agg (enE e)] w fun r w' => r = .returned (.bool (inE out e)) ∧ Below w.heap.size w w' := by
  have hidx := fun (w1 : World) (h1 : Below w.heap.size w w1) => indexE_any out e a c w1 (h.below h1) hn he
  have hsz := enE_size e
  obtain ⟨Y, hY⟩ : ∃ Y, enE e = Y := ⟨_, rfl⟩
  rw [hY] at hsz hidx ⊢
  clear h hn he
  go_enter Try.func57, Try.ntmps57
  go_upto_region 1 with fail
  generalize hW : World.alloc _ _ = W
  have hS : Has W w.heap.size Y endT := by rw [← hW]; exact Has.new w _ _
  have hk : Below w.heap.size w W := by rw [← hW]; exact (Below.refl _ _).alloc (Nat.le_refl _) _
  clear hW
  go_wp2_with (refine wpList_load_row rfl endT _ rfl w.heap.size rfl endT Y (0, 0) _ hS.out Try.underlying29 rfl (by rw [hsz]; rfl) ?_)
  refine (hidx W hk).mono ?_
  rintro r w1 ⟨i, rfl, hi, hb1⟩
  go_wp2
  go_ret
  exact ⟨by rw [← hi]; rfl, hk.trans (hb1.mono hk.size)⟩
end Go.Proofs.Ytoohconipcleiaa

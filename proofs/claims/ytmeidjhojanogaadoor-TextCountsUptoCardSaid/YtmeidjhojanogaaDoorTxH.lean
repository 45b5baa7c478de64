/- Split of a joined text. -/
import Derived.Test.YtmeidjhojanogaaDoorTxG
import Derived.Lib.SplitLaws
namespace Go.Proofs.YtmeidjhojanogaaDoor
open Go.RowKit

theorem idx_none (c : UInt8) : ∀ x : List UInt8, c ∉ x → Lib.indexByte x c = -1
  | [], _ => rfl
  | b :: l, h => by
    have hb : (b == c) = false := beq_eq_false_iff_ne.2 (fun e => h (by rw [e]; simp))
    have ih := idx_none c l (fun e => h (by simp [e]))
    unfold Lib.indexByte
    rw [hb, ih]
    rfl
theorem idx_at (c : UInt8) (r : List UInt8) : ∀ x : List UInt8, c ∉ x → Lib.indexByte (x ++ ([c] ++ r)) c = x.length
  | [], _ => by
    show Lib.indexByte (c :: r) c = 0
    unfold Lib.indexByte
    simp
  | b :: l, h => by
    have hb : (b == c) = false := beq_eq_false_iff_ne.2 (fun e => h (by rw [e]; simp))
    have ih := idx_at c r l (fun e => h (by simp [e]))
    show Lib.indexByte (b :: (l ++ ([c] ++ r))) c = _
    unfold Lib.indexByte
    rw [hb, ih]
    have h2 : ((l.length : Int) == -1) = false := beq_eq_false_iff_ne.2 (by omega)
    rw [h2]
    simp
def ofL (x : List UInt8) : ByteArray := ⟨x.toArray⟩
theorem ofL_ext {s : ByteArray} {x : List UInt8} (h : s.data.toList = x) : s = ofL x := ByteArray.ext (Array.toList_inj.1 (by rw [h]; rfl))
theorem split_join (c : UInt8) : ∀ xs : List (List UInt8), xs ≠ [] → (∀ x ∈ xs, c ∉ x) → Lib.countB (ofL (Lib.join xs [c])) ⟨#[c]⟩ + 1 = xs.length ∧ ∀ k, k + 1 = xs.length → Lib.splitB ⟨#[c]⟩ 0 k (ofL (Lib.join xs [c])) = xs.map ofL
  | [], h, _ => absurd rfl h
  | [x], _, h => by
    rw [Lib.join_one]
    have hi : Lib.indexB (ofL x) ⟨#[c]⟩ = -1 := by
      show Lib.index x [c] = -1
      rw [Lib.index_one]
      exact idx_none c x (h x (by simp))
    refine ⟨by rw [Lib.countB_miss _ _ hi]; rfl, fun k _ => ?_⟩
    rw [Lib.splitB_miss _ _ _ _ hi]
    rfl
  | x :: y :: r, _, h => by
    obtain ⟨ih1, ih2⟩ := split_join c (y :: r) (by simp) (fun z hz => h z (by simp [hz]))
    rw [join_two]
    have hi : Lib.indexB (ofL (x ++ ([c] ++ Lib.join (y :: r) [c]))) ⟨#[c]⟩ = x.length := by
      show Lib.index (x ++ ([c] ++ Lib.join (y :: r) [c])) [c] = _
      rw [Lib.index_one]
      exact idx_at c _ x (h x (by simp))
    have hx : (ofL (x ++ ([c] ++ Lib.join (y :: r) [c]))).extract (x.length + (⟨#[c]⟩ : ByteArray).size) (ofL (x ++ ([c] ++ Lib.join (y :: r) [c]))).size = ofL (Lib.join (y :: r) [c]) := by
      apply ofL_ext
      rw [Lib.extract_to_end]
      show (x ++ ([c] ++ Lib.join (y :: r) [c])).drop (x.length + 1) = _
      rw [← List.append_assoc, List.drop_append_of_le_length (by simp)]
      simp
    refine ⟨?_, fun k hk => ?_⟩
    · rw [Lib.countB_hit _ _ x.length (Nat.le_refl _) hi, hx]
      simp only [List.length_cons] at *
      omega
    · obtain ⟨k, rfl⟩ : ∃ j, k = j + 1 := ⟨k - 1, by simp at hk; omega⟩
      rw [Lib.splitB_hit _ _ _ _ x.length hi, hx, ih2 k (by simp at hk ⊢; omega)]
      show _ = ofL x :: _
      congr 1
      apply ofL_ext
      rw [Lib.extract_from_zero]
      show (x ++ ([c] ++ Lib.join (y :: r) [c])).take (x.length + 0) = x
      simp
def noNl : Bool := (List.range 8).all fun k => (List.range 6).all fun t => (List.range 8).all fun o => (lineX (k + 1) t o).data.toList.all (· != 10)
set_option maxRecDepth 100000 in
theorem noNl_ok : noNl = true := by kernel_rfl
theorem line_nl {e : Ev} (he : isEv e = true) : (10 : UInt8) ∉ lineL e := by
  obtain ⟨⟨k1, k8⟩, ⟨t0, t6⟩, o0, o8⟩ := isEv_bounds he
  obtain ⟨k, t, o⟩ := e
  obtain ⟨k, rfl⟩ := Int.eq_ofNat_of_zero_le (show 0 ≤ k by simp at k1; omega)
  obtain ⟨t, rfl⟩ := Int.eq_ofNat_of_zero_le t0
  obtain ⟨o, rfl⟩ := Int.eq_ofNat_of_zero_le o0
  simp only at k1 k8 t6 o8
  rw [lineL_X (K := k) (T := t) (O := o) rfl rfl rfl (by omega) (by omega)]
  have h := noNl_ok
  unfold noNl at h
  have h2 := List.all_eq_true.1 (List.all_eq_true.1 (List.all_eq_true.1 h (k - 1) (List.mem_range.2 (by omega))) t (List.mem_range.2 (by omega))) o (List.mem_range.2 (by omega))
  rw [show k - 1 + 1 = k by omega] at h2
  intro hm
  have := List.all_eq_true.1 h2 _ hm
  simp at this
theorem split_text {l : List Ev} (hl : l ≠ []) (hev : ∀ e ∈ l, isEv e = true) : Lib.countB (textB l) ⟨#[10]⟩ + 1 = l.length ∧ Lib.splitB ⟨#[10]⟩ 0 (Lib.countB (textB l) ⟨#[10]⟩) (textB l) = l.map lineB := by
  have h := split_join 10 (l.map lineL) (by simpa using hl) (fun x hx => by
    obtain ⟨e, he, rfl⟩ := List.mem_map.1 hx
    exact line_nl (hev e he))
  rw [List.length_map, List.map_map] at h
  exact ⟨h.1, h.2 _ h.1⟩
end Go.Proofs.YtmeidjhojanogaaDoor

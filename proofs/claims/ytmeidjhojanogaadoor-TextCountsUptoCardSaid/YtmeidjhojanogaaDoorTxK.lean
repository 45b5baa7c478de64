/- text.Event at any string: plain part. -/
import Derived.Test.YtmeidjhojanogaaDoorTxH
namespace Go.Proofs.YtmeidjhojanogaaDoor
open Go.RowKit

/-- What Event answers at s. -/
def EvRes (s : ByteArray) (e : Ev) (f : Int) : Prop := (isEv e = true ∧ lineB e = s ∧ f = 0) ∨ ((∀ x, isEv x = true → lineB x ≠ s) ∧ e = ⟨0, 0, 0⟩ ∧ f = 3)
/-- The parts of a string that is the line of an event. -/
theorem ev_parts {x : Ev} {s : ByteArray} (hx : isEv x = true) (h : lineB x = s) : ∃ K T O : Nat, x = ⟨K, T, O⟩ ∧ (1 ≤ K ∧ K ≤ 8) ∧ T < 6 ∧ O < 8 ∧ Lib.countB s ⟨#[32]⟩ = 2 ∧ Lib.splitB ⟨#[32]⟩ 0 2 s = [p0X T, wordA K, p2X K O] := by
  obtain ⟨⟨k1, k8⟩, ⟨t0, t6⟩, o0, o8⟩ := isEv_bounds hx
  obtain ⟨k, t, o⟩ := x
  obtain ⟨k, rfl⟩ := Int.eq_ofNat_of_zero_le (show 0 ≤ k by simp at k1; omega)
  obtain ⟨t, rfl⟩ := Int.eq_ofNat_of_zero_le t0
  obtain ⟨o, rfl⟩ := Int.eq_ofNat_of_zero_le o0
  simp only at k1 k8 t6 o8
  rw [line_X (K := k) (T := t) (O := o) rfl rfl rfl (by omega) (by omega)] at h
  subst h
  obtain ⟨h1, h2⟩ := parts_line (K := k) (T := t) (O := o) (by omega) (by omega) (by omega) (by omega)
  exact ⟨k, t, o, rfl, ⟨by omega, by omega⟩, by omega, by omega, h1, h2⟩
theorem res_count {s : ByteArray} (h : Lib.countB s ⟨#[32]⟩ ≠ 2) : ∀ x, isEv x = true → lineB x ≠ s := fun x hx hl => by
  obtain ⟨_, _, _, _, _, _, _, h1, _⟩ := ev_parts hx hl
  exact h h1
theorem res_sizes {s p0 p1 p2 : ByteArray} (h : Lib.splitB ⟨#[32]⟩ 0 2 s = [p0, p1, p2]) (hz : p0.size ≠ 2 ∨ p2.size ≠ 2) : ∀ x, isEv x = true → lineB x ≠ s := fun x hx hl => by
  obtain ⟨K, T, O, _, ⟨k1, k8⟩, _, _, _, h2⟩ := ev_parts hx hl
  rw [h] at h2
  simp only [List.cons.injEq, and_true] at h2
  obtain ⟨rfl, rfl, rfl⟩ := h2
  obtain ⟨c, hc⟩ := letA_byte (mem_eight.2 ⟨k1, k8⟩)
  rcases hz with hz | hz
  · exact hz rfl
  · apply hz
    unfold p2X
    rw [hc]
    rfl
/-- The event that Event tries at kind k. -/
def tryE (k : Nat) (a b : UInt8) : Ev := ⟨k, (a.toNat : Int) - 48, (b.toNat : Int) - 48⟩
theorem res_none {s p1 : ByteArray} {a0 a b0 b : UInt8} (h : Lib.splitB ⟨#[32]⟩ 0 2 s = [⟨#[a0, a]⟩, p1, ⟨#[b0, b]⟩]) (hk : ∀ k ∈ eight, ¬ (wordA k = p1 ∧ isEv (tryE k a b) = true ∧ lineB (tryE k a b) = s)) : ∀ x, isEv x = true → lineB x ≠ s := fun x hx hl => by
  obtain ⟨K, T, O, rfl, ⟨k1, k8⟩, hT, hO, _, h2⟩ := ev_parts hx hl
  have hK := mem_eight.2 ⟨k1, k8⟩
  obtain ⟨c, hc⟩ := letA_byte hK
  rw [h] at h2
  simp only [List.cons.injEq, and_true] at h2
  obtain ⟨e0, e1, e2⟩ := h2
  have q0 := (bytes_two (show (⟨#[a0, a]⟩ : ByteArray) = ⟨#[116, UInt8.ofNat (48 + T)]⟩ from e0)).2
  have q2 : b = UInt8.ofNat (48 + O) := by
    unfold p2X at e2
    rw [hc] at e2
    exact (bytes_two (show (⟨#[b0, b]⟩ : ByteArray) = ⟨#[c, UInt8.ofNat (48 + O)]⟩ from e2)).2
  have t1 : (a.toNat : Int) - 48 = T := by
    rw [q0]
    have : (UInt8.ofNat (48 + T)).toNat = 48 + T := by show (48 + T) % 2 ^ 8 = 48 + T; omega
    omega
  have t2 : (b.toNat : Int) - 48 = O := by
    rw [q2]
    have : (UInt8.ofNat (48 + O)).toNat = 48 + O := by show (48 + O) % 2 ^ 8 = 48 + O; omega
    omega
  have ht : tryE K a b = ⟨K, T, O⟩ := by unfold tryE; rw [t1, t2]
  exact hk K hK ⟨e1.symm, by rw [ht]; exact hx, by rw [ht]; exact hl⟩
theorem two_bytes {p : ByteArray} (h : p.size = 2) : ∃ a b, p = ⟨#[a, b]⟩ := by
  obtain ⟨⟨l⟩⟩ := p
  match l, h with
  | [a, b], _ => exact ⟨a, b, rfl⟩
theorem three_parts {s : ByteArray} (h : Lib.countB s ⟨#[32]⟩ = 2) : ∃ p0 p1 p2, Lib.splitB ⟨#[32]⟩ 0 2 s = [p0, p1, p2] := by
  have hn : (Lib.splitB ⟨#[32]⟩ 0 (Lib.countB s ⟨#[32]⟩) s).length = Lib.countB s ⟨#[32]⟩ + 1 := Lib.splitB_all ⟨#[32]⟩ (by decide) 0 _ s rfl
  rw [h] at hn
  match hm : Lib.splitB ⟨#[32]⟩ 0 2 s, hn with
  | [a, b, c], _ => exact ⟨a, b, c, rfl⟩
end Go.Proofs.YtmeidjhojanogaaDoor

/- Plain laws of packed traces; the closed fact 'packed'. -/
import Derived.Test.YtmeidjhojanogaaDoorPkB
import Derived.Test.YtmeidjhojanogaaDoorEqE
namespace Go.Proofs.YtmeidjhojanogaaDoor
open Go.RowKit

theorem evB_inj {l m : List Ev} (hl : ∀ e ∈ l, isEv e = true) (hm : ∀ e ∈ m, isEv e = true) (h : l.flatMap evB = m.flatMap evB) : l = m := by
  induction l generalizing m with
  | nil =>
    cases m with
    | nil => rfl
    | cons e m => simp [evB] at h
  | cons x l ih =>
    cases m with
    | nil => simp [evB] at h
    | cons y m =>
      simp only [List.flatMap_cons, evB, List.cons_append, List.nil_append, List.cons.injEq] at h
      obtain ⟨h1, h2, h3⟩ := h
      have e1 := isEv_iff.1 (hl x (by simp))
      have e2 := isEv_iff.1 (hm y (by simp))
      have q1 := manyOf_pos (k := x.k) (by omega)
      have q2 := manyOf_pos (k := y.k) (by omega)
      have hx : x = y := by
        obtain ⟨k, t, o⟩ := x
        obtain ⟨k', t', o'⟩ := y
        simp only at *
        have : t = t' ∧ k = k' := by omega
        simp [this, h2]
      rw [hx, ih (fun e he => hl e (by simp [he])) (fun e he => hm e (by simp [he])) h3]
theorem packL_inj {l m : List Ev} (hl : ∀ e ∈ l, isEv e = true) (hm : ∀ e ∈ m, isEv e = true) (h : packL l = packL m) : l = m := by
  have h1 : bodyL l = bodyL m := by
    have hlen := congrArg List.length h
    simp only [packL, List.length_append, bodyL_len, List.length_cons, List.length_nil] at hlen
    exact (List.append_inj h (by rw [bodyL_len, bodyL_len]; omega)).1
  simp only [bodyL, List.cons_append, List.nil_append, List.cons.injEq] at h1
  exact evB_inj hl hm h1.2.2
theorem pack_rng {l : List Ev} (h : ∀ e ∈ l, isEv e = true) (hl : l.length ≤ 80) : ∀ n ∈ packL l, 0 ≤ n ∧ n ≤ 255 := by
  have hrng := body_rng h hl
  intro n hn
  simp only [packL, List.mem_append, List.mem_cons, List.not_mem_nil, or_false] at hn
  have := sumL_bd (bodyL l) hrng
  rcases hn with hn | rfl | rfl
  · exact hrng n hn
  · omega
  · omega
theorem str_inj {a b : List Int} (ha : ∀ n ∈ a, 0 ≤ n ∧ n ≤ 255) (hb : ∀ n ∈ b, 0 ≤ n ∧ n ≤ 255) (h : strOfNums a = strOfNums b) : a = b := by
  have h1 : a.map (fun n => UInt8.ofNat n.toNat) = b.map (fun n => UInt8.ofNat n.toNat) := by
    have := congrArg (fun s : ByteArray => s.data.toList) h
    simpa [strOfNums] using this
  clear h
  induction a generalizing b with
  | nil => cases b <;> simp_all
  | cons x a ih =>
    cases b with
    | nil => simp at h1
    | cons y b =>
      simp only [List.map_cons, List.cons.injEq] at h1
      have hx := ha x (by simp)
      have hy := hb y (by simp)
      have e := congrArg UInt8.toNat h1.1
      simp only [UInt8.toNat_ofNat'] at e
      have : x = y := by omega
      rw [this, ih (fun n hn => ha n (by simp [hn])) (fun n hn => hb n (by simp [hn])) h1.2]

end Go.Proofs.YtmeidjhojanogaaDoor

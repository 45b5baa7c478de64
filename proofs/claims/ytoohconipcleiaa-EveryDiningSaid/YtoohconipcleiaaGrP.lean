/- Pairs of locks out of a trace, plain. -/
import Derived.Test.YtoohconipcleiaaMB
import Derived.Test.YtoohconipcleiaaML
import Derived.Test.YtoohconipcleiaaMU
namespace Go.Proofs.Ytoohconipcleiaa

/-- The locks below k that thread t has, each with o. -/
def grPart (own : Nat → Int) (t o : Int) (k : Nat) : List (Int × Int) := ((List.range k).filter fun j => own j == t + 1).map fun j : Nat => ((j : Int), o)
theorem grPart_yes {own : Nat → Int} {t o : Int} {k : Nat} (h : (own k == t + 1) = true) : grPart own t o (k + 1) = grPart own t o k ++ [((k : Int), o)] := by
  simp [grPart, List.range_succ, List.filter_append, h]
theorem grPart_no {own : Nat → Int} {t o : Int} {k : Nat} (h : (own k == t + 1) = false) : grPart own t o (k + 1) = grPart own t o k := by
  simp [grPart, List.range_succ, List.filter_append, h]
theorem grPart_len (own : Nat → Int) (t o : Int) (k : Nat) : (grPart own t o k).length ≤ k := by
  simpa [grPart] using List.length_filter_le (fun j => own j == t + 1) (List.range k)
theorem mem_grPart {own : Nat → Int} {t o : Int} {k : Nat} {x : Int × Int} : x ∈ grPart own t o k ↔ ∃ j : Nat, j < k ∧ own j = t + 1 ∧ x = ((j : Int), o) := by
  simp only [grPart, List.mem_map, List.mem_filter, List.mem_range, beq_iff_eq]
  constructor
  · rintro ⟨j, ⟨h1, h2⟩, rfl⟩; exact ⟨j, h1, h2, rfl⟩
  · rintro ⟨j, h1, h2, rfl⟩; exact ⟨j, ⟨h1, h2⟩, rfl⟩
/-- What an event adds. -/
def grStep (s : St) (e : Ev) : List (Int × Int) := if e.k = 3 then grPart s.owner e.t e.o 5 else []
/-- What the first n events add. -/
def grS (l : List Ev) : Nat → List (Int × Int)
  | 0 => []
  | i + 1 => grS l i ++ grStep (stAt l i) (evAt l i)
theorem mem_grS {l : List Ev} {x : Int × Int} : ∀ {n : Nat}, x ∈ grS l n ↔ ∃ i, i < n ∧ (evAt l i).k = 3 ∧ ∃ j : Nat, j < 5 ∧ (stAt l i).owner j = (evAt l i).t + 1 ∧ x = ((j : Int), (evAt l i).o)
  | 0 => by simp [grS]
  | n + 1 => by
    simp only [grS, List.mem_append, mem_grS (n := n)]
    constructor
    · rintro (⟨i, h1, h2⟩ | h)
      · exact ⟨i, by omega, h2⟩
      · unfold grStep at h
        split at h
        · exact ⟨n, by omega, by assumption, mem_grPart.1 h⟩
        · simp at h
    · rintro ⟨i, h1, h2, h3⟩
      by_cases e : i = n
      · subst e
        right
        unfold grStep
        rw [if_pos h2]
        exact mem_grPart.2 h3
      · exact .inl ⟨i, by omega, h2, h3⟩
theorem grS_len (l : List Ev) : ∀ n, (grS l n).length ≤ n * 5
  | 0 => by simp [grS]
  | n + 1 => by
    have h1 := grS_len l n
    have h2 : (grStep (stAt l n) (evAt l n)).length ≤ 5 := by
      unfold grStep
      split
      · exact grPart_len _ _ _ 5
      · simp
    simp only [grS, List.length_append]
    omega
/-- Out of them: each once, in order. -/
def grRow (S : List (Int × Int)) (a b : Nat) : List (Int × Int) := ((List.range b).filter fun k : Nat => inB S ((a : Int), (k : Int))).map fun k : Nat => ((a : Int), (k : Int))
def grAll (S : List (Int × Int)) (a : Nat) : List (Int × Int) := (List.range a).flatMap fun i => grRow S i 5
theorem grRow_yes {S : List (Int × Int)} {a b : Nat} (h : inB S ((a : Int), (b : Int)) = true) : grRow S a (b + 1) = grRow S a b ++ [((a : Int), (b : Int))] := by
  simp [grRow, List.range_succ, List.filter_append, h]
theorem grRow_no {S : List (Int × Int)} {a b : Nat} (h : inB S ((a : Int), (b : Int)) = false) : grRow S a (b + 1) = grRow S a b := by
  simp [grRow, List.range_succ, List.filter_append, h]
theorem grAll_succ (S : List (Int × Int)) (a : Nat) : grAll S (a + 1) = grAll S a ++ grRow S a 5 := by
  simp [grAll, List.range_succ]
theorem grRow_len (S : List (Int × Int)) (a b : Nat) : (grRow S a b).length ≤ b := by
  simpa [grRow] using List.length_filter_le (fun k : Nat => inB S ((a : Int), (k : Int))) (List.range b)
theorem grAll_len (S : List (Int × Int)) : ∀ a, (grAll S a).length ≤ a * 5
  | 0 => by simp [grAll]
  | a + 1 => by
    rw [grAll_succ, List.length_append]
    have := grAll_len S a
    have := grRow_len S a 5
    omega
def grOut (l : List Ev) : List (Int × Int) := grAll (grS l l.length) 5
theorem mem_grAll {S : List (Int × Int)} {n : Nat} {x : Int × Int} : x ∈ grAll S n ↔ ∃ a b : Nat, a < n ∧ b < 5 ∧ x = ((a : Int), (b : Int)) ∧ x ∈ S := by
  simp only [grAll, List.mem_flatMap, List.mem_range, grRow, List.mem_map, List.mem_filter, inB, decide_eq_true_eq]
  constructor
  · rintro ⟨a, h1, b, ⟨h2, h3⟩, rfl⟩; exact ⟨a, b, h1, h2, rfl, h3⟩
  · rintro ⟨a, b, h1, h2, rfl, h3⟩; exact ⟨a, h1, b, ⟨h2, h3⟩, rfl⟩
theorem grOut_ok (l : List Ev) : okPr (grOut l) := by
  intro x hx
  obtain ⟨a, b, h1, h2, rfl, _⟩ := mem_grAll.1 hx
  simp only
  omega
theorem grOut_len (l : List Ev) : (grOut l).length ≤ 25 := grAll_len _ 5
theorem stAt_take (l : List Ev) {i n : Nat} (h : i ≤ n) : stAt (l.take n) i = stAt l i := by
  unfold stAt stFrom
  rw [List.take_take, Nat.min_eq_left h]
theorem evAt_takeG (l : List Ev) {i n : Nat} (h : i < n) : evAt (l.take n) i = evAt l i := by
  unfold evAt
  rw [List.getD_eq_getElem?_getD, List.getD_eq_getElem?_getD, List.getElem?_take_of_lt h]
/-- What a trace adds stays. -/
theorem grOut_front {l : List Ev} {n : Nat} {x : Int × Int} (h : x ∈ grOut (l.take n)) : x ∈ grOut l := by
  obtain ⟨a, b, h1, h2, rfl, h3⟩ := mem_grAll.1 h
  refine mem_grAll.2 ⟨a, b, h1, h2, rfl, ?_⟩
  obtain ⟨i, h4, h5, j, h6, h7, h8⟩ := mem_grS.1 h3
  have h9 : i < n ∧ i < l.length := by simp at h4; omega
  rw [evAt_takeG l h9.1] at h5 h7 h8
  rw [stAt_take l (by omega)] at h7
  exact mem_grS.2 ⟨i, h9.2, h5, j, h6, h7, h8⟩
/-- The pairs are of int64. -/
theorem grS_i64 {l : List Ev} (h : (played l).2.2 = 0) {n : Nat} (hn : n ≤ l.length) : ∀ x ∈ grS l n, I64P x := by
  intro x hx
  obtain ⟨i, h4, h5, j, h6, h7, rfl⟩ := mem_grS.1 hx
  obtain ⟨_, _, h1, h2⟩ := ev_at h (show i < l.length by omega)
  rw [h5] at h2
  have : manyOf 3 = 5 := rfl
  exact ⟨⟨by simp only; omega, by simp only; omega⟩, ⟨by simp only; omega, by simp only; omega⟩⟩
end Go.Proofs.Ytoohconipcleiaa

/- Joined texts. -/
import Derived.Test.YtoohconipcleiaaPgK
import Derived.Test.YtoohconipcleiaaMC
import Derived.Test.YtoohconipcleiaaMD

/- A program made such that one lock is held at each access. No program. -/
namespace Go.Proofs.Ytoohconipcleiaa

/-! The program made so. -/
def lkOp (e : Ev) : List Ev := if e.k = 4 ∨ e.k = 5 then [] else if e.k = 1 ∨ e.k = 2 then [⟨4, 0, 0⟩, e, ⟨5, 0, 0⟩] else [e]
def lkN (z : List Ev) (n : Nat) : List Ev := (z.take n).flatMap lkOp
def lkZ (z : List Ev) : List Ev := (lkN z z.length).take 12
def lkP (p : List (List Ev)) : List (List Ev) := p.map lkZ
theorem lkN_succ {z : List Ev} {n : Nat} (h : n < z.length) : lkN z (n + 1) = lkN z n ++ lkOp z[n] := by
  unfold lkN
  rw [List.take_add_one, List.getElem?_eq_getElem h, List.flatMap_append]
  simp
theorem lkOp_len (e : Ev) : (lkOp e).length ≤ 3 := by
  unfold lkOp
  (repeat' split) <;> simp
theorem lkN_len (z : List Ev) : ∀ n, n ≤ z.length → (lkN z n).length ≤ 3 * n
  | 0, _ => by simp [lkN]
  | n + 1, h => by
    rw [lkN_succ (by omega), List.length_append]
    have := lkN_len z n (by omega)
    have := lkOp_len z[n]
    omega
/-- Each access has the lock just ahead. -/
def Fenced (l : List Ev) : Prop := ∀ (i : Nat) (e : Ev), l[i]? = some e → e.k = 1 ∨ e.k = 2 → ∃ j : Nat, i = j + 1 ∧ l[j]? = some ⟨4, 0, 0⟩
theorem Fenced.append {l m : List Ev} (h : Fenced l) (h' : Fenced m) : Fenced (l ++ m) := fun i e he hk => by
  by_cases c : i < l.length
  · rw [List.getElem?_append_left c] at he
    obtain ⟨j, rfl, hj⟩ := h i e he hk
    exact ⟨j, rfl, by rw [List.getElem?_append_left (by omega)]; exact hj⟩
  · rw [List.getElem?_append_right (by omega)] at he
    obtain ⟨j, hj1, hj⟩ := h' _ e he hk
    exact ⟨l.length + j, by omega, by rw [List.getElem?_append_right (by omega), show l.length + j - l.length = j by omega]; exact hj⟩
theorem lkOp_fenced (e : Ev) : Fenced (lkOp e) := fun i x hx hk => by
  unfold lkOp at hx ⊢
  split at hx
  · simp at hx
  · split at hx
    · rename_i h1 h2
      rw [if_neg h1, if_pos h2]
      match i, hx with
      | 0, hx => simp at hx; subst hx; simp at hk
      | 1, hx => exact ⟨0, rfl, rfl⟩
      | 2, hx => simp at hx; subst hx; simp at hk
      | i + 3, hx => simp at hx
    · rename_i h1 h2
      match i, hx with
      | 0, hx => simp at hx; subst hx; exact absurd hk h2
      | i + 1, hx => simp at hx
theorem lkN_fenced (z : List Ev) : ∀ n, n ≤ z.length → Fenced (lkN z n)
  | 0, _ => fun i e he => by simp [lkN] at he
  | n + 1, h => by
    rw [lkN_succ (by omega)]
    exact (lkN_fenced z n (by omega)).append (lkOp_fenced _)
theorem lkZ_fenced (z : List Ev) : Fenced (lkZ z) := fun i e he hk => by
  unfold lkZ at he ⊢
  have hi : i < 12 := by
    rcases Nat.lt_or_ge i 12 with c | c
    · exact c
    · rw [List.getElem?_take, if_neg (by omega)] at he; cases he
  rw [List.getElem?_take_of_lt hi] at he
  obtain ⟨j, rfl, hj⟩ := lkN_fenced z z.length (Nat.le_refl _) i e he hk
  exact ⟨j, rfl, by rw [List.getElem?_take_of_lt (by omega)]; exact hj⟩
theorem lkP_acc (p : List (List Ev)) : GAcc (lkP p) 0 := fun t i hi hk => by
  have hz : opsP (lkP p) t = if h : t < p.length then lkZ p[t] else [] := by
    unfold opsP lkP
    by_cases c : t < p.length
    · simp [c]
    · simp [c]
  have hl : i < (opsP (lkP p) t).length := by rw [opsP_len]; exact hi
  have hF : Fenced (opsP (lkP p) t) := by
    rw [hz]
    split
    · exact lkZ_fenced _
    · intro i e he; simp at he
  have hop : ∀ i, i < (opsP (lkP p) t).length → (opsP (lkP p) t)[i]? = some (opA (lkP p) t i) := fun i hi => by
    rw [List.getElem?_eq_getElem hi]
    exact congrArg some (opsP_at hi)
  have he := hop i hl
  obtain ⟨j, rfl, hj⟩ := hF i _ he hk
  have hj2 : opA (lkP p) t j = ⟨4, 0, 0⟩ := by
    have h2 : j < (opsP (lkP p) t).length := by omega
    rw [hop j h2] at hj
    injection hj
  exact ⟨j, by omega, by rw [hj2], by rw [hj2]; rfl, fun k h1 h2 => by omega⟩
end Go.Proofs.Ytoohconipcleiaa

/- A program built up thread by thread, in memory. -/
namespace Go.Proofs.Ytoohconipcleiaa
open Go.RowKit

theorem own_types2 {w : World} {base e size n : Nat} {v : Value} {xs : List Value} {b2 e2 s2 n2 : Nat} {v2 : Value} {x2 : List Value} (h : w.ownsRow base e size v n xs) (h2 : w.ownsRow b2 e2 s2 v2 n2 x2) (ht : e ≠ e2) : v.ownBlock = none ∨ v.ownBlock ≠ v2.ownBlock := by
  rcases h.2 with ⟨rfl, _⟩ | ⟨g, cap, cur, rfl, _, hg, _⟩
  · exact .inl rfl
  · right
    rcases h2.2 with ⟨rfl, _⟩ | ⟨g2, cap2, cur2, rfl, _, hg2, _⟩
    · simp [Value.ownBlock]
    · intro e1
      simp [Value.ownBlock] at e1
      subst e1
      rw [hg] at hg2
      simp at hg2
      exact ht hg2.2
theorem own_lower {w : World} {base b2 e size n : Nat} {v : Value} {xs : List Value} (h : w.ownsRow base e size v n xs) (hb : b2 ≤ base) : w.ownsRow b2 e size v n xs := by
  refine ⟨h.1, ?_⟩
  rcases h.2 with h0 | ⟨g, cap, cur, hv, hg, r⟩
  · exact .inl h0
  · exact .inr ⟨g, cap, cur, hv, Nat.le_trans hb hg, r⟩
/-- The first m of a slice. -/
theorem own_front {w : World} {base e size n m : Nat} {a : Option Addr} {c : Nat} {xs : List Value} (h : w.ownsRow base e size (.slice a n c) n xs) (hm : m ≤ n) : w.ownsRow base e size (.slice a m c) m (xs.take (m * size)) := by
  have hmn : m * size ≤ n * size := Nat.mul_le_mul_right _ hm
  refine ⟨by rw [List.length_take, h.1]; omega, ?_⟩
  rcases h.2 with ⟨hv, h0⟩ | ⟨g, cap, cur, hv, hb, hg, h1, h2, h3, h4⟩
  · cases hv
    exact .inl ⟨by rw [show m = 0 by omega], by omega⟩
  · cases hv
    refine .inr ⟨g, c, cur, rfl, hb, hg, by omega, h2, h3, ?_⟩
    rw [← h4, List.take_take, Nat.min_eq_left hmn]
theorem evL_take : ∀ (m : Nat) (l : List Ev), (evL l).take (m * 3) = evL (l.take m)
  | 0, _ => by simp [evL]
  | m + 1, [] => by simp [evL]
  | m + 1, e :: l => by
    have ih := evL_take m l
    have h1 : evL (e :: l) = [.int .i64 e.k, .int .i64 e.t, .int .i64 e.o] ++ evL l := rfl
    have h2 : evL ((e :: l).take (m + 1)) = [.int .i64 e.k, .int .i64 e.t, .int .i64 e.o] ++ evL (l.take m) := rfl
    rw [h1, h2, ← ih, show (m + 1) * 3 = m * 3 + 1 + 1 + 1 by omega]
    simp only [List.cons_append, List.nil_append, List.take_succ_cons]
/-- The rows of a program under way. -/
structure RowsI (w : World) (base k : Nat) (q : List (List Ev)) (v : Value) (R : List Value) : Prop where
  len : R.length = k
  lenq : q.length = k
  p : w.ownsRow base 38 1 v k R
  r : ∀ i (h : i < R.length) (h' : i < q.length), w.ownsRow base 40 3 R[i] q[i].length (evL q[i])
theorem RowsI.zero (w : World) (base : Nat) : RowsI w base 0 [] (.slice none 0 0) [] := ⟨rfl, rfl, World.ownsRow_nil _ _ _ _, fun _ h => absurd h (Nat.not_lt_zero _)⟩
theorem RowsI.below {w w' : World} {base k : Nat} {q : List (List Ev)} {v : Value} {R : List Value} (h : RowsI w base k q v R) (b : Below w.heap.size w w') : RowsI w' base k q v R :=
  ⟨h.len, h.lenq, own_below h.p b, fun i hi hi' => own_below (h.r i hi hi') b⟩
theorem RowsI.step {w w' : World} {base k : Nat} {q : List (List Ev)} {v v' x : Value} {R : List Value} {z : List Ev} (h : RowsI w base k q v R) (hx : w.ownsRow base 40 3 x z.length (evL z))
    (hA : Appended w w' base 38 1 v v' (k + 1) (R ++ [x])) : RowsI w' base (k + 1) (q ++ [z]) v' (R ++ [x]) := by
  have keep : ∀ {n : Nat} {u : Value} {xs : List Value}, w.ownsRow base 40 3 u n xs → w'.ownsRow base 40 3 u n xs := fun ho => ho.kept hA.grown (own_types2 ho h.p (by decide))
  refine ⟨by simp [h.len], by simp [h.lenq], hA.own, fun i hi hi' => ?_⟩
  by_cases c : i < k
  · have h1 : i < R.length := by rw [h.len]; exact c
    have h2 : i < q.length := by rw [h.lenq]; exact c
    rw [List.getElem_append_left h1]
    have e : (q ++ [z])[i] = q[i] := List.getElem_append_left h2
    rw [e]
    exact keep (h.r i h1 h2)
  · have e1 : i = k := by simp [h.len] at hi; omega
    subst e1
    have a1 : (R ++ [x])[i] = x := by rw [List.getElem_append_right (by rw [h.len]; omega)]; simp [h.len]
    have a2 : (q ++ [z])[i] = z := by rw [List.getElem_append_right (by rw [h.lenq]; omega)]; simp [h.lenq]
    rw [a1, a2]
    exact keep hx
theorem RowsI.pg {w : World} {base : Nat} {q : List (List Ev)} {v : Value} {R : List Value} (h : RowsI w base q.length q v R) (hq : q.length < 4611686018427387904) (hz : ∀ z ∈ q, z.length < 4611686018427387904) : ∃ a c, v = .slice a q.length c ∧ PgS w a q ∧ q.length ≤ c := by
  rcases h.p.2 with ⟨rfl, h0⟩ | ⟨g, cap, cur, rfl, _, hg, hc, _, hs, hcur⟩
  · rw [h0]
    have : q = [] := List.eq_nil_of_length_eq_zero h0
    subst this
    exact ⟨none, 0, rfl, ⟨hq, .inl rfl⟩, Nat.le_refl _⟩
  · refine ⟨_, _, rfl, ⟨hq, .inr ⟨g, 0, rfl, fun t ht => ?_⟩⟩, hc⟩
    have h1 : t < R.length := by rw [h.len]; exact ht
    obtain ⟨a', c', hv, hS, _⟩ := evS_own (h.r t h1 ht) (hz _ (List.getElem_mem ht))
    refine ⟨a', c', ?_, hS⟩
    have h2 := h.p.cellAt t (by rw [Nat.mul_one]; exact ht)
    rw [Nat.zero_add]
    rw [← hv]
    exact h2.trans (List.getElem?_eq_getElem h1)
end Go.Proofs.Ytoohconipcleiaa

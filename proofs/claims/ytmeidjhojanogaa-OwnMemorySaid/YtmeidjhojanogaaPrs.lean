/- Slices of pairs; lists of pairs of places. No program but the pair's type. -/
import Derived.Test.YtmeidjhojanogaaSl
import Derived.Test.YtmeidjhojanogaaApp
namespace Go.Proofs.Ytmeidjhojanogaa
open Go.RowKit

abbrev prC (p : Int × Int) : Array Value := #[.int .i64 p.1, .int .i64 p.2]
abbrev prV (p : Int × Int) : Value := .agg (prC p)
def prL (l : List (Int × Int)) : List Value := l.flatMap fun p => [.int .i64 p.1, .int .i64 p.2]
theorem prL_append (l m : List (Int × Int)) : prL (l ++ m) = prL l ++ prL m := by simp [prL]
theorem prL_length (l : List (Int × Int)) : (prL l).length = l.length * 2 := by
  induction l with
  | nil => rfl
  | cons e l ih => simp [prL] at *; omega
theorem prL_get (l : List (Int × Int)) : ∀ (i : Nat) (h : i < l.length), (prL l)[i * 2]? = some (.int .i64 l[i].1) ∧ (prL l)[i * 2 + 1]? = some (.int .i64 l[i].2) := by
  induction l with
  | nil => intro i h; simp at h
  | cons e l ih =>
    intro i h
    have hc : prL (e :: l) = .int .i64 e.1 :: .int .i64 e.2 :: prL l := rfl
    cases i with
    | zero => simp [hc]
    | succ i =>
      obtain ⟨h1, h2⟩ := ih i (by simpa using h)
      rw [hc, show (i + 1) * 2 = i * 2 + 1 + 1 by omega]
      simp only [List.getElem?_cons_succ, List.getElem_cons_succ]
      exact ⟨h1, h2⟩
theorem prL_one (l : List (Int × Int)) : ∀ u ∈ prL l, u.oneCell' = true := by
  intro u hu
  simp only [prL, List.mem_flatMap] at hu
  obtain ⟨e, _, he⟩ := hu
  simp at he
  rcases he with rfl | rfl <;> rfl
/-- A slice of pairs: its elements read as a list. -/
structure PrS (w : World) (a : Option Addr) (l : List (Int × Int)) : Prop where
  big : l.length < 4611686018427387904
  ok : l = [] ∨ ∃ b o, a = some ⟨b, o, none⟩ ∧ ∀ i (h : i < l.length), w.cell? ⟨b, o + i * 2, none⟩ = some (.int .i64 l[i].1) ∧ w.cell? ⟨b, o + i * 2 + 1, none⟩ = some (.int .i64 l[i].2)
theorem PrS.below {w w' : World} {a : Option Addr} {l : List (Int × Int)} (h : PrS w a l) (k : Below w.heap.size w w') : PrS w' a l := by
  refine ⟨h.big, ?_⟩
  rcases h.ok with h0 | ⟨b, o, ha, hc⟩
  · exact .inl h0
  · refine .inr ⟨b, o, ha, fun i hi => ?_⟩
    obtain ⟨h1, h2⟩ := hc i hi
    exact ⟨(k.cell (World.block_lt_of_cell? w _ h1)).trans h1, (k.cell (World.block_lt_of_cell? w _ h2)).trans h2⟩
theorem PrS.at {w : World} {a : Option Addr} {l : List (Int × Int)} (h : PrS w a l) {i : Nat} (hi : i < l.length) : ∃ b o, a = some ⟨b, o, none⟩ ∧ w.cell? ⟨b, o + i * 2, none⟩ = some (.int .i64 l[i].1) ∧ w.cell? ⟨b, o + i * 2 + 1, none⟩ = some (.int .i64 l[i].2) := by
  rcases h.ok with h0 | ⟨b, o, ha, hc⟩
  · simp [h0] at hi
  · exact ⟨b, o, ha, hc i hi⟩
theorem prS_own {w : World} {base : Nat} {e : TypeId} {v : Value} {l : List (Int × Int)} (h : w.ownsRow base e 2 v l.length (prL l)) (hb : l.length < 4611686018427387904) : ∃ a c, v = .slice a l.length c ∧ PrS w a l := by
  rcases h.2 with ⟨rfl, hn⟩ | ⟨g, cap, cur, rfl, hg, hh, _⟩
  · exact ⟨none, 0, by rw [hn], ⟨hb, .inl (List.eq_nil_of_length_eq_zero hn)⟩⟩
  · refine ⟨_, _, rfl, ⟨hb, .inr ⟨g, 0, rfl, fun i hi => ?_⟩⟩⟩
    have hc := h.cells (g := g) rfl
    obtain ⟨h1, h2⟩ := prL_get l i hi
    have e1 := hc _ _ h1
    have e2 := hc _ _ h2
    have hadd : ∀ n, (⟨g, 0, none⟩ : Addr).add n = ⟨g, 0 + n, none⟩ := by intro n; unfold Addr.add; split <;> simp_all
    rw [hadd] at e1 e2
    exact ⟨e1, e2⟩
theorem prS_full {w : World} {g : Nat} {cs : Array Value} {l : List (Int × Int)} {e : TypeId} (h : Has w g cs e) (hc : cs = (prL l).toArray) (hb : l.length < 4611686018427387904) : PrS w (some ⟨g, 0, none⟩) l :=
  ⟨hb, .inr ⟨g, 0, rfl, fun i hi => by
    obtain ⟨h1, h2⟩ := prL_get l i hi
    subst hc
    rw [Nat.zero_add]
    exact ⟨h.cell (by simpa using h1), h.cell (by simpa using h2)⟩⟩⟩

/-- The pairs with first place i and a second one below j; with a first place below i. -/
def rowP (H : Nat → Nat → Bool) (i j : Nat) : List (Int × Int) := ((List.range j).filter fun k => decide (i < k) && H i k).map fun k : Nat => ((i : Int), (k : Int))
def allP (H : Nat → Nat → Bool) (n i : Nat) : List (Int × Int) := (List.range i).flatMap fun a => rowP H a n
theorem rowP_start (H : Nat → Nat → Bool) (i : Nat) : rowP H i (i + 1) = [] := by
  simp [rowP, List.filter_eq_nil_iff]
  intro a ha h; omega
theorem rowP_yes (H : Nat → Nat → Bool) (i j : Nat) (h : i < j) (hH : H i j = true) : rowP H i (j + 1) = rowP H i j ++ [((i : Int), (j : Int))] := by
  simp [rowP, List.range_succ, List.filter_append, h, hH]
theorem rowP_no (H : Nat → Nat → Bool) (i j : Nat) (hH : H i j = false) : rowP H i (j + 1) = rowP H i j := by
  simp [rowP, List.range_succ, List.filter_append, hH]
theorem allP_succ (H : Nat → Nat → Bool) (n i : Nat) : allP H n (i + 1) = allP H n i ++ rowP H i n := by
  simp [allP, List.range_succ]
theorem rowP_len (H : Nat → Nat → Bool) (i j : Nat) : (rowP H i j).length ≤ j := by
  simpa [rowP] using List.length_filter_le (fun k => decide (i < k) && H i k) (List.range j)
theorem allP_len (H : Nat → Nat → Bool) (n : Nat) : ∀ i, (allP H n i).length ≤ i * n
  | 0 => by simp [allP]
  | i + 1 => by
    rw [allP_succ, List.length_append, Nat.succ_mul]
    have := allP_len H n i
    have := rowP_len H i n
    omega
theorem mem_allP {H : Nat → Nat → Bool} {n : Nat} {p : Int × Int} : p ∈ allP H n n ↔ ∃ i j : Nat, p = ((i : Int), (j : Int)) ∧ i < j ∧ j < n ∧ H i j = true := by
  simp only [allP, List.mem_flatMap, List.mem_range, rowP, List.mem_map, List.mem_filter, Bool.and_eq_true, decide_eq_true_eq]
  constructor
  · rintro ⟨a, ha, k, ⟨h1, h2, h3⟩, rfl⟩
    exact ⟨a, k, rfl, h2, h1, h3⟩
  · rintro ⟨i, j, rfl, h1, h2, h3⟩
    exact ⟨i, by omega, j, ⟨h2, h1, h3⟩, rfl⟩
end Go.Proofs.Ytmeidjhojanogaa

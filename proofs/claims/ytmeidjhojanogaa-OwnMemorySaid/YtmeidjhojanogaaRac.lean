/- Races, plain. No program. -/
import Derived.Test.YtmeidjhojanogaaOrdT
import Derived.Test.YtmeidjhojanogaaVal
namespace Go.Proofs.Ytmeidjhojanogaa

/-- A race. -/
structure Rc where
  a : Int
  b : Int
  v : Int
  k : Int
deriving DecidableEq
def isAccR (e : Ev) : Bool := decide (e.k = 1) || decide (e.k = 2)
theorem isAccR_iff {e : Ev} : isAccR e = true ↔ e.k = 1 ∨ e.k = 2 := by simp [isAccR]
def kindR (a b : Ev) : Int := if a.k = 2 ∧ b.k = 2 then 1 else if a.k = 2 then 2 else if b.k = 2 then 3 else 0
/-- Do two places race, the first one ahead in the trace? -/
def raceB (l : List Ev) (i j : Nat) : Bool :=
  isAccR (evAt l i) && isAccR (evAt l j) && decide ((evAt l i).o = (evAt l j).o) && !R l j i && (decide ((evAt l i).k = 2) || decide ((evAt l j).k = 2))
theorem raceB_iff {l : List Ev} {i j : Nat} : raceB l i j = true ↔ isAccR (evAt l i) = true ∧ isAccR (evAt l j) = true ∧ (evAt l i).o = (evAt l j).o ∧ R l j i = false ∧ ((evAt l i).k = 2 ∨ (evAt l j).k = 2) := by
  simp [raceB, and_assoc]
def raceOf (l : List Ev) (i j : Nat) : Rc := ⟨i, j, (evAt l i).o, kindR (evAt l i) (evAt l j)⟩
/-- The races with first place i and a second one below j; with a first place below i. -/
def rowR (l : List Ev) (i j : Nat) : List Rc := ((List.range j).filter fun k => decide (i < k) && raceB l i k).map fun k => raceOf l i k
def allR (l : List Ev) (n i : Nat) : List Rc := (List.range i).flatMap fun a => rowR l a n
abbrev raceL (l : List Ev) : List Rc := allR l l.length l.length
theorem rowR_start (l : List Ev) (i : Nat) : rowR l i (i + 1) = [] := by
  simp [rowR, List.filter_eq_nil_iff]
  intro a ha h; omega
theorem rowR_yes {l : List Ev} {i j : Nat} (h : i < j) (hH : raceB l i j = true) : rowR l i (j + 1) = rowR l i j ++ [raceOf l i j] := by
  simp [rowR, List.range_succ, List.filter_append, h, hH]
theorem rowR_no {l : List Ev} {i j : Nat} (hH : raceB l i j = false) : rowR l i (j + 1) = rowR l i j := by
  simp [rowR, List.range_succ, List.filter_append, hH]
theorem allR_succ (l : List Ev) (n i : Nat) : allR l n (i + 1) = allR l n i ++ rowR l i n := by
  simp [allR, List.range_succ]
theorem rowR_len (l : List Ev) (i j : Nat) : (rowR l i j).length ≤ j := by
  simpa [rowR] using List.length_filter_le (fun k => decide (i < k) && raceB l i k) (List.range j)
theorem allR_len (l : List Ev) (n : Nat) : ∀ i, (allR l n i).length ≤ i * n
  | 0 => by simp [allR]
  | i + 1 => by
    rw [allR_succ, List.length_append, Nat.succ_mul]
    have := allR_len l n i
    have := rowR_len l i n
    omega
theorem mem_raceL {l : List Ev} {r : Rc} : r ∈ raceL l ↔ ∃ i j : Nat, r = raceOf l i j ∧ i < j ∧ j < l.length ∧ raceB l i j = true := by
  simp only [raceL, allR, List.mem_flatMap, List.mem_range, rowR, List.mem_map, List.mem_filter, Bool.and_eq_true, decide_eq_true_eq]
  constructor
  · rintro ⟨a, ha, k, ⟨h1, h2, h3⟩, rfl⟩
    exact ⟨a, k, rfl, h2, h1, h3⟩
  · rintro ⟨i, j, rfl, h1, h2, h3⟩
    exact ⟨i, by omega, j, ⟨h2, h1, h3⟩, rfl⟩
/-- The value, the cells of a race; the cells of a list. -/
abbrev rcC (r : Rc) : Array Value := #[.int .i64 r.a, .int .i64 r.b, .int .i64 r.v, .int .i64 r.k]
abbrev rcV (r : Rc) : Value := .agg (rcC r)
def rcL (l : List Rc) : List Value := l.flatMap fun r => [.int .i64 r.a, .int .i64 r.b, .int .i64 r.v, .int .i64 r.k]
theorem rcL_append (l m : List Rc) : rcL (l ++ m) = rcL l ++ rcL m := by simp [rcL]
theorem rcL_length (l : List Rc) : (rcL l).length = l.length * 4 := by
  induction l with
  | nil => rfl
  | cons e l ih => simp [rcL] at *; omega
theorem rcL_get (l : List Rc) : ∀ (i : Nat) (h : i < l.length), (rcL l)[i * 4]? = some (.int .i64 l[i].a) ∧ (rcL l)[i * 4 + 1]? = some (.int .i64 l[i].b) ∧ (rcL l)[i * 4 + 2]? = some (.int .i64 l[i].v) ∧ (rcL l)[i * 4 + 3]? = some (.int .i64 l[i].k) := by
  induction l with
  | nil => intro i h; simp at h
  | cons e l ih =>
    intro i h
    have hc : rcL (e :: l) = .int .i64 e.a :: .int .i64 e.b :: .int .i64 e.v :: .int .i64 e.k :: rcL l := rfl
    cases i with
    | zero => simp [hc]
    | succ i =>
      obtain ⟨h1, h2, h3, h4⟩ := ih i (by simpa using h)
      rw [hc, show (i + 1) * 4 = i * 4 + 1 + 1 + 1 + 1 by omega]
      simp only [List.getElem?_cons_succ, List.getElem_cons_succ]
      exact ⟨h1, h2, h3, h4⟩
theorem rcL_one (l : List Rc) : ∀ u ∈ rcL l, u.oneCell' = true := by
  intro u hu
  simp only [rcL, List.mem_flatMap] at hu
  obtain ⟨e, _, he⟩ := hu
  simp at he
  rcases he with rfl | rfl | rfl | rfl <;> rfl
/-- A slice of races: its elements read as a list. -/
structure RcS (w : World) (a : Option Addr) (l : List Rc) : Prop where
  big : l.length < 4611686018427387904
  ok : l = [] ∨ ∃ b o, a = some ⟨b, o, none⟩ ∧ ∀ i (h : i < l.length), w.cell? ⟨b, o + i * 4, none⟩ = some (.int .i64 l[i].a) ∧ w.cell? ⟨b, o + i * 4 + 1, none⟩ = some (.int .i64 l[i].b) ∧ w.cell? ⟨b, o + i * 4 + 2, none⟩ = some (.int .i64 l[i].v) ∧ w.cell? ⟨b, o + i * 4 + 3, none⟩ = some (.int .i64 l[i].k)
theorem RcS.below {w w' : World} {a : Option Addr} {l : List Rc} (h : RcS w a l) (k : Go.RowKit.Below w.heap.size w w') : RcS w' a l := by
  refine ⟨h.big, ?_⟩
  rcases h.ok with h0 | ⟨b, o, ha, hc⟩
  · exact .inl h0
  · refine .inr ⟨b, o, ha, fun i hi => ?_⟩
    obtain ⟨h1, h2, h3, h4⟩ := hc i hi
    exact ⟨(k.cell (World.block_lt_of_cell? w _ h1)).trans h1, (k.cell (World.block_lt_of_cell? w _ h2)).trans h2, (k.cell (World.block_lt_of_cell? w _ h3)).trans h3, (k.cell (World.block_lt_of_cell? w _ h4)).trans h4⟩
theorem RcS.at {w : World} {a : Option Addr} {l : List Rc} (h : RcS w a l) {i : Nat} (hi : i < l.length) : ∃ b o, a = some ⟨b, o, none⟩ ∧ w.cell? ⟨b, o + i * 4, none⟩ = some (.int .i64 l[i].a) ∧ w.cell? ⟨b, o + i * 4 + 1, none⟩ = some (.int .i64 l[i].b) ∧ w.cell? ⟨b, o + i * 4 + 2, none⟩ = some (.int .i64 l[i].v) ∧ w.cell? ⟨b, o + i * 4 + 3, none⟩ = some (.int .i64 l[i].k) := by
  rcases h.ok with h0 | ⟨b, o, ha, hc⟩
  · simp [h0] at hi
  · exact ⟨b, o, ha, hc i hi⟩
theorem rcS_own {w : World} {base : Nat} {e : TypeId} {v : Value} {l : List Rc} (h : w.ownsRow base e 4 v l.length (rcL l)) (hb : l.length < 4611686018427387904) : ∃ a c, v = .slice a l.length c ∧ RcS w a l := by
  rcases h.2 with ⟨rfl, hn⟩ | ⟨g, cap, cur, rfl, hg, hh, _⟩
  · exact ⟨none, 0, by rw [hn], ⟨hb, .inl (List.eq_nil_of_length_eq_zero hn)⟩⟩
  · refine ⟨_, _, rfl, ⟨hb, .inr ⟨g, 0, rfl, fun i hi => ?_⟩⟩⟩
    have hc := h.cells (g := g) rfl
    obtain ⟨h1, h2, h3, h4⟩ := rcL_get l i hi
    have e1 := hc _ _ h1
    have e2 := hc _ _ h2
    have e3 := hc _ _ h3
    have e4 := hc _ _ h4
    have hadd : ∀ n, (⟨g, 0, none⟩ : Addr).add n = ⟨g, 0 + n, none⟩ := by intro n; unfold Addr.add; split <;> simp_all
    rw [hadd] at e1 e2 e3 e4
    exact ⟨e1, e2, e3, e4⟩
theorem rcS_full {w : World} {g : Nat} {cs : Array Value} {l : List Rc} {e : TypeId} (h : Has w g cs e) (hc : cs = (rcL l).toArray) (hb : l.length < 4611686018427387904) : RcS w (some ⟨g, 0, none⟩) l :=
  ⟨hb, .inr ⟨g, 0, rfl, fun i hi => by
    obtain ⟨h1, h2, h3, h4⟩ := rcL_get l i hi
    subst hc
    rw [Nat.zero_add]
    exact ⟨h.cell (by simpa using h1), h.cell (by simpa using h2), h.cell (by simpa using h3), h.cell (by simpa using h4)⟩⟩⟩
end Go.Proofs.Ytmeidjhojanogaa

/- Two rows of the call's own that lie apart; what is kept of a slice's first places. -/
import Derived.Test.YtmeidjhojanogaaApp
import Derived.Test.YtmeidjhojanogaaSl
namespace Go.Proofs.Ytmeidjhojanogaa
open Go.RowKit

/-- Two rows of the call's own that lie apart. -/
def Dis (v u : Value) : Prop := v.ownBlock = none ∨ v.ownBlock ≠ u.ownBlock
theorem Dis.symm {v u : Value} (h : Dis v u) : Dis u v := by
  rcases h with h | h
  · by_cases e : u.ownBlock = none
    · exact .inl e
    · exact .inr (by rw [h]; exact e)
  · exact .inr (Ne.symm h)
theorem Dis.app {w w' : World} {base e size n base2 e2 size2 m : Nat} {v v' u : Value} {xs ys : List Value} (hd : Dis v u) (h : Appended w w' base e size v v' n xs) (hu : w.ownsRow base2 e2 size2 u m ys) : Dis v' u ∧ w'.ownsRow base2 e2 size2 u m ys := by
  constructor
  · rcases h.lies with h1 | h1
    · rw [Dis, h1]; exact hd
    · right
      rw [h1]
      intro e
      have := (hu.lt _ e.symm).2
      omega
  · refine hu.kept h.grown ?_
    rcases hd with h1 | h1
    · by_cases e : u.ownBlock = none
      · exact .inl e
      · exact .inr (by rw [h1]; exact e)
    · exact .inr (Ne.symm h1)
def fK (p : Ev → Bool) (l : List Ev) (k : Nat) : List Ev := (l.take k).filter p
theorem fK_yes {p : Ev → Bool} {l : List Ev} {k : Nat} (hk : k < l.length) (h : p l[k] = true) : fK p l (k + 1) = fK p l k ++ [l[k]] := by
  unfold fK
  rw [List.take_add_one, List.getElem?_eq_getElem hk, Option.toList_some, List.filter_append]
  simp [h]
theorem fK_no {p : Ev → Bool} {l : List Ev} {k : Nat} (hk : k < l.length) (h : p l[k] = false) : fK p l (k + 1) = fK p l k := by
  unfold fK
  rw [List.take_add_one, List.getElem?_eq_getElem hk, Option.toList_some, List.filter_append]
  simp [h]
theorem fK_len (p : Ev → Bool) (l : List Ev) (k : Nat) : (fK p l k).length ≤ l.length := by
  unfold fK
  have h1 := List.length_filter_le p (l.take k)
  have h2 : (l.take k).length ≤ l.length := by simp; omega
  omega
theorem fK_mem {p : Ev → Bool} {l : List Ev} {k : Nat} {e : Ev} (h : e ∈ fK p l k) : p e = true := (List.mem_filter.1 h).2
theorem fK_all (p : Ev → Bool) (l : List Ev) : fK p l l.length = l.filter p := by unfold fK; rw [List.take_length]
theorem evL_set (l : List Ev) : ∀ {i : Nat} (hi : i < l.length) (x : Int), (evL l).set (i * 3) (.int .i64 x) = evL (l.set i ⟨x, l[i].t, l[i].o⟩) := by
  induction l with
  | nil => intro i hi; simp at hi
  | cons e l ih =>
    intro i hi x
    cases i with
    | zero => simp [evL]
    | succ i =>
      have := ih (i := i) (by simpa using hi) x
      rw [show (i + 1) * 3 = i * 3 + 1 + 1 + 1 by omega]
      simp only [evL, List.flatMap_cons, List.cons_append, List.nil_append, List.set_cons_succ, List.getElem_cons_succ] at this ⊢
      rw [this]
/-- A row of the call's own, to be written to. -/
def RowO (w : World) (e : TypeId) (a : Option Addr) (l : List Ev) : Prop := l = [] ∨ ∃ g cur, a = some ⟨g, 0, none⟩ ∧ Has w g cur e ∧ cur.toList.take (l.length * 3) = evL l
theorem RowO.of_own {w : World} {base : Nat} {e : TypeId} {v : Value} {l : List Ev} (h : w.ownsRow base e 3 v l.length (evL l)) : ∃ a c, v = .slice a l.length c ∧ RowO w e a l ∧ ∀ g, a = some ⟨g, 0, none⟩ → base ≤ g := by
  rcases h.2 with ⟨rfl, hn⟩ | ⟨g, cap, cur, rfl, hg, hh, _, _, _, ht⟩
  · exact ⟨none, 0, by rw [hn], .inl (List.eq_nil_of_length_eq_zero hn), fun g e => by cases e⟩
  · exact ⟨_, _, rfl, .inr ⟨g, cur, rfl, ⟨hh⟩, ht⟩, fun g' e => by cases e; exact hg⟩
theorem RowO.below {w w' : World} {e : TypeId} {a : Option Addr} {l : List Ev} (h : RowO w e a l) (k : Below w.heap.size w w') : RowO w' e a l := by
  rcases h with h | ⟨g, cur, ha, hh, ht⟩
  · exact .inl h
  · exact .inr ⟨g, cur, ha, hh.below k hh.lt, ht⟩
theorem RowO.evs {w : World} {e : TypeId} {a : Option Addr} {l : List Ev} (h : RowO w e a l) (hb : l.length < 4611686018427387904) : EvS w a l := by
  refine ⟨hb, ?_⟩
  rcases h with h | ⟨g, cur, rfl, hh, ht⟩
  · exact .inl h
  · refine .inr ⟨g, 0, rfl, fun i hi => ?_⟩
    obtain ⟨h1, h2, h3⟩ := evL_get l i hi
    have hc : ∀ j v, j < l.length * 3 → (evL l)[j]? = some v → w.cell? ⟨g, 0 + j, none⟩ = some v := by
      intro j v hj hv
      rw [Nat.zero_add]
      refine hh.cell ?_
      rw [← ht, List.getElem?_take_of_lt hj] at hv
      simpa using hv
    refine ⟨hc _ _ (by omega) h1, ?_, ?_⟩
    · have := hc (i * 3 + 1) _ (by omega) h2; simpa [Nat.add_assoc] using this
    · have := hc (i * 3 + 2) _ (by omega) h3; simpa [Nat.add_assoc] using this
theorem RowO.set {w : World} {e : TypeId} {g : Nat} {l : List Ev} (h : RowO w e (some ⟨g, 0, none⟩) l) {i : Nat} (hi : i < l.length) (x : Int) :
    RowO (w.setCell ⟨g, i * 3, none⟩ (.int .i64 x)) e (some ⟨g, 0, none⟩) (l.set i ⟨x, l[i].t, l[i].o⟩) := by
  rcases h with h | ⟨g', cur, ha, hh, ht⟩
  · subst h; simp at hi
  · cases ha
    refine .inr ⟨g, _, rfl, hh.setCell (i * 3) _, ?_⟩
    rw [List.length_set, ← evL_set l hi x, ← ht, Array.toList_setIfInBounds, List.take_set]
theorem evL_set3 (l : List Ev) : ∀ {i : Nat} (_ : i < l.length) (x : Ev), (((evL l).set (i * 3) (.int .i64 x.k)).set (i * 3 + 1) (.int .i64 x.t)).set (i * 3 + 2) (.int .i64 x.o) = evL (l.set i x) := by
  induction l with
  | nil => intro i hi; simp at hi
  | cons e l ih =>
    intro i hi x
    cases i with
    | zero => simp [evL]
    | succ i =>
      have := ih (i := i) (by simpa using hi) x
      rw [show (i + 1) * 3 = i * 3 + 1 + 1 + 1 by omega, show i * 3 + 1 + 1 + 1 + 1 = (i * 3 + 1) + 1 + 1 + 1 by omega, show i * 3 + 1 + 1 + 1 + 2 = (i * 3 + 2) + 1 + 1 + 1 by omega]
      simp only [evL, List.flatMap_cons, List.cons_append, List.nil_append, List.set_cons_succ] at this ⊢
      rw [this]
theorem RowO.setEv {w : World} {e : TypeId} {g : Nat} {l : List Ev} (h : RowO w e (some ⟨g, 0, none⟩) l) {i : Nat} (hi : i < l.length) (x : Ev) :
    RowO (((w.setCell ⟨g, i * 3, none⟩ (.int .i64 x.k)).setCell ⟨g, i * 3 + 1, none⟩ (.int .i64 x.t)).setCell ⟨g, i * 3 + 2, none⟩ (.int .i64 x.o)) e (some ⟨g, 0, none⟩) (l.set i x) := by
  rcases h with h | ⟨g', cur, ha, hh, ht⟩
  · subst h; simp at hi
  · cases ha
    refine .inr ⟨g, _, rfl, ((hh.setCell (i * 3) _).setCell (i * 3 + 1) _).setCell (i * 3 + 2) _, ?_⟩
    rw [List.length_set, ← evL_set3 l hi x, ← ht, Array.toList_setIfInBounds, Array.toList_setIfInBounds, Array.toList_setIfInBounds, List.take_set, List.take_set, List.take_set]
theorem RowO.free {w : World} {e : TypeId} {g : Nat} {l : List Ev} (h : RowO w e (some ⟨g, 0, none⟩) l) (hl : l ≠ []) (i : Nat) : w.frozen? ⟨g, i, none⟩ = false := by
  rcases h with h | ⟨g', cur, ha, hh, ht⟩
  · exact absurd h hl
  · cases ha; exact hh.free i
theorem EvS.setFar {w : World} {a : Option Addr} {l : List Ev} (h : EvS w a l) {p : Addr} (hp : ∀ g o, a = some ⟨g, o, none⟩ → p.block ≠ g) (v : Value) : EvS (w.setCell p v) a l := by
  refine ⟨h.big, ?_⟩
  rcases h.ok with h0 | ⟨b, o, ha, hc⟩
  · exact .inl h0
  · have hne := hp b o ha
    have hk : ∀ j, (w.setCell p v).cell? ⟨b, j, none⟩ = w.cell? ⟨b, j, none⟩ := fun j => World.cell?_setCell_other w p _ v (fun e => hne (by rw [e]))
    exact .inr ⟨b, o, ha, fun i hi => by rw [hk, hk, hk]; exact hc i hi⟩
theorem IntS.setFar {w : World} {a : Option Addr} {l : List Int} (h : IntS w a l) {p : Addr} (hp : ∀ g o, a = some ⟨g, o, none⟩ → p.block ≠ g) (v : Value) : IntS (w.setCell p v) a l := by
  refine ⟨h.big, ?_⟩
  rcases h.ok with h0 | ⟨b, o, ha, hc⟩
  · exact .inl h0
  · have hne := hp b o ha
    have hk : ∀ j, (w.setCell p v).cell? ⟨b, j, none⟩ = w.cell? ⟨b, j, none⟩ := fun j => World.cell?_setCell_other w p _ v (fun e => hne (by rw [e]))
    exact .inr ⟨b, o, ha, fun i hi => by rw [hk]; exact hc i hi⟩
end Go.Proofs.Ytmeidjhojanogaa

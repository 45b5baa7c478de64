/- Slices of events and of ints; contracts: may, two. -/
import Derived.Test.YtmeidjhojanogaaDoorTrC
import Derived.Test.YtmeidjhojanogaaDoorTrP
import Derived.Test.YtmeidjhojanogaaDoorLists
import Derived.Test.YtmeidjhojanogaaDoorLst
import Derived.Maps.AppendAt
namespace Go.Proofs.YtmeidjhojanogaaDoor
open Go.RowKit

/-- The cells of a list of events. -/
def evL (l : List Ev) : List Value := l.flatMap fun e => [.int .i64 e.k, .int .i64 e.t, .int .i64 e.o]
theorem evL_append (l m : List Ev) : evL (l ++ m) = evL l ++ evL m := by simp [evL]
theorem evL_length (l : List Ev) : (evL l).length = l.length * 3 := by
  induction l with
  | nil => rfl
  | cons e l ih => simp [evL] at *; omega
theorem evL_get (l : List Ev) : ∀ (i : Nat) (h : i < l.length), (evL l)[i * 3]? = some (.int .i64 l[i].k) ∧ (evL l)[i * 3 + 1]? = some (.int .i64 l[i].t) ∧ (evL l)[i * 3 + 2]? = some (.int .i64 l[i].o) := by
  induction l with
  | nil => intro i h; simp at h
  | cons e l ih =>
    intro i h
    have hc : evL (e :: l) = .int .i64 e.k :: .int .i64 e.t :: .int .i64 e.o :: evL l := rfl
    cases i with
    | zero => simp [hc]
    | succ i =>
      obtain ⟨h1, h2, h3⟩ := ih i (by simpa using h)
      rw [hc, show (i + 1) * 3 = i * 3 + 1 + 1 + 1 by omega]
      simp only [List.getElem?_cons_succ, List.getElem_cons_succ]
      exact ⟨h1, h2, h3⟩

/-- A slice of events that owns its cells reads as its list. -/
theorem evS_own {w : World} {base : Nat} {e : TypeId} {v : Value} {l : List Ev} (h : w.ownsRow base e 3 v l.length (evL l)) (hb : l.length < 4611686018427387904) : ∃ a c, v = .slice a l.length c ∧ EvS w a l ∧ (∀ k, v.ownBlock = some k → base ≤ k) := by
  have hlt := h.lt
  rcases h.2 with ⟨rfl, hn⟩ | ⟨g, cap, cur, rfl, hg, hh, _⟩
  · exact ⟨none, 0, by rw [hn], ⟨hb, .inl (List.eq_nil_of_length_eq_zero hn)⟩, fun k hk => (hlt k hk).1⟩
  · refine ⟨_, _, rfl, ⟨hb, .inr ⟨g, 0, rfl, fun i hi => ?_⟩⟩, fun k hk => (hlt k hk).1⟩
    have hc := h.cells (g := g) rfl
    obtain ⟨h1, h2, h3⟩ := evL_get l i hi
    have e1 := hc _ _ h1
    have e2 := hc _ _ h2
    have e3 := hc _ _ h3
    have hadd : ∀ n, (⟨g, 0, none⟩ : Addr).add n = ⟨g, 0 + n, none⟩ := by intro n; unfold Addr.add; split <;> simp_all
    rw [hadd] at e1 e2 e3
    exact ⟨e1, e2, e3⟩
theorem intS_own {w : World} {base : Nat} {e : TypeId} {v : Value} {l : List Int} (h : w.ownsRow base e 1 v l.length (l.map fun n => Value.int .i64 n)) (hb : l.length < 4611686018427387904) : ∃ a c, v = .slice a l.length c ∧ IntS w a l ∧ (∀ k, v.ownBlock = some k → base ≤ k) := by
  have hlt := h.lt
  rcases h.2 with ⟨rfl, hn⟩ | ⟨g, cap, cur, rfl, hg, hh, _⟩
  · exact ⟨none, 0, by rw [hn], ⟨hb, .inl (List.eq_nil_of_length_eq_zero hn)⟩, fun k hk => (hlt k hk).1⟩
  · refine ⟨_, _, rfl, ⟨hb, .inr ⟨g, 0, rfl, fun i hi => ?_⟩⟩, fun k hk => (hlt k hk).1⟩
    have e1 := h.cells (g := g) rfl i (.int .i64 l[i]) (by simp [hi])
    have hadd : ∀ n, (⟨g, 0, none⟩ : Addr).add n = ⟨g, 0 + n, none⟩ := by intro n; unfold Addr.add; split <;> simp_all
    rw [hadd] at e1
    exact e1
/-- A row that is wholly full is owned. -/
theorem own_full {w : World} {base e : Nat} {size n : Nat} {cs : Array Value} {g : Nat} (h : Has w g cs e) (hb : base ≤ g) (hs : cs.size = n * size) (hn : n ≤ maxLen) : w.ownsRow base e size (.slice (some ⟨g, 0, none⟩) n n) n cs.toList :=
  ⟨by simpa using hs, .inr ⟨g, n, cs, rfl, hb, h.out, Nat.le_refl _, hn, hs, by rw [List.take_of_length_le (by simp [hs])]⟩⟩

theorem may_any (l : List Ev) (a : Option Addr) (c : Nat) (w : World) (h : EvS w a l) :
    Calls Tryd.prog 13 #[.slice a l.length c] w fun r w' => r = .returned (.bool (mayB l)) ∧ Below w.heap.size w w' := by
  go_enter Tryd.func13, Tryd.ntmps13
  go_wp2_with fail
  refine (check_any l a c _ h).mono ?_
  rintro r w' ⟨rfl, hb⟩
  go_wp2
  go_ret
  exact ⟨rfl, hb⟩

/-- The trace of the closed facts. -/
def twoL : List Ev := [⟨5, 0, 1⟩, ⟨2, 0, 0⟩, ⟨2, 1, 0⟩]
theorem two_any (w : World) : Calls Tryd.prog 22 #[] w fun r w' => r = .returned (.slice (some ⟨w.heap.size, 0, none⟩) 3 3) ∧ Has w' w.heap.size (evL twoL).toArray 30 ∧ Below w.heap.size w w' := by
  go_enter Tryd.func22, Tryd.ntmps22
  go_wp2
  go_ret
  exact ⟨rfl, (Has.new w _ _).to rfl, (Below.refl _ _).alloc (by simp) _⟩
theorem infoI : (Tryd.prog.info? 3).map (fun i => (i.zero, i.size, i.bytes)) = some (some (.int .i64 0), 1, 8) := by kernel_rfl

/-- A slice of ints that is wholly full reads as its list. -/
theorem intS_full {w : World} {g : Nat} {cs : Array Value} {l : List Int} {e : TypeId} (h : Has w g cs e) (hc : cs = (ints l).toArray) (hb : l.length < 4611686018427387904) : IntS w (some ⟨g, 0, none⟩) l :=
  ⟨hb, .inr ⟨g, 0, rfl, fun i hi => by rw [Nat.zero_add]; exact h.cell (by subst hc; simp [hi])⟩⟩
theorem evS_full {w : World} {g : Nat} {cs : Array Value} {l : List Ev} {e : TypeId} (h : Has w g cs e) (hc : cs = (evL l).toArray) (hb : l.length < 4611686018427387904) : EvS w (some ⟨g, 0, none⟩) l :=
  ⟨hb, .inr ⟨g, 0, rfl, fun i hi => by
    obtain ⟨h1, h2, h3⟩ := evL_get l i hi
    subst hc
    rw [Nat.zero_add]
    exact ⟨h.cell (by simpa using h1), h.cell (by simpa using h2), h.cell (by simpa using h3)⟩⟩⟩
theorem infoE : (Tryd.prog.info? 30).map (fun i => (i.zero, i.size, i.bytes)) = some (some (evV ⟨0, 0, 0⟩), 3, 24) := by kernel_rfl

theorem EvS.take {w : World} {a : Option Addr} {l : List Ev} (h : EvS w a l) (n : Nat) : EvS w a (l.take n) := by
  refine ⟨by have := h.big; simp; omega, ?_⟩
  rcases h.ok with h0 | ⟨b, o, ha, hc⟩
  · left; simp [h0]
  · right
    refine ⟨b, o, ha, fun i hi => ?_⟩
    rw [List.getElem_take]
    exact hc i (by simp at hi; omega)
theorem may_n (l : List Ev) (n : Nat) (hn : l.length = n) (a : Option Addr) (c : Nat) (w : World) (h : EvS w a l) :
    Calls Tryd.prog 13 #[.slice a n c] w fun r w' => r = .returned (.bool (mayB l)) ∧ Below w.heap.size w w' := by
  subst hn; exact may_any l a c w h
theorem check_n (l : List Ev) (n : Nat) (hn : l.length = n) (a : Option Addr) (c : Nat) (w : World) (h : EvS w a l) :
    Calls Tryd.prog 23 #[.slice a n c] w fun r w' => r = .returned (.tuple #[.int .i64 (played l).2.1, .int .i64 (played l).2.2]) ∧ Below w.heap.size w w' := by
  subst hn; exact check_any l a c w h
end Go.Proofs.YtmeidjhojanogaaDoor

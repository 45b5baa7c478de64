/- Joined texts. -/
import Derived.Test.YtfjbnhacfficnaaGreatDoorZA
import Derived.Test.YtfjbnhacfficnaaGreatDoorZEA

/- A valid trace, by places: the world behind the first i events; locks, forks, joins. No program. -/
namespace Go.Proofs.YtfjbnhacfficnaaGreatDoor

/-- The world behind the first i events. -/
def stFrom (s : St) (l : List Ev) (i : Nat) : St := (l.take i).foldl nxt s
abbrev stAt (l : List Ev) (i : Nat) : St := stFrom St.first l i
theorem evAt_lt {l : List Ev} {i : Nat} (h : i < l.length) : evAt l i = l[i] := by simp [evAt, h]
theorem stFrom_succ (s : St) (l : List Ev) (i : Nat) (h : i < l.length) : stFrom s l (i + 1) = nxt (stFrom s l i) (evAt l i) := by
  rw [evAt_lt h, stFrom, List.take_add_one, List.getElem?_eq_getElem h, Option.toList_some, List.foldl_append]
  rfl
theorem playL_at : ∀ (l : List Ev) (s : St) (c : Nat), (playL s c l).2.2 = 0 → (∀ i, i < l.length → err (stFrom s l i) (evAt l i) = 0) ∧ (playL s c l).1 = stFrom s l l.length := by
  intro l
  induction l with
  | nil => intro s c _; exact ⟨fun i hi => by simp at hi, rfl⟩
  | cons e l ih =>
    intro s c h
    simp only [playL] at h ⊢
    by_cases he : err s e = 0
    · rw [if_pos he] at h ⊢
      obtain ⟨h1, h2⟩ := ih _ _ h
      refine ⟨fun i hi => ?_, by rw [h2]; simp [stFrom]⟩
      cases i with
      | zero => exact he
      | succ i =>
        have := h1 i (by simpa using hi)
        simpa [stFrom, evAt] using this
    · rw [if_neg he] at h
      exact absurd h he
theorem ok_at {l : List Ev} (h : (played l).2.2 = 0) : (∀ i, i < l.length → err (stAt l i) (evAt l i) = 0) ∧ (played l).1 = stAt l l.length := by
  have hl := (played_evs h).1
  rw [played_small hl] at h ⊢
  exact playL_at l _ _ h
theorem nxt_over {s : St} {e : Ev} {j : Nat} (h : s.over j = true) : (nxt s e).over j = true := by
  unfold nxt
  repeat' split
  all_goals first | exact h | (simp only [updB]; split <;> first | rfl | exact h)
theorem begun_mono {l : List Ev} {i j x : Nat} (hij : i ≤ j) (hj : j ≤ l.length) (h : (stAt l i).begun x = true) : (stAt l j).begun x = true := by
  induction j with
  | zero => obtain rfl : i = 0 := by omega
            exact h
  | succ j ih =>
    by_cases e : i = j + 1
    · subst e; exact h
    · rw [stAt, stFrom_succ _ _ _ (by omega)]
      exact nxt_begun (ih (by omega) (by omega))
theorem over_mono {l : List Ev} {i j x : Nat} (hij : i ≤ j) (hj : j ≤ l.length) (h : (stAt l i).over x = true) : (stAt l j).over x = true := by
  induction j with
  | zero => obtain rfl : i = 0 := by omega
            exact h
  | succ j ih =>
    by_cases e : i = j + 1
    · subst e; exact h
    · rw [stAt, stFrom_succ _ _ _ (by omega)]
      exact nxt_over (ih (by omega) (by omega))
theorem ev_at {l : List Ev} (h : (played l).2.2 = 0) {i : Nat} (hi : i < l.length) : 0 ≤ (evAt l i).t ∧ (evAt l i).t < 6 ∧ 0 ≤ (evAt l i).o ∧ (evAt l i).o < manyOf (evAt l i).k :=
  isEv_iff.1 (err0 ((ok_at h).1 i hi)).1
/-- A Fork is ahead of the events of its thread; the events of a thread are ahead of a Join. -/
theorem fork_lt {l : List Ev} (h : (played l).2.2 = 0) {i j : Nat} (hi : i < l.length) (hj : j < l.length) (hk : (evAt l i).k = 5) (ht : (evAt l j).t = (evAt l i).o) : i < j := by
  have e1 := (err0 ((ok_at h).1 i hi)).2.2.2.2.2.1 hk
  have e2 := (err0 ((ok_at h).1 j hj)).2.1
  rw [ht] at e2
  by_cases hij : i < j
  · exact hij
  · rw [begun_mono (show j ≤ i by omega) (by omega) e2] at e1; cases e1
theorem join_lt {l : List Ev} (h : (played l).2.2 = 0) {i j : Nat} (hi : i < l.length) (hj : j < l.length) (hk : (evAt l i).k = 6) (ht : (evAt l j).t = (evAt l i).o) : j < i := by
  have e1 := ((err0 ((ok_at h).1 i hi)).2.2.2.2.2.2 hk).2
  have e2 := (err0 ((ok_at h).1 j hj)).2.2.1
  rw [ht] at e2
  by_cases hij : i < j
  · have e3 : (stAt l (i + 1)).over (evAt l i).o.toNat = true := by
      rw [stAt, stFrom_succ _ _ _ hi]
      simp [nxt, hk, updB]
    rw [over_mono (show i + 1 ≤ j by omega) (by omega) e3] at e2; cases e2
  · by_cases e : i = j
    · subst e; exact absurd ht.symm e1
    · omega
/-- The last event of a lock, from place i on, below place m. -/
theorem lock_step {s : St} {e : Ev} {o : Int} (ho : 0 ≤ o) (he : 0 ≤ e.o) (h : ¬ ((e.k = 3 ∨ e.k = 4) ∧ e.o = o)) : (nxt s e).owner o.toNat = s.owner o.toNat := by
  unfold nxt
  have hne : e.k = 3 ∨ e.k = 4 → ¬ o.toNat = e.o.toNat := fun hk hh => h ⟨hk, by omega⟩
  split
  · rename_i hk; simp only [updI, if_neg (hne (.inl hk))]
  · split
    · rename_i hk; simp only [updI, if_neg (hne (.inr hk))]
    · split
      · rfl
      · split <;> rfl
theorem lock_own {s : St} {e : Ev} (h : e.k = 3 ∨ e.k = 4) : (nxt s e).owner e.o.toNat = if e.k = 3 then e.t + 1 else 0 := by
  unfold nxt
  rcases h with h | h <;> simp [h, updI]
end Go.Proofs.YtfjbnhacfficnaaGreatDoor

/- Races, plain. No program. -/
namespace Go.Proofs.YtfjbnhacfficnaaGreatDoor

/-- A race. -/
structure Rc where
  a : Int
  b : Int
  v : Int
  k : Int
deriving DecidableEq
def isAccR (e : Ev) : Bool := decide (e.k = 1) || decide (e.k = 2)
theorem isAccR_iff {e : Ev} : isAccR e = true ↔ e.k = 1 ∨ e.k = 2 := by simp [isAccR]
def kindR (a b : Ev) : Int := if a.k = 2 ∧ b.k = 2 then 1 else if a.k = 2 then 2 else if b.k = 2 then 3 else 0
/-- Do two places race, the first one ahead in the trace? -/
def raceB (l : List Ev) (i j : Nat) : Bool :=
  isAccR (evAt l i) && isAccR (evAt l j) && decide ((evAt l i).o = (evAt l j).o) && !R l j i && (decide ((evAt l i).k = 2) || decide ((evAt l j).k = 2))
theorem raceB_iff {l : List Ev} {i j : Nat} : raceB l i j = true ↔ isAccR (evAt l i) = true ∧ isAccR (evAt l j) = true ∧ (evAt l i).o = (evAt l j).o ∧ R l j i = false ∧ ((evAt l i).k = 2 ∨ (evAt l j).k = 2) := by
  simp [raceB, and_assoc]
def raceOf (l : List Ev) (i j : Nat) : Rc := ⟨i, j, (evAt l i).o, kindR (evAt l i) (evAt l j)⟩
/-- The races with first place i and a second one below j; with a first place below i. -/
def rowR (l : List Ev) (i j : Nat) : List Rc := ((List.range j).filter fun k => decide (i < k) && raceB l i k).map fun k => raceOf l i k
def allR (l : List Ev) (n i : Nat) : List Rc := (List.range i).flatMap fun a => rowR l a n
abbrev raceL (l : List Ev) : List Rc := allR l l.length l.length
theorem rowR_start (l : List Ev) (i : Nat) : rowR l i (i + 1) = [] := by
  simp [rowR, List.filter_eq_nil_iff]
  intro a ha h; omega
theorem rowR_yes {l : List Ev} {i j : Nat} (h : i < j) (hH : raceB l i j = true) : rowR l i (j + 1) = rowR l i j ++ [raceOf l i j] := by
  simp [rowR, List.range_succ, List.filter_append, h, hH]
theorem rowR_no {l : List Ev} {i j : Nat} (hH : raceB l i j = false) : rowR l i (j + 1) = rowR l i j := by
  simp [rowR, List.range_succ, List.filter_append, hH]
theorem allR_succ (l : List Ev) (n i : Nat) : allR l n (i + 1) = allR l n i ++ rowR l i n := by
  simp [allR, List.range_succ]
theorem rowR_len (l : List Ev) (i j : Nat) : (rowR l i j).length ≤ j := by
  simpa [rowR] using List.length_filter_le (fun k => decide (i < k) && raceB l i k) (List.range j)
theorem allR_len (l : List Ev) (n : Nat) : ∀ i, (allR l n i).length ≤ i * n
  | 0 => by simp [allR]
  | i + 1 => by
    rw [allR_succ, List.length_append, Nat.succ_mul]
    have := allR_len l n i
    have := rowR_len l i n
    omega
theorem mem_raceL {l : List Ev} {r : Rc} : r ∈ raceL l ↔ ∃ i j : Nat, r = raceOf l i j ∧ i < j ∧ j < l.length ∧ raceB l i j = true := by
  simp only [raceL, allR, List.mem_flatMap, List.mem_range, rowR, List.mem_map, List.mem_filter, Bool.and_eq_true, decide_eq_true_eq]
  constructor
  · rintro ⟨a, ha, k, ⟨h1, h2, h3⟩, rfl⟩
    exact ⟨a, k, rfl, h2, h1, h3⟩
  · rintro ⟨i, j, rfl, h1, h2, h3⟩
    exact ⟨i, by omega, j, ⟨h2, h1, h3⟩, rfl⟩
/-- The value, the cells of a race; the cells of a list. -/
abbrev rcC (r : Rc) : Array Value := #[.int .i64 r.a, .int .i64 r.b, .int .i64 r.v, .int .i64 r.k]
abbrev rcV (r : Rc) : Value := .agg (rcC r)
def rcL (l : List Rc) : List Value := l.flatMap fun r => [.int .i64 r.a, .int .i64 r.b, .int .i64 r.v, .int .i64 r.k]
theorem rcL_append (l m : List Rc) : rcL (l ++ m) = rcL l ++ rcL m := by simp [rcL]
theorem rcL_length (l : List Rc) : (rcL l).length = l.length * 4 := by
  induction l with
  | nil => rfl
  | cons e l ih => simp [rcL] at *; omega
theorem rcL_get (l : List Rc) : ∀ (i : Nat) (h : i < l.length), (rcL l)[i * 4]? = some (.int .i64 l[i].a) ∧ (rcL l)[i * 4 + 1]? = some (.int .i64 l[i].b) ∧ (rcL l)[i * 4 + 2]? = some (.int .i64 l[i].v) ∧ (rcL l)[i * 4 + 3]? = some (.int .i64 l[i].k) := by
  induction l with
  | nil => intro i h; simp at h
  | cons e l ih =>
    intro i h
    have hc : rcL (e :: l) = .int .i64 e.a :: .int .i64 e.b :: .int .i64 e.v :: .int .i64 e.k :: rcL l := rfl
    cases i with
    | zero => simp [hc]
    | succ i =>
      obtain ⟨h1, h2, h3, h4⟩ := ih i (by simpa using h)
      rw [hc, show (i + 1) * 4 = i * 4 + 1 + 1 + 1 + 1 by omega]
      simp only [List.getElem?_cons_succ, List.getElem_cons_succ]
      exact ⟨h1, h2, h3, h4⟩
theorem rcL_one (l : List Rc) : ∀ u ∈ rcL l, u.oneCell' = true := by
  intro u hu
  simp only [rcL, List.mem_flatMap] at hu
  obtain ⟨e, _, he⟩ := hu
  simp at he
  rcases he with rfl | rfl | rfl | rfl <;> rfl
/-- A slice of races: its elements read as a list. -/
structure RcS (w : World) (a : Option Addr) (l : List Rc) : Prop where
  big : l.length < 4611686018427387904
  ok : l = [] ∨ ∃ b o, a = some ⟨b, o, none⟩ ∧ ∀ i (h : i < l.length), w.cell? ⟨b, o + i * 4, none⟩ = some (.int .i64 l[i].a) ∧ w.cell? ⟨b, o + i * 4 + 1, none⟩ = some (.int .i64 l[i].b) ∧ w.cell? ⟨b, o + i * 4 + 2, none⟩ = some (.int .i64 l[i].v) ∧ w.cell? ⟨b, o + i * 4 + 3, none⟩ = some (.int .i64 l[i].k)
theorem RcS.below {w w' : World} {a : Option Addr} {l : List Rc} (h : RcS w a l) (k : Go.RowKit.Below w.heap.size w w') : RcS w' a l := by
  refine ⟨h.big, ?_⟩
  rcases h.ok with h0 | ⟨b, o, ha, hc⟩
  · exact .inl h0
  · refine .inr ⟨b, o, ha, fun i hi => ?_⟩
    obtain ⟨h1, h2, h3, h4⟩ := hc i hi
    exact ⟨(k.cell (World.block_lt_of_cell? w _ h1)).trans h1, (k.cell (World.block_lt_of_cell? w _ h2)).trans h2, (k.cell (World.block_lt_of_cell? w _ h3)).trans h3, (k.cell (World.block_lt_of_cell? w _ h4)).trans h4⟩
theorem RcS.at {w : World} {a : Option Addr} {l : List Rc} (h : RcS w a l) {i : Nat} (hi : i < l.length) : ∃ b o, a = some ⟨b, o, none⟩ ∧ w.cell? ⟨b, o + i * 4, none⟩ = some (.int .i64 l[i].a) ∧ w.cell? ⟨b, o + i * 4 + 1, none⟩ = some (.int .i64 l[i].b) ∧ w.cell? ⟨b, o + i * 4 + 2, none⟩ = some (.int .i64 l[i].v) ∧ w.cell? ⟨b, o + i * 4 + 3, none⟩ = some (.int .i64 l[i].k) := by
  rcases h.ok with h0 | ⟨b, o, ha, hc⟩
  · simp [h0] at hi
  · exact ⟨b, o, ha, hc i hi⟩
theorem rcS_own {w : World} {base : Nat} {e : TypeId} {v : Value} {l : List Rc} (h : w.ownsRow base e 4 v l.length (rcL l)) (hb : l.length < 4611686018427387904) : ∃ a c, v = .slice a l.length c ∧ RcS w a l := by
  rcases h.2 with ⟨rfl, hn⟩ | ⟨g, cap, cur, rfl, hg, hh, _⟩
  · exact ⟨none, 0, by rw [hn], ⟨hb, .inl (List.eq_nil_of_length_eq_zero hn)⟩⟩
  · refine ⟨_, _, rfl, ⟨hb, .inr ⟨g, 0, rfl, fun i hi => ?_⟩⟩⟩
    have hc := h.cells (g := g) rfl
    obtain ⟨h1, h2, h3, h4⟩ := rcL_get l i hi
    have e1 := hc _ _ h1
    have e2 := hc _ _ h2
    have e3 := hc _ _ h3
    have e4 := hc _ _ h4
    have hadd : ∀ n, (⟨g, 0, none⟩ : Addr).add n = ⟨g, 0 + n, none⟩ := by intro n; unfold Addr.add; split <;> simp_all
    rw [hadd] at e1 e2 e3 e4
    exact ⟨e1, e2, e3, e4⟩
theorem rcS_full {w : World} {g : Nat} {cs : Array Value} {l : List Rc} {e : TypeId} (h : Has w g cs e) (hc : cs = (rcL l).toArray) (hb : l.length < 4611686018427387904) : RcS w (some ⟨g, 0, none⟩) l :=
  ⟨hb, .inr ⟨g, 0, rfl, fun i hi => by
    obtain ⟨h1, h2, h3, h4⟩ := rcL_get l i hi
    subst hc
    rw [Nat.zero_add]
    exact ⟨h.cell (by simpa using h1), h.cell (by simpa using h2), h.cell (by simpa using h3), h.cell (by simpa using h4)⟩⟩⟩
end Go.Proofs.YtfjbnhacfficnaaGreatDoor

/- All events of one lock are ordered. No program. -/
namespace Go.Proofs.YtfjbnhacfficnaaGreatDoor

def isLk (e : Ev) : Bool := decide (e.k = 3) || decide (e.k = 4)
theorem isLk_iff {e : Ev} : isLk e = true ↔ e.k = 3 ∨ e.k = 4 := by simp [isLk]
theorem lock_last {l : List Ev} (h : (played l).2.2 = 0) {i : Nat} (hi : i < l.length) (hk : isLk (evAt l i) = true) :
    ∀ m, i < m → m ≤ l.length → ∃ q, i ≤ q ∧ q < m ∧ isLk (evAt l q) = true ∧ (evAt l q).o = (evAt l i).o ∧ (q = i ∨ R l q i = true) ∧ (∀ p, q < p → p < m → ¬ (isLk (evAt l p) = true ∧ (evAt l p).o = (evAt l i).o)) ∧ (stAt l m).owner (evAt l i).o.toNat = if (evAt l q).k = 3 then (evAt l q).t + 1 else 0 := by
  intro m
  induction m with
  | zero => intro h; omega
  | succ m ih =>
    intro him hml
    have hm : m < l.length := by omega
    rw [stAt, stFrom_succ _ _ _ hm]
    by_cases e : m = i
    · subst e
      exact ⟨m, Nat.le_refl _, by omega, hk, rfl, .inl rfl, fun p h1 h2 => by omega, lock_own (isLk_iff.1 hk)⟩
    · obtain ⟨q, h1, h2, h3, h4, h5, h7, h6⟩ := ih (by omega) (by omega)
      by_cases hl : isLk (evAt l m) = true ∧ (evAt l m).o = (evAt l i).o
      · refine ⟨m, by omega, by omega, hl.1, hl.2, .inr ?_, fun p h1 h2 => by omega, by rw [← hl.2]; exact lock_own (isLk_iff.1 hl.1)⟩
        have hd : R l m q = true := by
          refine R_dir (by omega) (dirE_iff.2 ?_)
          have ho : (evAt l q).o = (evAt l m).o := h4.trans hl.2.symm
          have er := err0 ((ok_at h).1 m hm)
          have b1 := ev_at h hm
          have b2 := ev_at h (show q < l.length by omega)
          rw [hl.2] at er
          rcases isLk_iff.1 hl.1 with k3 | k4
          · have e1 := er.2.2.2.1 k3
            rw [h6] at e1
            by_cases kq : (evAt l q).k = 3
            · rw [if_pos kq] at e1; omega
            · have kq4 : (evAt l q).k = 4 := by rcases isLk_iff.1 h3 with h | h; exact absurd h kq; exact h
              exact .inr (.inl ⟨.inl ⟨kq4, k3⟩, ho⟩)
          · have e1 := er.2.2.2.2.1 k4
            rw [h6] at e1
            by_cases kq : (evAt l q).k = 3
            · rw [if_pos kq] at e1; exact .inl (by omega)
            · rw [if_neg kq] at e1; omega
        rcases h5 with rfl | h5
        · exact hd
        · exact R_trans hd h5
      · refine ⟨q, h1, by omega, h3, h4, h5, ?_, ?_⟩
        · intro p p1 p2
          by_cases e : p = m
          · subst e; exact hl
          · exact h7 p p1 (by omega)
        rw [← h6]
        exact lock_step (ev_at h hi).2.2.1 (ev_at h hm).2.2.1 (fun hh => hl ⟨isLk_iff.2 hh.1, hh.2⟩)
theorem locks_ordered {l : List Ev} (h : (played l).2.2 = 0) {i j : Nat} (hij : i < j) (hj : j < l.length) (hi : isLk (evAt l i) = true) (hk : isLk (evAt l j) = true) (ho : (evAt l i).o = (evAt l j).o) : R l j i = true := by
  obtain ⟨q, h1, h2, h3, h4, h5, h7, h6⟩ := lock_last h (show i < l.length by omega) hi (j + 1) (by omega) (by omega)
  by_cases e : q = j
  · subst e
    rcases h5 with rfl | h5
    · omega
    · exact h5
  · exact absurd ⟨hk, ho.symm⟩ (h7 j (by omega) (by omega))
end Go.Proofs.YtfjbnhacfficnaaGreatDoor

/- Plain laws of races: prefixes; one thread; reads; one lock. No program. -/
namespace Go.Proofs.YtfjbnhacfficnaaGreatDoor

theorem rowR_filter (l : List Ev) (i n : Nat) : ∀ m, n ≤ m → (rowR l i m).filter (fun r => decide (r.b < (n : Int))) = rowR l i n := by
  intro m
  induction m with
  | zero => intro h; obtain rfl : n = 0 := by omega
            rfl
  | succ m ih =>
    intro h
    by_cases e : n = m + 1
    · subst e
      rw [List.filter_eq_self]
      intro r hr
      simp only [rowR, List.mem_map, List.mem_filter, List.mem_range] at hr
      obtain ⟨k, ⟨hk, _⟩, rfl⟩ := hr
      have : (k : Int) < ((m + 1 : Nat) : Int) := by omega
      exact decide_eq_true this
    · have hn : n ≤ m := by omega
      by_cases hc : i < m ∧ raceB l i m = true
      · rw [rowR_yes hc.1 hc.2, List.filter_append, ih hn]
        have : ¬ (m : Int) < n := by omega
        simp [raceOf, this]
      · have hz : rowR l i (m + 1) = rowR l i m := by
          simp only [rowR, List.range_succ, List.filter_append, List.map_append]
          have : (decide (i < m) && raceB l i m) = false := by
            rw [Bool.eq_false_iff]
            simpa using hc
          simp [this]
        rw [hz, ih hn]
theorem allR_filter (l : List Ev) (m n i : Nat) (h : n ≤ m) : (allR l m i).filter (fun r => decide (r.b < (n : Int))) = allR l n i := by
  rw [allR, List.filter_flatMap]
  unfold allR
  congr 1
  funext a
  exact rowR_filter l a n m h
theorem rowR_none (l : List Ev) {i n : Nat} (h : n ≤ i + 1) : rowR l i n = [] := by
  simp only [rowR, List.map_eq_nil_iff, List.filter_eq_nil_iff, List.mem_range]
  intro k hk
  simp; omega
theorem allR_top (l : List Ev) (n : Nat) : ∀ i, n ≤ i → allR l n i = allR l n n := by
  intro i
  induction i with
  | zero => intro h; obtain rfl : n = 0 := by omega
            rfl
  | succ i ih =>
    intro h
    by_cases e : n = i + 1
    · subst e; rfl
    · rw [allR_succ, rowR_none l (by omega), List.append_nil, ih (by omega)]
theorem raceB_take (l : List Ev) {n i k : Nat} (hi : i < k) (hk : k < n) : raceB (l.take n) i k = raceB l i k := by
  simp only [raceB, evAt_take l n i (by omega), evAt_take l n k hk, R_take l n k i hk]
theorem raceOf_take (l : List Ev) {n i k : Nat} (hi : i < k) (hk : k < n) : raceOf (l.take n) i k = raceOf l i k := by
  simp only [raceOf, evAt_take l n i (by omega), evAt_take l n k hk]
theorem rowR_take (l : List Ev) (n i : Nat) : ∀ m, m ≤ n → rowR (l.take n) i m = rowR l i m := by
  intro m
  induction m with
  | zero => intro _; rfl
  | succ m ih =>
    intro hm
    by_cases hi : i < m
    · cases hb : raceB l i m
      · rw [rowR_no hb, rowR_no (by rw [raceB_take l hi (by omega)]; exact hb), ih (by omega)]
      · rw [rowR_yes hi hb, rowR_yes hi (by rw [raceB_take l hi (by omega)]; exact hb), ih (by omega), raceOf_take l hi (by omega)]
    · rw [rowR_none _ (by omega), rowR_none _ (by omega)]
/-- The races of a prefix are those whose second place is in it. -/
theorem raceL_take (l : List Ev) (n : Nat) (h : n ≤ l.length) : raceL (l.take n) = (raceL l).filter fun r => decide (r.b < (n : Int)) := by
  have hl : (l.take n).length = n := by simp; omega
  rw [raceL, hl, allR_filter l l.length n l.length h, allR_top l n l.length h]
  unfold allR
  congr 1
  funext a
  exact rowR_take l n a n (Nat.le_refl _)
theorem raceL_nil {l : List Ev} (h : ∀ i j, i < j → j < l.length → raceB l i j = false) : raceL l = [] := by
  rw [List.eq_nil_iff_forall_not_mem]
  intro r hr
  obtain ⟨i, j, _, h1, h2, h3⟩ := mem_raceL.1 hr
  rw [h i j h1 h2] at h3; cases h3
/-- Of one thread nothing races. -/
theorem raceL_one {l : List Ev} (h : ∀ e ∈ l, e.t = 0) : raceL l = [] := by
  refine raceL_nil fun i j hij hj => ?_
  have hi : (evAt l i).t = 0 := by rw [evAt_lt (show i < l.length by omega)]; exact h _ (List.getElem_mem _)
  have hjt : (evAt l j).t = 0 := by rw [evAt_lt hj]; exact h _ (List.getElem_mem _)
  have hR : R l j i = true := R_dir hij (dirE_iff.2 (.inl (by rw [hi, hjt])))
  simp [raceB, hR]
/-- Reads do not race. -/
theorem raceL_reads {l : List Ev} (h : ∀ e ∈ l, e.k ≠ 2) : raceL l = [] := by
  refine raceL_nil fun i j hij hj => ?_
  have hi : (evAt l i).k ≠ 2 := by rw [evAt_lt (show i < l.length by omega)]; exact h _ (List.getElem_mem _)
  have hjt : (evAt l j).k ≠ 2 := by rw [evAt_lt hj]; exact h _ (List.getElem_mem _)
  simp [raceB, hi, hjt]
/-- Two events of threads that have one lock are ordered. -/
theorem held_ordered {l : List Ev} (h : (played l).2.2 = 0) {i j o : Nat} (hij : i < j) (hj : j < l.length) (hi : (stAt l i).owner o = (evAt l i).t + 1) (hk : (stAt l j).owner o = (evAt l j).t + 1) : R l j i = true := by
  have key : ∀ m, i ≤ m → m ≤ l.length → ((stAt l m).owner o = (evAt l i).t + 1 ∧ True) ∨ ∃ q, i ≤ q ∧ q < m ∧ isLk (evAt l q) = true ∧ (evAt l q).o = o ∧ (q = i ∨ R l q i = true) ∧ (stAt l m).owner o = if (evAt l q).k = 3 then (evAt l q).t + 1 else 0 := by
    intro m
    induction m with
    | zero => intro h1 _; obtain rfl : i = 0 := by omega
              exact .inl ⟨hi, trivial⟩
    | succ m ih =>
      intro him hml
      have hm : m < l.length := by omega
      by_cases e : i = m + 1
      · subst e; exact .inl ⟨hi, trivial⟩
      · have bi := ev_at h (show i < l.length by omega)
        have bm := ev_at h hm
        rw [stAt, stFrom_succ _ _ _ hm]
        by_cases hl : isLk (evAt l m) = true ∧ (evAt l m).o = o
        · have er := err0 ((ok_at h).1 m hm)
          have hon : (evAt l m).o.toNat = o := by have := hl.2; omega
          have ihm := ih (by omega) (by omega)
          refine .inr ⟨m, by omega, by omega, hl.1, hl.2, ?_, by rw [← hon]; exact lock_own (isLk_iff.1 hl.1)⟩
          by_cases e2 : m = i
          · exact .inl e2
          · right
            rw [hon] at er
            rcases ihm with ⟨h1, _⟩ | ⟨q, h1, h2, h3, h4, h5, h6⟩
            · rcases isLk_iff.1 hl.1 with k3 | k4
              · have := er.2.2.2.1 k3
                omega
              · have := er.2.2.2.2.1 k4
                exact R_dir (by omega) (dirE_iff.2 (.inl (by omega)))
            · have bq := ev_at h (show q < l.length by omega)
              have hd : R l m q = true := by
                refine R_dir h2 (dirE_iff.2 ?_)
                rcases isLk_iff.1 hl.1 with k3 | k4
                · have e1 := er.2.2.2.1 k3
                  rw [h6] at e1
                  by_cases kq : (evAt l q).k = 3
                  · rw [if_pos kq] at e1; omega
                  · have kq4 : (evAt l q).k = 4 := by rcases isLk_iff.1 h3 with h | h; exact absurd h kq; exact h
                    exact .inr (.inl ⟨.inl ⟨kq4, k3⟩, by omega⟩)
                · have e1 := er.2.2.2.2.1 k4
                  rw [h6] at e1
                  by_cases kq : (evAt l q).k = 3
                  · rw [if_pos kq] at e1; exact .inl (by omega)
                  · rw [if_neg kq] at e1; omega
              rcases h5 with rfl | h5
              · exact hd
              · exact R_trans hd h5
        · have hst : (nxt (stFrom St.first l m) (evAt l m)).owner o = (stFrom St.first l m).owner o := by
            have := lock_step (s := stFrom St.first l m) (e := evAt l m) (o := (o : Int)) (by omega) bm.2.2.1 (fun hh => hl ⟨isLk_iff.2 hh.1, hh.2⟩)
            simpa using this
          rw [hst]
          have ihm := ih (by omega) (by omega)
          rcases ihm with ⟨h1, _⟩ | ⟨q, h1, h2, h3, h4, h5, h6⟩
          · exact .inl ⟨h1, trivial⟩
          · exact .inr ⟨q, h1, by omega, h3, h4, h5, h6⟩
  have bj := ev_at h hj
  rcases key j (by omega) (by omega) with ⟨h1, _⟩ | ⟨q, h1, h2, h3, h4, h5, h6⟩
  · exact R_dir hij (dirE_iff.2 (.inl (by omega)))
  · rw [hk] at h6
    have hq : R l j q = true := by
      by_cases kq : (evAt l q).k = 3
      · rw [if_pos kq] at h6
        exact R_dir h2 (dirE_iff.2 (.inl (by omega)))
      · rw [if_neg kq] at h6; omega
    rcases h5 with rfl | h5
    · exact hq
    · exact R_trans hq h5
end Go.Proofs.YtfjbnhacfficnaaGreatDoor

/- The detectors' clocks, plain; an epoch is known exactly to what comes behind it. No program. -/
namespace Go.Proofs.YtfjbnhacfficnaaGreatDoor

/-- Clocks of threads, locks and signals. -/
structure Fk where
  C : Nat → Nat → Int
  lk : Nat → Nat → Int
  vo : Nat → Nat → Int
def Fk.first : Fk := ⟨fun t τ => if t = τ then 1 else 0, fun _ _ => 0, fun _ _ => 0⟩
def upF (F : Nat → Nat → Int) (k : Nat) (f : Nat → Int) : Nat → Nat → Int := fun i => if i = k then f else F i
def tkF (f : Nat → Int) (t : Nat) : Nat → Int := fun i => if i = t then f i + 1 else f i
/-- An event that is no access. -/
def fSync (s : Fk) (e : Ev) : Fk :=
  if e.k = 3 then { s with C := upF s.C e.t.toNat (cmax (s.C e.t.toNat) (s.lk e.o.toNat)) }
  else if e.k = 4 then { s with lk := upF s.lk e.o.toNat (s.C e.t.toNat), C := upF s.C e.t.toNat (tkF (s.C e.t.toNat) e.t.toNat) }
  else if e.k = 5 then { s with C := upF (upF s.C e.o.toNat (cmax (s.C e.o.toNat) (s.C e.t.toNat))) e.t.toNat (tkF ((upF s.C e.o.toNat (cmax (s.C e.o.toNat) (s.C e.t.toNat))) e.t.toNat) e.t.toNat) }
  else if e.k = 6 then { s with C := upF s.C e.t.toNat (cmax (s.C e.t.toNat) (s.C e.o.toNat)) }
  else if e.k = 7 then { s with C := upF s.C e.t.toNat (cmax (s.C e.t.toNat) (s.vo e.o.toNat)) }
  else if e.k = 8 then { s with vo := upF s.vo e.o.toNat (cmax (s.vo e.o.toNat) (s.C e.t.toNat)), C := upF s.C e.t.toNat (tkF (s.C e.t.toNat) e.t.toNat) }
  else s
/-- Behind m events. -/
def fAt (l : List Ev) : Nat → Fk
  | 0 => Fk.first
  | m + 1 => fSync (fAt l m) (evAt l m)
/-- What an event's thread knows ahead of it. -/
def vw (l : List Ev) (i : Nat) : Nat → Int := (fAt l i).C (evAt l i).t.toNat
/-- The epoch of an event. -/
def epo (l : List Ev) (i : Nat) : Int := vw l i (evAt l i).t.toNat
section
variable {l : List Ev} (h : (played l).2.2 = 0)
include h
theorem tn {i : Nat} (hi : i < l.length) : ((evAt l i).t.toNat : Int) = (evAt l i).t := by
  have := ev_at h hi; omega
theorem on {i : Nat} (hi : i < l.length) : ((evAt l i).o.toNat : Int) = (evAt l i).o := by
  have := ev_at h hi; omega
theorem fork_ne {i : Nat} (hi : i < l.length) (hk : (evAt l i).k = 5) : (evAt l i).o ≠ (evAt l i).t := by
  intro e
  have := fork_lt h hi hi hk e.symm
  omega
end
/-- Who is not over is ahead of all in what is known of it; nobody knows more of a thread than it does; all is at least 0, and of one's own at least 1. -/
structure FOk (s : Fk) (ov : Nat → Bool) : Prop where
  pos : ∀ t, 1 ≤ s.C t t
  nn : ∀ u t, 0 ≤ s.C u t ∧ 0 ≤ s.lk u t ∧ 0 ≤ s.vo u t
  le : ∀ u t, s.C u t ≤ s.C t t ∧ s.lk u t ≤ s.C t t ∧ s.vo u t ≤ s.C t t
  lt : ∀ u t, u ≠ t → ov t = false → s.C u t < s.C t t
  lk : ∀ o t, ov t = false → s.lk o t < s.C t t ∧ s.vo o t < s.C t t
theorem FOk.init (ov : Nat → Bool) : FOk Fk.first ov := by
  refine ⟨fun t => by simp [Fk.first], fun u t => ⟨?_, Int.le_refl _, Int.le_refl _⟩, fun u t => ⟨?_, ?_, ?_⟩, fun u t hu _ => ?_, fun o t _ => ?_⟩
  · simp only [Fk.first]; split <;> omega
  · simp only [Fk.first]; split <;> simp
  · simp [Fk.first]
  · simp [Fk.first]
  · simp [Fk.first, hu]
  · simp [Fk.first]
set_option maxHeartbeats 8000000 in
theorem FOk.step {s : Fk} {e : Ev} {ov ov' : Nat → Bool} (hI : FOk s ov) (ha : ov e.t.toNat = false) (ho : ∀ t, ov' t = false → ov t = false ∧ (e.k = 6 → t ≠ e.o.toNat))
    (hn5 : e.k = 5 → e.o.toNat ≠ e.t.toNat) (hn6 : e.k = 6 → e.o.toNat ≠ e.t.toNat) : FOk (fSync s e) ov' := by
  obtain ⟨pos, nn, le, lt, lk⟩ := hI
  unfold fSync
  generalize e.t.toNat = a at *
  generalize e.o.toNat = b at *
  generalize e.k = k at *
  repeat' split
  all_goals
    refine ⟨fun t => ?_, fun u t => ?_, fun u t => ?_, fun u t hu hov => ?_, fun u t hov => ?_⟩
    all_goals
      have p1 := pos t
      have p2 := pos a
      have p3 := pos b
      have nt := nn t t
      have na := nn a t
      have nb := nn b t
      have la := le a t
      have lb := le b t
      have lab := le a b
      have lba := le b a
      have laa := lt b a
      try have nu := nn u t
      try have lu := le u t
      try have hov2 := ho t hov
      try have ltu := fun hne => lt u t hne hov2.1
      try have lta := fun hne => lt a t hne hov2.1
      try have ltb := fun hne => lt b t hne hov2.1
      try have lku := lk u t hov2.1
      try have lkb := lk b t hov2.1
      clear pos nn le lt lk ho
      try simp only [upF]
      (repeat' (first | split | simp only [cmax] | simp only [tkF])) <;> (try subst_vars) <;> (first | omega | (simp_all; try omega))
section
variable {l : List Ev} (h : (played l).2.2 = 0)
include h
theorem finv : ∀ m, m ≤ l.length → FOk (fAt l m) (stAt l m).over := by
  intro m
  induction m with
  | zero => exact fun _ => FOk.init _
  | succ m ih =>
    intro hm1
    have hm : m < l.length := by omega
    have er := err0 ((ok_at h).1 m hm)
    have et := tn h hm
    have eo := on h hm
    refine (ih (by omega)).step er.2.2.1 ?_ ?_ ?_
    · intro t ht
      rw [stAt, stFrom_succ _ _ _ hm] at ht
      constructor
      · cases hh : (stAt l m).over t
        · rfl
        · rw [nxt_over hh] at ht; cases ht
      · rintro k6 rfl
        simp [nxt, k6, updB] at ht
    · intro k
      have := fork_ne h hm k
      omega
    · intro k
      have := (er.2.2.2.2.2.2 k).2
      omega
end
end Go.Proofs.YtfjbnhacfficnaaGreatDoor

/- An access is known by its epoch: it happens before a later access exactly if that one's thread has seen its epoch. No program. -/
namespace Go.Proofs.YtfjbnhacfficnaaGreatDoor

/-- Thread u knows of event i, ahead of place m. -/
def Kn (l : List Ev) (u i m : Nat) : Prop := ∃ q, q < m ∧ ((evAt l q).t = u ∨ ((evAt l q).k = 5 ∧ (evAt l q).o = u)) ∧ R l q i = true
/-- A Release, a Show of o, ahead of place m, knows of event i. -/
def Kr (l : List Ev) (k : Int) (o i m : Nat) : Prop := ∃ q, q < m ∧ (evAt l q).k = k ∧ (evAt l q).o = o ∧ R l q i = true
theorem Kn_succ {l : List Ev} {u i m : Nat} : Kn l u i (m + 1) ↔ Kn l u i m ∨ (((evAt l m).t = u ∨ ((evAt l m).k = 5 ∧ (evAt l m).o = u)) ∧ R l m i = true) := by
  constructor
  · rintro ⟨q, h1, h2, h3⟩
    by_cases e : q = m
    · subst e; exact .inr ⟨h2, h3⟩
    · exact .inl ⟨q, by omega, h2, h3⟩
  · rintro (⟨q, h1, h2, h3⟩ | ⟨h2, h3⟩)
    · exact ⟨q, by omega, h2, h3⟩
    · exact ⟨m, by omega, h2, h3⟩
theorem Kr_succ {l : List Ev} {k : Int} {o i m : Nat} : Kr l k o i (m + 1) ↔ Kr l k o i m ∨ ((evAt l m).k = k ∧ (evAt l m).o = o ∧ R l m i = true) := by
  constructor
  · rintro ⟨q, h1, h2, h3, h4⟩
    by_cases e : q = m
    · subst e; exact .inr ⟨h2, h3, h4⟩
    · exact .inl ⟨q, by omega, h2, h3, h4⟩
  · rintro (⟨q, h1, h2, h3, h4⟩ | ⟨h2, h3, h4⟩)
    · exact ⟨q, by omega, h2, h3, h4⟩
    · exact ⟨m, by omega, h2, h3, h4⟩
section
variable {l : List Ev} (h : (played l).2.2 = 0)
include h
/-- What is directly ahead of event m, by its kind. -/
theorem R_kinds {i m : Nat} (hi : i < m) (hm : m < l.length) (hacc : (evAt l i).k = 1 ∨ (evAt l i).k = 2) :
    R l m i = true ↔ (evAt l m).t.toNat = (evAt l i).t.toNat ∨ Kn l (evAt l m).t.toNat i m ∨ ((evAt l m).k = 3 ∧ Kr l 4 (evAt l m).o.toNat i m) ∨ ((evAt l m).k = 7 ∧ Kr l 8 (evAt l m).o.toNat i m) ∨
      ((evAt l m).k = 6 ∧ ((evAt l m).o.toNat = (evAt l i).t.toNat ∨ Kn l (evAt l m).o.toNat i m)) := by
  have et := tn h hm
  have eo := on h hm
  have ei := tn h (show i < l.length by omega)
  rw [spec_all l m i]
  constructor
  · rintro ⟨x, h1, h2, h3⟩
    rw [dirE_iff] at h2
    rcases h3 with rfl | h3
    · rcases h2 with h2 | ⟨h2, h4⟩ | h2 | h2
      · exact .inl (by omega)
      · omega
      · omega
      · exact .inr (.inr (.inr (.inr ⟨h2.1, .inl (by omega)⟩)))
    · rcases h2 with h2 | ⟨h2 | h2 | h2, h4⟩ | h2 | h2
      · exact .inr (.inl ⟨x, h1, .inl (by omega), h3⟩)
      · exact .inr (.inr (.inl ⟨h2.2, x, h1, h2.1, by omega, h3⟩))
      · exact .inr (.inr (.inr (.inl ⟨h2.2, x, h1, h2.1, by omega, h3⟩)))
      · exact .inr (.inr (.inr (.inr ⟨h2.2, .inr ⟨x, h1, .inr ⟨h2.1, by omega⟩, h3⟩⟩)))
      · exact .inr (.inl ⟨x, h1, .inr ⟨h2.1, by omega⟩, h3⟩)
      · exact .inr (.inr (.inr (.inr ⟨h2.1, .inr ⟨x, h1, .inl (by omega), h3⟩⟩)))
  · rintro (h1 | ⟨x, h1, h2, h3⟩ | ⟨h1, x, h2, h3, h4, h5⟩ | ⟨h1, x, h2, h3, h4, h5⟩ | ⟨h1, h2 | ⟨x, h2, h3, h4⟩⟩)
    · exact ⟨i, hi, dirE_iff.2 (.inl (by omega)), .inl rfl⟩
    · refine ⟨x, h1, dirE_iff.2 ?_, .inr h3⟩
      rcases h2 with h2 | h2
      · exact .inl (by omega)
      · exact .inr (.inr (.inl ⟨h2.1, by omega⟩))
    · exact ⟨x, h2, dirE_iff.2 (.inr (.inl ⟨.inl ⟨h3, h1⟩, by omega⟩)), .inr h5⟩
    · exact ⟨x, h2, dirE_iff.2 (.inr (.inl ⟨.inr (.inl ⟨h3, h1⟩), by omega⟩)), .inr h5⟩
    · exact ⟨i, hi, dirE_iff.2 (.inr (.inr (.inr ⟨h1, by omega⟩))), .inl rfl⟩
    · refine ⟨x, h2, dirE_iff.2 ?_, .inr h4⟩
      rcases h3 with h3 | h3
      · exact .inr (.inr (.inr ⟨h1, by omega⟩))
      · exact .inr (.inl ⟨.inr (.inr ⟨h3.1, h1⟩), by omega⟩)
/-- What is known of event i, of thread t and epoch n, in a state of clocks. -/
structure EI (s : Fk) (t : Nat) (n : Int) (K : Nat → Prop) (L V : Nat → Prop) : Prop where
  own : n ≤ s.C t t
  th : ∀ u, u ≠ t → (n ≤ s.C u t ↔ K u)
  lk : ∀ o, (n ≤ s.lk o t ↔ L o)
  vo : ∀ o, (n ≤ s.vo o t ↔ V o)
end
set_option maxHeartbeats 8000000 in
theorem EI.step {s : Fk} {e : Ev} {t : Nat} {n : Int} {K K' L L' V V' : Nat → Prop} {Rm : Prop} (hI : EI s t n K L V) (hk : 1 ≤ e.k ∧ e.k ≤ 8)
    (h5 : e.k = 5 → e.o.toNat ≠ e.t.toNat ∧ e.o.toNat ≠ t)
    (hR : Rm ↔ e.t.toNat = t ∨ K e.t.toNat ∨ (e.k = 3 ∧ L e.o.toNat) ∨ (e.k = 7 ∧ V e.o.toNat) ∨ (e.k = 6 ∧ (e.o.toNat = t ∨ K e.o.toNat)))
    (hK : ∀ u, K' u ↔ K u ∨ ((e.t.toNat = u ∨ (e.k = 5 ∧ e.o.toNat = u)) ∧ Rm)) (hL : ∀ o, L' o ↔ if e.k = 4 ∧ e.o.toNat = o then Rm else L o) (hV : ∀ o, V' o ↔ V o ∨ (e.k = 8 ∧ e.o.toNat = o ∧ Rm)) :
    EI (fSync s e) t n K' L' V' := by
  obtain ⟨own, th, lk, vo⟩ := hI
  unfold fSync
  generalize e.t.toNat = a at *
  generalize e.o.toNat = b at *
  generalize e.k = k at *
  have tha := th a
  have thb := th b
  have lkb := lk b
  have vob := vo b
  repeat' split
  all_goals
    refine ⟨?_, fun u hu => ?_, fun o => ?_, fun o => ?_⟩
    · try simp only [upF]
      clear th lk vo hR hK hL hV tha thb lkb vob
      (repeat' (first | split | simp only [cmax] | simp only [tkF])) <;> (try subst_vars) <;> (first | omega | (simp_all; try omega))
    · have thu := th u hu
      have hKu := hK u
      clear th lk vo hK hL hV
      try simp only [upF]
      (repeat' (first | split | simp only [cmax] | simp only [tkF])) <;> grind
    · have lko := lk o
      have hLo := hL o
      clear th lk vo hK hL hV
      try simp only [upF]
      (repeat' (first | split | simp only [cmax] | simp only [tkF])) <;> grind
    · have voo := vo o
      have hVo := hV o
      clear th lk vo hK hL hV
      try simp only [upF]
      (repeat' (first | split | simp only [cmax] | simp only [tkF])) <;> grind
section
variable {l : List Ev} (h : (played l).2.2 = 0)
include h
omit h in
theorem fAt_acc {i : Nat} (hacc : (evAt l i).k = 1 ∨ (evAt l i).k = 2) : fAt l (i + 1) = fAt l i := by
  show fSync (fAt l i) (evAt l i) = fAt l i
  unfold fSync
  rcases hacc with e | e <;> simp [e]
theorem ei_at {i : Nat} (hacc : (evAt l i).k = 1 ∨ (evAt l i).k = 2) : ∀ m, i < m → m ≤ l.length → EI (fAt l m) (evAt l i).t.toNat (epo l i) (fun u => Kn l u i m) (fun o => Kr l 4 o i m) (fun o => Kr l 8 o i m) := by
  intro m
  induction m with
  | zero => intro h; omega
  | succ m ih =>
    intro him hm1
    have hm : m < l.length := by omega
    by_cases e : i = m
    · subst e
      have hF := finv h i (by omega)
      have ho := (err0 ((ok_at h).1 i hm)).2.2.1
      rw [fAt_acc hacc]
      have hno : ∀ q, q < i + 1 → R l q i = true → False := fun q h1 h2 => by have := R_lt h2; omega
      refine ⟨Int.le_refl _, fun u hu => ?_, fun o => ?_, fun o => ?_⟩
      · refine ⟨fun h1 => ?_, fun ⟨q, h1, _, h2⟩ => (hno q h1 h2).elim⟩
        have := hF.lt u _ hu ho
        simp only [epo, vw] at h1
        omega
      · refine ⟨fun h1 => ?_, fun ⟨q, h1, _, _, h2⟩ => (hno q h1 h2).elim⟩
        have := (hF.lk o _ ho).1
        simp only [epo, vw] at h1
        omega
      · refine ⟨fun h1 => ?_, fun ⟨q, h1, _, _, h2⟩ => (hno q h1 h2).elim⟩
        have := (hF.lk o _ ho).2
        simp only [epo, vw] at h1
        omega
    · have hi : i < m := by omega
      have et := tn h hm
      have eo := on h hm
      have ei := tn h (show i < l.length by omega)
      have hev := ev_at h hm
      have hmp := manyOf_pos (k := (evAt l m).k) (by omega)
      refine (ih hi (by omega)).step (by omega) ?_ (R_kinds h hi hm hacc) ?_ ?_ ?_
      · intro k5
        have h1 := fork_ne h hm k5
        refine ⟨by omega, fun h2 => ?_⟩
        have := fork_lt h hm (show i < l.length by omega) k5 (by omega)
        omega
      · intro u
        rw [Kn_succ]
        have h1 : ((evAt l m).t = (u : Int)) ↔ (evAt l m).t.toNat = u := by omega
        have h2 : ((evAt l m).o = (u : Int)) ↔ (evAt l m).o.toNat = u := by omega
        rw [h1, h2]
      · intro o
        rw [Kr_succ]
        have h2 : ((evAt l m).o = (o : Int)) ↔ (evAt l m).o.toNat = o := by omega
        rw [h2]
        by_cases c : (evAt l m).k = 4 ∧ (evAt l m).o.toNat = o
        · rw [if_pos c]
          refine ⟨?_, fun h1 => .inr ⟨c.1, c.2, h1⟩⟩
          rintro (⟨q, h3, h4, h5, h6⟩ | h1)
          · exact R_trans (locks_ordered h h3 hm (isLk_iff.2 (.inr h4)) (isLk_iff.2 (.inr c.1)) (by omega)) h6
          · exact h1.2.2
        · rw [if_neg c]
          exact ⟨fun h1 => h1.elim id fun h1 => absurd ⟨h1.1, h1.2.1⟩ c, .inl⟩
      · intro o
        rw [Kr_succ]
        have h2 : ((evAt l m).o = (o : Int)) ↔ (evAt l m).o.toNat = o := by omega
        rw [h2]
/-- An access happens before a later one exactly if that one's thread has seen its epoch. -/
theorem epoch {i j : Nat} (hij : i < j) (hj : j < l.length) (hi : (evAt l i).k = 1 ∨ (evAt l i).k = 2) (hjk : (evAt l j).k = 1 ∨ (evAt l j).k = 2) :
    R l j i = true ↔ epo l i ≤ vw l j (evAt l i).t.toNat := by
  have hE := ei_at h hi j hij (by omega)
  rw [R_kinds h hij hj hi]
  by_cases e : (evAt l j).t.toNat = (evAt l i).t.toNat
  · have : epo l i ≤ vw l j (evAt l i).t.toNat := by unfold vw; rw [e]; exact hE.own
    exact ⟨fun _ => this, fun _ => .inl e⟩
  · have := hE.th _ e
    rw [show vw l j (evAt l i).t.toNat = (fAt l j).C (evAt l j).t.toNat (evAt l i).t.toNat from rfl, this]
    constructor
    · rintro (h1 | h1 | h1 | h1 | h1)
      · exact absurd h1 e
      · exact h1
      · omega
      · omega
      · omega
    · exact fun h1 => .inr (.inl h1)
theorem epo_mono {i j : Nat} (hij : i < j) (hj : j < l.length) (hi : (evAt l i).k = 1 ∨ (evAt l i).k = 2) (ht : (evAt l i).t = (evAt l j).t) : epo l i ≤ epo l j := by
  have hE := (ei_at h hi j hij (by omega)).own
  rw [ht] at hE
  exact hE
theorem epo_pos {i : Nat} (hi : i ≤ l.length) : 1 ≤ epo l i := (finv h i hi).pos _
theorem vw_nn {i : Nat} (hi : i ≤ l.length) (τ : Nat) : 0 ≤ vw l i τ := ((finv h i hi).nn _ τ).1
end
end Go.Proofs.YtfjbnhacfficnaaGreatDoor

/- The detector by full clocks, plain: what it keeps of a variable, its flags. No program. -/
namespace Go.Proofs.YtfjbnhacfficnaaGreatDoor

/-- The clocks of a variable behind m events: reads, writes. -/
def rdAt (l : List Ev) : Nat → Nat → Nat → Int
  | 0 => fun _ _ => 0
  | m + 1 => fun x τ => if (evAt l m).k = 1 ∧ (evAt l m).o = x ∧ (evAt l m).t = τ then vw l m τ else rdAt l m x τ
def wrAt (l : List Ev) : Nat → Nat → Nat → Int
  | 0 => fun _ _ => 0
  | m + 1 => fun x τ => if (evAt l m).k = 2 ∧ (evAt l m).o = x ∧ (evAt l m).t = τ then vw l m τ else wrAt l m x τ
/-- What event m is flagged as. -/
def fKind (l : List Ev) (m : Nat) : Int :=
  if (evAt l m).k = 1 then (if cle (wrAt l m (evAt l m).o.toNat) (vw l m) then 0 else 2)
  else if (evAt l m).k = 2 then (if cle (wrAt l m (evAt l m).o.toNat) (vw l m) then (if cle (rdAt l m (evAt l m).o.toNat) (vw l m) then 0 else 3) else 1)
  else 0
/-- The flags of the first m events (a flag is written as three numbers, as an event is: its place, its variable, its kind). -/
def fFlags (l : List Ev) : Nat → List Ev
  | 0 => []
  | m + 1 => if fKind l m = 0 then fFlags l m else fFlags l m ++ [⟨m, (evAt l m).o, fKind l m⟩]
theorem fFlags_len (l : List Ev) : ∀ m, (fFlags l m).length ≤ m
  | 0 => Nat.le_refl _
  | m + 1 => by
    simp only [fFlags]
    have := fFlags_len l m
    split
    · omega
    · simp; omega
theorem fFlags_lt (l : List Ev) : ∀ m, ∀ f ∈ fFlags l m, 0 ≤ f.k ∧ f.k < m
  | 0 => by simp [fFlags]
  | m + 1 => by
    intro f hf
    simp only [fFlags] at hf
    split at hf
    · have := fFlags_lt l m f hf; omega
    · rcases List.mem_append.1 hf with h1 | h1
      · have := fFlags_lt l m f h1; omega
      · simp at h1; subst h1; simp only; omega
/-- The flags behind n are at places from n on. -/
theorem fFlags_split (l : List Ev) (n : Nat) : ∀ m, n ≤ m → ∃ r, fFlags l m = fFlags l n ++ r ∧ ∀ f ∈ r, (n : Int) ≤ f.k := by
  intro m
  induction m with
  | zero => intro h; obtain rfl : n = 0 := by omega
            exact ⟨[], by simp, by simp⟩
  | succ m ih =>
    intro h
    by_cases e : n = m + 1
    · subst e; exact ⟨[], by simp, by simp⟩
    · obtain ⟨r, h1, h2⟩ := ih (by omega)
      simp only [fFlags]
      split
      · exact ⟨r, h1, h2⟩
      · refine ⟨r ++ [⟨m, (evAt l m).o, fKind l m⟩], by rw [h1, List.append_assoc], fun f hf => ?_⟩
        rcases List.mem_append.1 hf with h3 | h3
        · exact h2 f h3
        · simp at h3; subst h3; simp only; omega
theorem fAt_take (l : List Ev) (n : Nat) : ∀ m, m ≤ n → fAt (l.take n) m = fAt l m := by
  intro m
  induction m with
  | zero => intro _; rfl
  | succ m ih => intro h; simp only [fAt]; rw [ih (by omega), evAt_take l n m (by omega)]
theorem vw_take (l : List Ev) (n m : Nat) (h : m < n) : vw (l.take n) m = vw l m := by
  unfold vw; rw [fAt_take l n m (by omega), evAt_take l n m h]
theorem rdAt_take (l : List Ev) (n : Nat) : ∀ m, m ≤ n → rdAt (l.take n) m = rdAt l m := by
  intro m
  induction m with
  | zero => intro _; rfl
  | succ m ih => intro h; simp only [rdAt]; rw [ih (by omega), evAt_take l n m (by omega), vw_take l n m (by omega)]
theorem wrAt_take (l : List Ev) (n : Nat) : ∀ m, m ≤ n → wrAt (l.take n) m = wrAt l m := by
  intro m
  induction m with
  | zero => intro _; rfl
  | succ m ih => intro h; simp only [wrAt]; rw [ih (by omega), evAt_take l n m (by omega), vw_take l n m (by omega)]
theorem fKind_take (l : List Ev) (n m : Nat) (h : m < n) : fKind (l.take n) m = fKind l m := by
  unfold fKind; rw [evAt_take l n m h, vw_take l n m h, rdAt_take l n m (by omega), wrAt_take l n m (by omega)]
theorem fFlags_take (l : List Ev) (n : Nat) : ∀ m, m ≤ n → fFlags (l.take n) m = fFlags l m := by
  intro m
  induction m with
  | zero => intro _; rfl
  | succ m ih => intro h; simp only [fFlags]; rw [ih (by omega), fKind_take l n m (by omega), evAt_take l n m (by omega)]
section
variable {l : List Ev} (h : (played l).2.2 = 0)
include h
/-- Who has read (written) a variable has a number there, and who has not has none. -/
theorem rdAt_pos (x t : Nat) : ∀ m, m ≤ l.length → 0 ≤ rdAt l m x t ∧ (0 < rdAt l m x t ↔ ∃ i, i < m ∧ (evAt l i).k = 1 ∧ (evAt l i).o = x ∧ (evAt l i).t = t) := by
  intro m
  induction m with
  | zero => intro _; exact ⟨Int.le_refl _, fun h => by simp [rdAt] at h, fun ⟨i, hi, _⟩ => by omega⟩
  | succ m ih =>
    intro hm
    obtain ⟨h1, h2⟩ := ih (by omega)
    simp only [rdAt]
    split
    · rename_i c
      have := epo_pos h (i := m) (by omega)
      unfold epo at this
      rw [show (evAt l m).t.toNat = t by omega] at this
      exact ⟨by omega, fun _ => ⟨m, by omega, c⟩, fun _ => by omega⟩
    · rename_i c
      refine ⟨h1, fun h3 => ?_, fun ⟨i, hi, h3⟩ => ?_⟩
      · obtain ⟨i, hi, h4⟩ := h2.1 h3
        exact ⟨i, by omega, h4⟩
      · by_cases e : i = m
        · subst e; exact absurd h3 c
        · exact h2.2 ⟨i, by omega, h3⟩
theorem wrAt_pos (x t : Nat) : ∀ m, m ≤ l.length → 0 ≤ wrAt l m x t ∧ (0 < wrAt l m x t ↔ ∃ i, i < m ∧ (evAt l i).k = 2 ∧ (evAt l i).o = x ∧ (evAt l i).t = t) := by
  intro m
  induction m with
  | zero => intro _; exact ⟨Int.le_refl _, fun h => by simp [wrAt] at h, fun ⟨i, hi, _⟩ => by omega⟩
  | succ m ih =>
    intro hm
    obtain ⟨h1, h2⟩ := ih (by omega)
    simp only [wrAt]
    split
    · rename_i c
      have := epo_pos h (i := m) (by omega)
      unfold epo at this
      rw [show (evAt l m).t.toNat = t by omega] at this
      exact ⟨by omega, fun _ => ⟨m, by omega, c⟩, fun _ => by omega⟩
    · rename_i c
      refine ⟨h1, fun h3 => ?_, fun ⟨i, hi, h3⟩ => ?_⟩
      · obtain ⟨i, hi, h4⟩ := h2.1 h3
        exact ⟨i, by omega, h4⟩
      · by_cases e : i = m
        · subst e; exact absurd h3 c
        · exact h2.2 ⟨i, by omega, h3⟩
end
end Go.Proofs.YtfjbnhacfficnaaGreatDoor

/- Guards, plain: which locks each thread has at each event; what is known of a variable's locks; warnings; common locks. No program. -/
namespace Go.Proofs.YtfjbnhacfficnaaGreatDoor

def bitN (o : Int) : Nat := 2 ^ o.toNat
def upH (f : Nat → Nat) (k x : Nat) : Nat → Nat := fun i => if i = k then x else f i
/-- The locks of each thread behind an event. -/
def hStep (H : Nat → Nat) (e : Ev) : Nat → Nat :=
  if e.k = 3 then upH H e.t.toNat (H e.t.toNat ||| bitN e.o) else if e.k = 4 then upH H e.t.toNat (H e.t.toNat &&& (31 ^^^ bitN e.o)) else H
def isAcc (e : Ev) : Bool := e.k == 1 || e.k == 2
/-- What is known of a variable. -/
structure GV where
  st : Int
  th : Int
  lk : Nat
def gAcc (g : GV) (e : Ev) (L : Nat) : GV :=
  if g.st = 0 then ⟨1, e.t, g.lk⟩
  else if g.st = 1 ∧ g.th = e.t then g
  else if g.st = 1 ∧ e.k = 2 then ⟨3, g.th, L⟩
  else if g.st = 1 then ⟨2, g.th, L⟩
  else ⟨if e.k = 2 then 3 else g.st, g.th, g.lk &&& L⟩
structure GS where
  H : Nat → Nat
  G : Nat → GV
  W : List Ev
def upG (f : Nat → GV) (k : Nat) (x : GV) : Nat → GV := fun i => if i = k then x else f i
def gWarn (g : GV) : Bool := g.st == 3 && g.lk == 0
def gStep (s : GS) (i : Nat) (e : Ev) : GS :=
  if isAcc e then
    ⟨hStep s.H e, upG s.G e.o.toNat (gAcc (s.G e.o.toNat) e (hStep s.H e e.t.toNat)), if gWarn (gAcc (s.G e.o.toNat) e (hStep s.H e e.t.toNat)) then s.W ++ [⟨i, e.o, 0⟩] else s.W⟩
  else ⟨hStep s.H e, s.G, s.W⟩
/-- Behind the first i events. -/
def gdL (l : List Ev) : Nat → GS
  | 0 => ⟨fun _ => 0, fun _ => ⟨0, 0, 31⟩, []⟩
  | i + 1 => gStep (gdL l i) i (evAt l i)
/-- The locks that a thread has at event i. -/
def lkAt (l : List Ev) (i : Nat) : Nat := hStep (gdL l i).H (evAt l i) (evAt l i).t.toNat
/-- The common locks of a variable's accesses among the first i events. -/
def coL (l : List Ev) (x : Int) : Nat → Nat
  | 0 => 31
  | i + 1 => if isAcc (evAt l i) && (evAt l i).o == x then coL l x i &&& lkAt l i else coL l x i
theorem bitN_lt {o : Int} (h : o < 5) : bitN o < 32 := by
  unfold bitN
  have : o.toNat ≤ 4 := by omega
  calc 2 ^ o.toNat ≤ 2 ^ 4 := Nat.pow_le_pow_right (by decide) this
    _ < 32 := by decide
theorem hStep_lt {H : Nat → Nat} {e : Ev} (hH : ∀ t, H t < 32) (he : isEv e = true) : ∀ t, hStep H e t < 32 := by
  intro t
  obtain ⟨_, _, o0, oM⟩ := isEv_iff.1 he
  unfold hStep
  split
  · rename_i hk
    rw [hk] at oM
    unfold upH
    split
    · exact Nat.or_lt_two_pow (n := 5) (hH _) (bitN_lt oM)
    · exact hH t
  · split
    · unfold upH
      split
      · exact Nat.lt_of_le_of_lt Nat.and_le_left (hH _)
      · exact hH t
    · exact hH t
structure GOk (s : GS) (i : Nat) : Prop where
  H : ∀ t, s.H t < 32
  lk : ∀ x, (s.G x).lk < 32
  st : ∀ x, 0 ≤ (s.G x).st ∧ (s.G x).st ≤ 3
  th : ∀ x, 0 ≤ (s.G x).th ∧ (s.G x).th < 6
  W : s.W.length ≤ i
theorem gAcc_lk {g : GV} {e : Ev} {L : Nat} (h : g.lk < 32) (hL : L < 32) : (gAcc g e L).lk < 32 := by
  unfold gAcc
  split
  · exact h
  · split
    · exact h
    · split
      · exact hL
      · split
        · exact hL
        · exact Nat.lt_of_le_of_lt Nat.and_le_left h
theorem gAcc_st {g : GV} {e : Ev} {L : Nat} (h : 0 ≤ g.st ∧ g.st ≤ 3) : 0 ≤ (gAcc g e L).st ∧ (gAcc g e L).st ≤ 3 := by
  unfold gAcc
  split
  · simp only; omega
  · split
    · exact h
    · split
      · simp only; omega
      · split
        · simp only; omega
        · simp only; split <;> omega
theorem gAcc_th {g : GV} {e : Ev} {L : Nat} (h : 0 ≤ g.th ∧ g.th < 6) (he : isEv e = true) : 0 ≤ (gAcc g e L).th ∧ (gAcc g e L).th < 6 := by
  obtain ⟨t0, t6, _⟩ := isEv_iff.1 he
  unfold gAcc
  split
  · exact ⟨t0, t6⟩
  · split
    · exact h
    · split
      · exact h
      · split <;> exact h
theorem GOk.step {s : GS} {i : Nat} {e : Ev} (h : GOk s i) (he : isEv e = true) : GOk (gStep s i e) (i + 1) := by
  have hh := hStep_lt h.H he
  unfold gStep
  split
  · refine ⟨hh, fun x => ?_, fun x => ?_, fun x => ?_, ?_⟩
    · show (upG s.G _ _ x).lk < 32
      unfold upG; split
      · exact gAcc_lk (h.lk _) (hh _)
      · exact h.lk x
    · show 0 ≤ (upG s.G _ _ x).st ∧ (upG s.G _ _ x).st ≤ 3
      unfold upG; split
      · exact gAcc_st (h.st _)
      · exact h.st x
    · show 0 ≤ (upG s.G _ _ x).th ∧ (upG s.G _ _ x).th < 6
      unfold upG; split
      · exact gAcc_th (h.th _) he
      · exact h.th x
    · have := h.W
      show List.length (if _ then _ else _) ≤ _
      split
      · simp; exact this
      · omega
  · exact ⟨hh, h.lk, h.st, h.th, by have := h.W; show s.W.length ≤ _; omega⟩
theorem gdL_ok {l : List Ev} (h : (played l).2.2 = 0) : ∀ {i : Nat}, i ≤ l.length → GOk (gdL l i) i
  | 0, _ => ⟨fun _ => by show (0 : Nat) < 32; decide, fun _ => by show (31 : Nat) < 32; decide, fun _ => ⟨by show (0 : Int) ≤ 0; decide, by show (0 : Int) ≤ 3; decide⟩, fun _ => ⟨by show (0 : Int) ≤ 0; decide, by show (0 : Int) < 6; decide⟩, Nat.le_refl _⟩
  | i + 1, hi => (gdL_ok h (by omega)).step (isEv_iff.2 (ev_at h (by omega)))
theorem lkAt_lt {l : List Ev} (h : (played l).2.2 = 0) {i : Nat} (hi : i < l.length) : lkAt l i < 32 := hStep_lt (gdL_ok h (Nat.le_of_lt hi)).H (isEv_iff.2 (ev_at h hi)) _
theorem coL_lt (l : List Ev) (x : Int) : ∀ i, coL l x i < 32
  | 0 => by show (31 : Nat) < 32; decide
  | i + 1 => by
    unfold coL
    split
    · exact Nat.lt_of_le_of_lt Nat.and_le_left (coL_lt l x i)
    · exact coL_lt l x i
set_option maxRecDepth 100000 in
theorem orT : ∀ a : Fin 32, ∀ k : Fin 5, IntKind.i64.wrap (BitVec.ofInt 64 (a.val : Int) ||| BitVec.ofInt 64 ((2 ^ k.val : Nat) : Int)).toNat = ((a.val ||| 2 ^ k.val : Nat) : Int) := by decide +kernel
set_option maxRecDepth 100000 in
theorem anT : ∀ a : Fin 32, ∀ k : Fin 5, IntKind.i64.wrap (BitVec.ofInt 64 (a.val : Int) &&& ~~~BitVec.ofInt 64 ((2 ^ k.val : Nat) : Int)).toNat = ((a.val &&& (31 ^^^ 2 ^ k.val) : Nat) : Int) := by decide +kernel
set_option maxRecDepth 100000 in
theorem adT : ∀ a b : Fin 32, IntKind.i64.wrap (BitVec.ofInt 64 (a.val : Int) &&& BitVec.ofInt 64 (b.val : Int)).toNat = ((a.val &&& b.val : Nat) : Int) := by decide +kernel
end Go.Proofs.YtfjbnhacfficnaaGreatDoor

/- Clocks of events: the keeper's state, plain. No program. -/
namespace Go.Proofs.YtfjbnhacfficnaaGreatDoor

/-- Clocks of threads, locks and signals. -/
structure Kp where
  th : Nat → Nat → Int
  lk : Nat → Nat → Int
  vo : Nat → Nat → Int
def Kp.first : Kp := ⟨fun _ _ => 0, fun _ _ => 0, fun _ _ => 0⟩
def updC (F : Nat → Nat → Int) (k : Nat) (f : Nat → Int) : Nat → Nat → Int := fun i => if i = k then f else F i
/-- What a thread knows ahead of its tick. -/
def kPre (s : Kp) (e : Ev) : Nat → Int :=
  if e.k = 3 then cmax (s.th e.t.toNat) (s.lk e.o.toNat)
  else if e.k = 7 then cmax (s.th e.t.toNat) (s.vo e.o.toNat)
  else if e.k = 6 then cmax (s.th e.t.toNat) (s.th e.o.toNat)
  else s.th e.t.toNat
def tickC (f : Nat → Int) (t : Nat) : Nat → Int := fun i => if i = t then f i + 1 else f i
/-- The clock of an event. -/
def kMine (s : Kp) (e : Ev) : Nat → Int := tickC (kPre s e) e.t.toNat
def kNext (s : Kp) (e : Ev) : Kp :=
  if e.k = 4 then { s with th := updC s.th e.t.toNat (kMine s e), lk := updC s.lk e.o.toNat (cmax (s.lk e.o.toNat) (kMine s e)) }
  else if e.k = 8 then { s with th := updC s.th e.t.toNat (kMine s e), vo := updC s.vo e.o.toNat (cmax (s.vo e.o.toNat) (kMine s e)) }
  else if e.k = 5 then { s with th := updC (updC s.th e.t.toNat (kMine s e)) e.o.toNat (kMine s e) }
  else { s with th := updC s.th e.t.toNat (kMine s e) }
/-- The state behind i events; the clock of event i. -/
def kAt (l : List Ev) : Nat → Kp
  | 0 => Kp.first
  | i + 1 => kNext (kAt l i) (evAt l i)
def stampOf (l : List Ev) (i : Nat) : Nat → Int := kMine (kAt l i) (evAt l i)
end Go.Proofs.YtfjbnhacfficnaaGreatDoor

/- The fewest events, plain: what a pass leaves, what is left in the end; an event left out leaves the races of the others. No program. -/
namespace Go.Proofs.YtfjbnhacfficnaaGreatDoor

/-- May event i be left out? -/
def shOk (l : List Ev) (i : Nat) : Bool := ((played (l.eraseIdx i)).2.2 == 0) && !(raceL (l.eraseIdx i)).isEmpty
def passL : Nat → List Ev → Nat → Bool → List Ev × Bool
  | 0, l, _, b => (l, b)
  | n + 1, l, i, b => if shOk l i then passL n (l.eraseIdx i) i true else passL n l (i + 1) b
/-- A trace with a race. -/
structure Racy (l : List Ev) : Prop where
  ok : (played l).2.2 = 0
  race : raceL l ≠ []
theorem shOk_racy {l : List Ev} {i : Nat} (h : shOk l i = true) : Racy (l.eraseIdx i) := by
  simp only [shOk, Bool.and_eq_true, beq_iff_eq, Bool.not_eq_true', List.isEmpty_eq_false_iff] at h
  exact ⟨h.1, h.2⟩
theorem shOk_of {l : List Ev} {i : Nat} (h : Racy (l.eraseIdx i)) : shOk l i = true := by
  simp only [shOk, Bool.and_eq_true, beq_iff_eq, Bool.not_eq_true', List.isEmpty_eq_false_iff]
  exact ⟨h.ok, h.race⟩
structure Pass (l : List Ev) (i : Nat) (b : Bool) (r : List Ev × Bool) : Prop where
  sub : r.1.Sublist l
  racy : Racy l → Racy r.1
  less : r.2 = true → b = true ∨ r.1.length < l.length
  same : r.2 = false → b = false ∧ r.1 = l ∧ ∀ j, i ≤ j → j < l.length → shOk l j = false
theorem pass_is : ∀ (n : Nat) (l : List Ev) (i : Nat) (b : Bool), i + n = l.length → Pass l i b (passL n l i b)
  | 0, l, i, b, h => ⟨List.Sublist.refl _, id, fun e => .inl e, fun e => ⟨e, rfl, fun j h1 h2 => by omega⟩⟩
  | n + 1, l, i, b, h => by
    simp only [passL]
    by_cases hs : shOk l i = true
    · rw [if_pos hs]
      have hl : (l.eraseIdx i).length = l.length - 1 := by rw [List.length_eraseIdx, if_pos (by omega)]
      have ih := pass_is n (l.eraseIdx i) i true (by omega)
      refine ⟨ih.sub.trans (List.eraseIdx_sublist ..), fun _ => ih.racy (shOk_racy hs), fun _ => .inr ?_, fun e => ?_⟩
      · have := ih.sub.length_le
        omega
      · have := (ih.same e).1
        cases this
    · rw [if_neg hs]
      have ih := pass_is n l (i + 1) b (by omega)
      refine ⟨ih.sub, ih.racy, ih.less, fun e => ?_⟩
      obtain ⟨h1, h2, h3⟩ := ih.same e
      refine ⟨h1, h2, fun j h4 h5 => ?_⟩
      by_cases e2 : j = i
      · subst e2; simpa using hs
      · exact h3 j (by omega) h5
def minL : Nat → List Ev → List Ev
  | 0, l => l
  | n + 1, l => if (passL l.length l 0 false).2 then minL n (passL l.length l 0 false).1 else (passL l.length l 0 false).1
structure Least (l m : List Ev) : Prop where
  sub : m.Sublist l
  racy : Racy l → Racy m
  min : ∀ j, j < m.length → shOk m j = false
theorem min_is : ∀ (n : Nat) (l : List Ev), l.length < n → Least l (minL n l)
  | 0, l, h => by omega
  | n + 1, l, h => by
    have hp := pass_is l.length l 0 false (by omega)
    simp only [minL]
    by_cases hb : (passL l.length l 0 false).2 = true
    · rw [if_pos hb]
      rcases hp.less hb with e | e
      · cases e
      · have ih := min_is n (passL l.length l 0 false).1 (by omega)
        exact ⟨ih.sub.trans hp.sub, fun hr => ih.racy (hp.racy hr), ih.min⟩
    · rw [if_neg hb]
      obtain ⟨_, h2, h3⟩ := hp.same (by simpa using hb)
      rw [h2]
      exact ⟨List.Sublist.refl _, id, fun j hj => h3 j (by omega) hj⟩
theorem pass_none {l : List Ev} : ∀ (n i : Nat) (b : Bool), i + n = l.length → (∀ j, j < l.length → shOk l j = false) → passL n l i b = (l, b)
  | 0, _, _, _, _ => rfl
  | n + 1, i, b, h, hs => by
    simp only [passL]
    rw [hs i (by omega)]
    exact pass_none n (i + 1) b (by omega) hs
theorem min_again {l : List Ev} {n : Nat} (hs : ∀ j, j < l.length → shOk l j = false) : minL n l = l := by
  cases n with
  | zero => rfl
  | succ n =>
    simp only [minL]
    rw [pass_none l.length 0 false (by omega) hs]
    rfl
/-- Where an event stood. -/
def up (d i : Nat) : Nat := if i < d then i else i + 1
theorem erase_at (l : List Ev) (d i : Nat) : evAt (l.eraseIdx d) i = evAt l (up d i) := by
  simp only [evAt, List.getD_eq_getElem?_getD, up, List.getElem?_eraseIdx]
  split <;> rfl
theorem up_lt {d i j : Nat} : up d i < up d j ↔ i < j := by
  unfold up
  split <;> split <;> omega
theorem R_erase {l : List Ev} (d : Nat) : ∀ (a k : Nat), R (l.eraseIdx d) a k = true → R l (up d a) (up d k) = true := by
  intro a
  induction a using Nat.strongRecOn with
  | ind a ih =>
    intro k h
    rw [(spec_all (l.eraseIdx d) a) k] at h
    obtain ⟨i, hi, hd, hk⟩ := h
    rw [erase_at, erase_at] at hd
    rw [(spec_all l (up d a)) (up d k)]
    refine ⟨up d i, up_lt.2 hi, hd, ?_⟩
    rcases hk with rfl | hk
    · exact .inl rfl
    · exact .inr (ih i hi k hk)
/-- Who raced races still. -/
theorem race_erase {l : List Ev} {d i j : Nat} (h : raceB l (up d i) (up d j) = true) : raceB (l.eraseIdx d) i j = true := by
  rw [raceB_iff] at h ⊢
  rw [erase_at, erase_at]
  refine ⟨h.1, h.2.1, h.2.2.1, ?_, h.2.2.2.2⟩
  rw [Bool.eq_false_iff]
  intro hR
  rw [R_erase d j i hR] at h
  have := h.2.2.2.1
  cases this
end Go.Proofs.YtfjbnhacfficnaaGreatDoor

/- Clocks of events and happens-before (Fidge, Mattern). No program. -/
namespace Go.Proofs.YtfjbnhacfficnaaGreatDoor

/-- The greatest of C over the places below j that satisfy P (0: there are none). -/
structure Top (j : Nat) (P : Nat → Prop) (C : Nat → Nat → Int) (τ : Nat) (m : Int) : Prop where
  le : ∀ i, i < j → P i → C i τ ≤ m
  is : m = 0 ∨ ∃ i, i < j ∧ P i ∧ m = C i τ
theorem Top.both {j : Nat} {P Q S : Nat → Prop} {C : Nat → Nat → Int} {τ : Nat} {m n : Int} (h : Top j P C τ m) (k : Top j Q C τ n) (hs : ∀ i, S i ↔ P i ∨ Q i) : Top j S C τ (max m n) := by
  constructor
  · intro i hi hS
    rcases (hs i).1 hS with h1 | h1
    · have := h.le i hi h1; omega
    · have := k.le i hi h1; omega
  · rcases (by omega : max m n = m ∨ max m n = n) with e | e
    · rw [e]; rcases h.is with h0 | ⟨i, h1, h2, h3⟩
      · exact .inl h0
      · exact .inr ⟨i, h1, (hs i).2 (.inl h2), h3⟩
    · rw [e]; rcases k.is with h0 | ⟨i, h1, h2, h3⟩
      · exact .inl h0
      · exact .inr ⟨i, h1, (hs i).2 (.inr h2), h3⟩
theorem Top.same {j : Nat} {P Q : Nat → Prop} {C : Nat → Nat → Int} {τ : Nat} {m : Int} (h : Top j P C τ m) (hs : ∀ i, i < j → (Q i ↔ P i)) : Top j Q C τ m :=
  ⟨fun i hi hq => h.le i hi ((hs i hi).1 hq), by
    rcases h.is with h0 | ⟨i, h1, h2, h3⟩
    · exact .inl h0
    · exact .inr ⟨i, h1, (hs i h1).2 h2, h3⟩⟩
theorem Top.next {j : Nat} {P : Nat → Prop} {C : Nat → Nat → Int} {τ : Nat} {m : Int} (h : Top j P C τ m) (hn : ¬ P j) : Top (j + 1) P C τ m :=
  ⟨fun i hi hp => by
    by_cases e : i = j
    · subst e; exact absurd hp hn
    · exact h.le i (by omega) hp, by
    rcases h.is with h0 | ⟨i, h1, h2, h3⟩
    · exact .inl h0
    · exact .inr ⟨i, by omega, h2, h3⟩⟩
/-- Place j is more than all that is there. -/
theorem Top.own {j : Nat} {P : Nat → Prop} {C : Nat → Nat → Int} {τ : Nat} (hP : P j) (hle : ∀ i, i < j → P i → C i τ ≤ C j τ) : Top (j + 1) P C τ (C j τ) :=
  ⟨fun i hi hp => by
    by_cases e : i = j
    · subst e; exact Int.le_refl _
    · exact hle i (by omega) hp, .inr ⟨j, by omega, hP, rfl⟩⟩
theorem Top.join {j : Nat} {P : Nat → Prop} {C : Nat → Nat → Int} {τ : Nat} {m : Int} (h : Top j P C τ m) (hP : P j) : Top (j + 1) P C τ (max m (C j τ)) :=
  ⟨fun i hi hp => by
    by_cases e : i = j
    · subst e; omega
    · have := h.le i (by omega) hp; omega, by
    rcases (by omega : max m (C j τ) = m ∨ max m (C j τ) = C j τ) with e | e
    · rw [e]; rcases h.is with h0 | ⟨i, h1, h2, h3⟩
      · exact .inl h0
      · exact .inr ⟨i, by omega, h2, h3⟩
    · rw [e]; exact .inr ⟨j, by omega, hP, rfl⟩⟩

section
variable {l : List Ev} (h : (played l).2.2 = 0)
/-- What each clock of the keeper is, ahead of place j. -/
structure KInv (l : List Ev) (j : Nat) : Prop where
  th : ∀ t τ : Nat, Top j (fun i => (evAt l i).t = t ∨ ((evAt l i).k = 5 ∧ (evAt l i).o = t)) (stampOf l) τ ((kAt l j).th t τ)
  lk : ∀ o τ : Nat, Top j (fun i => (evAt l i).k = 4 ∧ (evAt l i).o = o) (stampOf l) τ ((kAt l j).lk o τ)
  vo : ∀ o τ : Nat, Top j (fun i => (evAt l i).k = 8 ∧ (evAt l i).o = o) (stampOf l) τ ((kAt l j).vo o τ)
  nn : ∀ i, i < j → ∀ τ, 0 ≤ stampOf l i τ
include h
/-- What an event knows ahead of its tick: the most of what is directly ahead. -/
theorem pre_top {j : Nat} (hj : j < l.length) (hI : KInv l j) (τ : Nat) : Top j (fun i => dirE (evAt l i) (evAt l j) = true) (stampOf l) τ (kPre (kAt l j) (evAt l j) τ) := by
  obtain ⟨b1, b2, b3, b4⟩ := ev_at h hj
  have et : ((evAt l j).t.toNat : Int) = (evAt l j).t := by omega
  have eo : ((evAt l j).o.toNat : Int) = (evAt l j).o := by omega
  have h1 := hI.th (evAt l j).t.toNat τ
  unfold kPre
  split
  · rename_i k3
    refine Top.both h1 (hI.lk (evAt l j).o.toNat τ) fun i => ?_
    rw [dirE_iff, et, eo]
    omega
  · split
    · rename_i k3
      refine Top.both h1 (hI.vo (evAt l j).o.toNat τ) fun i => ?_
      rw [dirE_iff, et, eo]
      omega
    · split
      · rename_i k3
        refine Top.both h1 (hI.th (evAt l j).o.toNat τ) fun i => ?_
        rw [dirE_iff, et, eo]
        omega
      · refine h1.same fun i hi => ?_
        rw [dirE_iff, et]
        omega
theorem kinv : ∀ j, j ≤ l.length → KInv l j := by
  intro j
  induction j with
  | zero => exact fun _ => ⟨fun _ _ => ⟨fun _ h => by omega, .inl rfl⟩, fun _ _ => ⟨fun _ h => by omega, .inl rfl⟩, fun _ _ => ⟨fun _ h => by omega, .inl rfl⟩, fun _ h => by omega⟩
  | succ j ih =>
    intro hj1
    have hj : j < l.length := by omega
    have hI := ih (by omega)
    obtain ⟨b1, b2, b3, b4⟩ := ev_at h hj
    have et : ((evAt l j).t.toNat : Int) = (evAt l j).t := by omega
    have eo : ((evAt l j).o.toNat : Int) = (evAt l j).o := by omega
    have hp := pre_top h hj hI
    have hm : ∀ τ, stampOf l j τ = if τ = (evAt l j).t.toNat then kPre (kAt l j) (evAt l j) τ + 1 else kPre (kAt l j) (evAt l j) τ := fun τ => rfl
    have hge : ∀ i τ, i < j → dirE (evAt l i) (evAt l j) = true → stampOf l i τ ≤ stampOf l j τ := by
      intro i τ hi hd
      have := (hp τ).le i hi hd
      rw [hm]; split <;> omega
    have hnn : ∀ i, i < j + 1 → ∀ τ, 0 ≤ stampOf l i τ := by
      intro i hi τ
      by_cases e : i = j
      · subst e
        have h0 : 0 ≤ kPre (kAt l i) (evAt l i) τ := by
          rcases (hp τ).is with h0 | ⟨q, h1, _, h3⟩
          · omega
          · rw [h3]; exact hI.nn q h1 τ
        rw [hm]; split <;> omega
      · exact hI.nn i (by omega) τ
    -- the thread's own clock
    have hown : ∀ τ, Top (j + 1) (fun i => (evAt l i).t = (evAt l j).t ∨ ((evAt l i).k = 5 ∧ (evAt l i).o = (evAt l j).t)) (stampOf l) τ (stampOf l j τ) := by
      intro τ
      refine Top.own (.inl rfl) fun i hi hP => hge i τ hi (dirE_iff.2 ?_)
      rcases hP with h1 | h1
      · exact .inl h1
      · exact .inr (.inr (.inl h1))
    have hnoself : (evAt l j).k = 5 → (evAt l j).o ≠ (evAt l j).t := by
      intro k5 e
      have := fork_lt h hj hj k5 e.symm
      omega
    have hth : ∀ t : Nat, (t : Int) ≠ (evAt l j).t → ((evAt l j).k = 5 → (evAt l j).o ≠ t) → ∀ τ, Top (j + 1) (fun i => (evAt l i).t = t ∨ ((evAt l i).k = 5 ∧ (evAt l i).o = t)) (stampOf l) τ ((kAt l j).th t τ) := by
      intro t h1 h2 τ
      refine (hI.th t τ).next ?_
      rintro (h3 | ⟨h3, h4⟩)
      · exact h1 h3.symm
      · exact h2 h3 h4
    have hlk : (evAt l j).k ≠ 4 → ∀ o τ : Nat, Top (j + 1) (fun i => (evAt l i).k = 4 ∧ (evAt l i).o = o) (stampOf l) τ ((kAt l j).lk o τ) :=
      fun h1 o τ => (hI.lk o τ).next fun h2 => h1 h2.1
    have hvo : (evAt l j).k ≠ 8 → ∀ o τ : Nat, Top (j + 1) (fun i => (evAt l i).k = 8 ∧ (evAt l i).o = o) (stampOf l) τ ((kAt l j).vo o τ) :=
      fun h1 o τ => (hI.vo o τ).next fun h2 => h1 h2.1
    have hthr : (evAt l j).k ≠ 5 → ∀ t τ : Nat, Top (j + 1) (fun i => (evAt l i).t = t ∨ ((evAt l i).k = 5 ∧ (evAt l i).o = t)) (stampOf l) τ (updC (kAt l j).th (evAt l j).t.toNat (stampOf l j) t τ) := by
      intro h5 t τ
      unfold updC
      by_cases e : t = (evAt l j).t.toNat
      · rw [if_pos e, e, et]; exact hown τ
      · rw [if_neg e]; exact hth t (by omega) (fun k => absurd k h5) τ
    have hk : kAt l (j + 1) = kNext (kAt l j) (evAt l j) := rfl
    have hs : kMine (kAt l j) (evAt l j) = stampOf l j := rfl
    rcases (by omega : (evAt l j).k = 4 ∨ (evAt l j).k = 8 ∨ (evAt l j).k = 5 ∨ ((evAt l j).k ≠ 4 ∧ (evAt l j).k ≠ 8 ∧ (evAt l j).k ≠ 5)) with k | k | k | ⟨k4, k8, k5⟩
    · have e : kNext (kAt l j) (evAt l j) = { kAt l j with th := updC (kAt l j).th (evAt l j).t.toNat (stampOf l j), lk := updC (kAt l j).lk (evAt l j).o.toNat (cmax ((kAt l j).lk (evAt l j).o.toNat) (stampOf l j)) } := by simp [kNext, k, hs]
      refine ⟨?_, ?_, ?_, hnn⟩
      · rw [hk, e]; exact hthr (by omega)
      · rw [hk, e]
        intro o τ
        simp only [updC]
        by_cases e2 : o = (evAt l j).o.toNat
        · rw [if_pos e2, e2]
          exact Top.join (hI.lk _ τ) ⟨k, eo.symm⟩
        · rw [if_neg e2]
          exact (hI.lk o τ).next fun h2 => by omega
      · rw [hk, e]; exact hvo (by omega)
    · have e : kNext (kAt l j) (evAt l j) = { kAt l j with th := updC (kAt l j).th (evAt l j).t.toNat (stampOf l j), vo := updC (kAt l j).vo (evAt l j).o.toNat (cmax ((kAt l j).vo (evAt l j).o.toNat) (stampOf l j)) } := by simp [kNext, k, hs]
      refine ⟨?_, ?_, ?_, hnn⟩
      · rw [hk, e]; exact hthr (by omega)
      · rw [hk, e]; exact hlk (by omega)
      · rw [hk, e]
        intro o τ
        simp only [updC]
        by_cases e2 : o = (evAt l j).o.toNat
        · rw [if_pos e2, e2]
          exact Top.join (hI.vo _ τ) ⟨k, eo.symm⟩
        · rw [if_neg e2]
          exact (hI.vo o τ).next fun h2 => by omega
    · have e : kNext (kAt l j) (evAt l j) = { kAt l j with th := updC (updC (kAt l j).th (evAt l j).t.toNat (stampOf l j)) (evAt l j).o.toNat (stampOf l j) } := by simp [kNext, k, hs]
      have hne := hnoself k
      refine ⟨?_, ?_, ?_, hnn⟩
      · rw [hk, e]
        intro t τ
        simp only [updC]
        by_cases e2 : t = (evAt l j).o.toNat
        · rw [if_pos e2]
          refine ⟨fun i hi hP => ?_, .inr ⟨j, by omega, .inr ⟨k, by omega⟩, rfl⟩⟩
          rcases hP with h1 | ⟨h1, h2⟩
          · have := fork_lt h hj (show i < l.length by omega) k (by omega); omega
          · by_cases e3 : i = j
            · subst e3; exact Int.le_refl _
            · exfalso
              have a1 := (err0 ((ok_at h).1 j hj)).2.2.2.2.2.1 k
              have a2 : (stAt l (i + 1)).begun (evAt l i).o.toNat = true := by
                rw [stAt, stFrom_succ _ _ _ (by omega)]
                simp [nxt, h1, updB]
              have a3 := begun_mono (show i + 1 ≤ j by omega) (by omega) a2
              rw [show (evAt l i).o.toNat = (evAt l j).o.toNat by omega, a1] at a3
              cases a3
        · rw [if_neg e2]
          by_cases e3 : t = (evAt l j).t.toNat
          · rw [if_pos e3, e3, et]; exact hown τ
          · rw [if_neg e3]; exact hth t (by omega) (fun _ => by omega) τ
      · rw [hk, e]; exact hlk (by omega)
      · rw [hk, e]; exact hvo (by omega)
    · have e : kNext (kAt l j) (evAt l j) = { kAt l j with th := updC (kAt l j).th (evAt l j).t.toNat (stampOf l j) } := by simp [kNext, k4, k8, k5, hs]
      exact ⟨by rw [hk, e]; exact hthr k5, by rw [hk, e]; exact hlk k4, by rw [hk, e]; exact hvo k8, hnn⟩
/-- The clock of an event: the most of those directly ahead, and a tick. -/
theorem stamp_top {j : Nat} (hj : j < l.length) (τ : Nat) : ∃ m, Top j (fun i => dirE (evAt l i) (evAt l j) = true) (stampOf l) τ m ∧ stampOf l j τ = if τ = (evAt l j).t.toNat then m + 1 else m :=
  ⟨_, pre_top h hj (kinv h j (by omega)) τ, rfl⟩
theorem stamp_nn {j : Nat} (hj : j < l.length) (τ : Nat) : 0 ≤ stampOf l j τ := (kinv h l.length (Nat.le_refl _)).nn j hj τ
theorem stamp_dir {i j : Nat} (hij : i < j) (hj : j < l.length) (hd : dirE (evAt l i) (evAt l j) = true) (τ : Nat) : stampOf l i τ ≤ stampOf l j τ := by
  obtain ⟨m, h1, h2⟩ := stamp_top h hj τ
  have := h1.le i hij hd
  rw [h2]; split <;> omega
theorem stamp_R {i : Nat} : ∀ {j : Nat}, j < l.length → R l j i = true → ∀ τ, stampOf l i τ ≤ stampOf l j τ := by
  intro j
  induction j using Nat.strongRecOn with
  | _ j ih =>
    intro hj hR τ
    obtain ⟨q, h1, h2, rfl | h3⟩ := (spec_all l j i).1 hR
    · exact stamp_dir h h1 hj h2 τ
    · exact Int.le_trans (ih q h1 (by omega) h3 τ) (stamp_dir h h1 hj h2 τ)
end
/-- How many events of thread τ are below place n. -/
def cntT (l : List Ev) (τ : Int) : Nat → Int
  | 0 => 0
  | n + 1 => if (evAt l n).t = τ then cntT l τ n + 1 else cntT l τ n
theorem cntT_mono (l : List Ev) (τ : Int) {a b : Nat} (hab : a ≤ b) : cntT l τ a ≤ cntT l τ b := by
  induction b with
  | zero => obtain rfl : a = 0 := by omega
            exact Int.le_refl _
  | succ b ih =>
    by_cases e : a = b + 1
    · subst e; exact Int.le_refl _
    · have := ih (by omega)
      simp only [cntT]; split <;> omega
theorem cntT_nn (l : List Ev) (τ : Int) (n : Nat) : 0 ≤ cntT l τ n := cntT_mono l τ (Nat.zero_le n)
theorem cntT_le (l : List Ev) (τ : Int) (n : Nat) : cntT l τ n ≤ n := by
  induction n with
  | zero => exact Int.le_refl _
  | succ n ih => simp only [cntT]; split <;> omega
/-- Which one an event is of its thread, from 1. -/
def rkE (l : List Ev) (i : Nat) : Int := cntT l (evAt l i).t (i + 1)
theorem rkE_eq (l : List Ev) (i : Nat) : rkE l i = cntT l (evAt l i).t i + 1 := by simp [rkE, cntT]
theorem rkE_lt {l : List Ev} {i j : Nat} (hij : i < j) (ht : (evAt l i).t = (evAt l j).t) : rkE l i < rkE l j := by
  rw [rkE_eq l j, rkE, ht]
  have := cntT_mono l (evAt l j).t (show i + 1 ≤ j by omega)
  omega
/-- The last event of a thread below a place. -/
theorem last_of (l : List Ev) (τ : Int) : ∀ n, cntT l τ n = 0 ∨ ∃ i, i < n ∧ (evAt l i).t = τ ∧ cntT l τ n = rkE l i := by
  intro n
  induction n with
  | zero => exact .inl rfl
  | succ n ih =>
    simp only [cntT]
    by_cases e : (evAt l n).t = τ
    · rw [if_pos e]
      exact .inr ⟨n, by omega, e, by rw [rkE_eq, e]⟩
    · rw [if_neg e]
      rcases ih with h0 | ⟨i, h1, h2, h3⟩
      · exact .inl h0
      · exact .inr ⟨i, by omega, h2, h3⟩
theorem none_of (l : List Ev) (τ : Int) {n i : Nat} (h : cntT l τ n = 0) (hi : i < n) : (evAt l i).t ≠ τ := by
  intro e
  have h1 := cntT_mono l τ (show i + 1 ≤ n by omega)
  have h2 := cntT_nn l τ i
  simp only [cntT, if_pos e] at h1
  omega
section
variable {l : List Ev} (h : (played l).2.2 = 0)
include h
/-- An event's clock at a thread: the rank of the last event of that thread that is ahead, or is the event itself. -/
theorem stamp_rank : ∀ {j : Nat}, j < l.length → (∀ x, x = j ∨ R l j x = true → rkE l x ≤ stampOf l j (evAt l x).t.toNat) ∧ (∀ τ : Nat, stampOf l j τ = 0 ∨ ∃ x, (x = j ∨ R l j x = true) ∧ (evAt l x).t = τ ∧ stampOf l j τ = rkE l x) ∧ stampOf l j (evAt l j).t.toNat = rkE l j := by
  intro j
  induction j using Nat.strongRecOn with
  | _ j ih =>
    intro hj
    obtain ⟨b1, b2, b3, b4⟩ := ev_at h hj
    have et : ((evAt l j).t.toNat : Int) = (evAt l j).t := by omega
    -- its own thread
    have hown : stampOf l j (evAt l j).t.toNat = rkE l j := by
      obtain ⟨m, h1, h2⟩ := stamp_top h hj (evAt l j).t.toNat
      rw [if_pos rfl] at h2
      rw [h2, rkE_eq]
      have hle : m ≤ cntT l (evAt l j).t j := by
        rcases h1.is with h0 | ⟨i, h3, h4, h5⟩
        · rw [h0]; exact cntT_nn _ _ _
        · rcases (ih i h3 (by omega)).2.1 (evAt l j).t.toNat with h6 | ⟨x, h6, h7, h8⟩
          · rw [h5, h6]; exact cntT_nn _ _ _
          · rw [h5, h8, rkE, h7, et]
            have : x ≤ i := by rcases h6 with rfl | h6; omega; have := R_lt h6; omega
            exact cntT_mono _ _ (by omega)
      have hge : cntT l (evAt l j).t j ≤ m := by
        rcases last_of l (evAt l j).t j with h0 | ⟨i, h3, h4, h5⟩
        · rw [h0]
          rcases h1.is with h6 | ⟨i, h7, h8, h9⟩
          · omega
          · rw [h9]; exact stamp_nn h (by omega) _
        · rw [h5, ← (ih i h3 (by omega)).2.2, h4]
          exact h1.le i h3 (dirE_iff.2 (.inl h4))
      omega
    refine ⟨?_, ?_, hown⟩
    · rintro x (rfl | hR)
      · rw [hown]; exact Int.le_refl _
      · obtain ⟨q, h1, h2, h3⟩ := (spec_all l j x).1 hR
        have := (ih q h1 (by omega)).1 x (by rcases h3 with rfl | h3; exact .inl rfl; exact .inr h3)
        exact Int.le_trans this (stamp_dir h h1 hj h2 _)
    · intro τ
      by_cases e : τ = (evAt l j).t.toNat
      · subst e
        exact .inr ⟨j, .inl rfl, et.symm, hown⟩
      · obtain ⟨m, h1, h2⟩ := stamp_top h hj τ
        rw [if_neg e] at h2
        rcases h1.is with h0 | ⟨i, h3, h4, h5⟩
        · exact .inl (by rw [h2, h0])
        · rcases (ih i h3 (by omega)).2.1 τ with h6 | ⟨x, h6, h7, h8⟩
          · exact .inl (by rw [h2, h5, h6])
          · refine .inr ⟨x, .inr ?_, h7, by rw [h2, h5, h8]⟩
            rcases h6 with rfl | h6
            · exact R_dir h3 h4
            · exact R_trans (R_dir h3 h4) h6
/-- FIDGE; MATTERN. -/
theorem mattern {i j : Nat} (hi : i < l.length) (hj : j < l.length) (hij : i ≠ j) : R l j i = cle (stampOf l i) (stampOf l j) := by
  apply Bool.eq_iff_iff.2
  rw [cle_iff]
  constructor
  · exact fun hR τ _ => stamp_R h hj hR τ
  · intro hle
    obtain ⟨b1, b2, b3, b4⟩ := ev_at h hi
    have et : ((evAt l i).t.toNat : Int) = (evAt l i).t := by omega
    have h1 := hle (evAt l i).t.toNat (by omega)
    rw [(stamp_rank h hi).2.2] at h1
    have hpos : 1 ≤ rkE l i := by rw [rkE_eq]; have := cntT_nn l (evAt l i).t i; omega
    rcases (stamp_rank h hj).2.1 (evAt l i).t.toNat with h2 | ⟨x, h2, h3, h4⟩
    · omega
    · rw [et] at h3
      rw [h4] at h1
      have hxi : i ≤ x := by
        by_cases hh : x < i
        · have := rkE_lt hh h3; omega
        · omega
      rcases h2 with rfl | h2
      · exact R_dir (by omega) (dirE_iff.2 (.inl h3.symm))
      · by_cases e : x = i
        · subst e; exact h2
        · exact R_trans h2 (R_dir (by omega) (dirE_iff.2 (.inl h3.symm)))
theorem stamp_own {i : Nat} (hi : i < l.length) : stampOf l i (evAt l i).t.toNat = cntT l (evAt l i).t (i + 1) := (stamp_rank h hi).2.2
theorem stamp_many {i : Nat} (hi : i < l.length) (τ : Nat) : stampOf l i τ ≤ cntT l τ (i + 1) := by
  rcases (stamp_rank h hi).2.1 τ with h2 | ⟨x, h2, h3, h4⟩
  · rw [h2]; exact cntT_nn _ _ _
  · rw [h4, rkE, h3]
    have : x ≤ i := by rcases h2 with rfl | h2; omega; have := R_lt h2; omega
    exact cntT_mono _ _ (by omega)
end
end Go.Proofs.YtfjbnhacfficnaaGreatDoor

/- The detector by epochs, plain: its cells, its flags. No program. -/
namespace Go.Proofs.YtfjbnhacfficnaaGreatDoor

/-- What is kept of a variable: the last write's epoch; the last read's, or (many) a clock of reads; how often an epoch was not enough. -/
structure Fc where
  wt : Nat
  wn : Int
  many : Bool
  rt : Nat
  rn : Int
  rc : Nat → Int
  slow : Int
def Fc.first : Fc := ⟨0, 0, false, 0, 0, fun _ => 0, 0⟩
/-- Is what was read known to a clock? -/
def Fc.known (x : Fc) (c : Nat → Int) : Bool := if x.many then cle x.rc c else decide (x.rn ≤ c x.rt)
def Fc.seen (x : Fc) (c : Nat → Int) : Bool := decide (x.wn ≤ c x.wt)
def setC (f : Nat → Int) (t : Nat) (n : Int) : Nat → Int := fun i => if i = t then n else f i
/-- A read by thread t, that has clock c. -/
def Fc.read (x : Fc) (t : Nat) (c : Nat → Int) : Fc × Int :=
  if x.many = false ∧ x.rt = t ∧ x.rn = c t then (x, 0)
  else
    (if x.many then { x with rc := setC x.rc t (c t) }
      else if decide (x.rn ≤ c x.rt) then { x with rt := t, rn := c t }
      else { x with many := true, rc := setC (setC (fun _ => 0) x.rt x.rn) t (c t), slow := x.slow + 1 }, if x.seen c then 0 else 2)
def Fc.write (x : Fc) (t : Nat) (c : Nat → Int) : Fc × Int :=
  if x.wt = t ∧ x.wn = c t then (x, 0)
  else (if x.many then { x with wt := t, wn := c t, many := false, rt := 0, rn := 0 } else { x with wt := t, wn := c t }, if x.seen c then (if x.known c then 0 else 3) else 1)
def Fc.acc (x : Fc) (e : Ev) (c : Nat → Int) : Fc × Int := if e.k = 1 then x.read e.t.toNat c else x.write e.t.toNat c
/-- Is it an access of variable x? -/
def isAt (e : Ev) (x : Nat) : Bool := (decide (e.k = 1) || decide (e.k = 2)) && decide (e.o = x)
theorem isAt_iff {e : Ev} {x : Nat} : isAt e x = true ↔ (e.k = 1 ∨ e.k = 2) ∧ e.o = x := by simp [isAt]
/-- A variable's cell behind m events. -/
def cellAt (l : List Ev) (x : Nat) : Nat → Fc
  | 0 => Fc.first
  | m + 1 => if isAt (evAt l m) x then ((cellAt l x m).acc (evAt l m) (vw l m)).1 else cellAt l x m
/-- What event m is flagged as. -/
def qKind (l : List Ev) (m : Nat) : Int := if isAt (evAt l m) (evAt l m).o.toNat then ((cellAt l (evAt l m).o.toNat m).acc (evAt l m) (vw l m)).2 else 0
def qFlags (l : List Ev) : Nat → List Ev
  | 0 => []
  | m + 1 => if qKind l m = 0 then qFlags l m else qFlags l m ++ [⟨m, (evAt l m).o, qKind l m⟩]
theorem mem_qFlags {l : List Ev} {f : Ev} : ∀ {m : Nat}, f ∈ qFlags l m ↔ ∃ i, i < m ∧ qKind l i ≠ 0 ∧ f = ⟨i, (evAt l i).o, qKind l i⟩ := by
  intro m
  induction m with
  | zero => simp [qFlags]
  | succ m ih =>
    simp only [qFlags]
    split
    · rename_i h0
      rw [ih]
      constructor
      · rintro ⟨i, h1, h2, h3⟩; exact ⟨i, by omega, h2, h3⟩
      · rintro ⟨i, h1, h2, h3⟩
        by_cases e : i = m
        · subst e; exact absurd h0 h2
        · exact ⟨i, by omega, h2, h3⟩
    · rename_i h0
      rw [List.mem_append, ih, List.mem_singleton]
      constructor
      · rintro (⟨i, h1, h2, h3⟩ | h3)
        · exact ⟨i, by omega, h2, h3⟩
        · exact ⟨m, by omega, h0, h3⟩
      · rintro ⟨i, h1, h2, h3⟩
        by_cases e : i = m
        · subst e; exact .inr h3
        · exact .inl ⟨i, by omega, h2, h3⟩
section
variable {l : List Ev} (h : (played l).2.2 = 0)
/-- Each number of a cell is the epoch of an access, or 0. -/
structure CW (l : List Ev) (x m : Nat) (s : Fc) : Prop where
  w : (s.wn = 0 ∧ s.wt = 0) ∨ ∃ i, i < m ∧ (evAt l i).k = 2 ∧ (evAt l i).o = x ∧ s.wt = (evAt l i).t.toNat ∧ s.wn = epo l i
  r : s.many = false → (s.rn = 0 ∧ s.rt = 0) ∨ ∃ i, i < m ∧ (evAt l i).k = 1 ∧ (evAt l i).o = x ∧ s.rt = (evAt l i).t.toNat ∧ s.rn = epo l i
  c : s.many = true → ∀ τ, s.rc τ = 0 ∨ ∃ i, i < m ∧ (evAt l i).k = 1 ∧ (evAt l i).o = x ∧ τ = (evAt l i).t.toNat ∧ s.rc τ = epo l i
theorem CW.up {x m : Nat} {s : Fc} (hc : CW l x m s) : CW l x (m + 1) s := by
  refine ⟨?_, fun hm => ?_, fun hm τ => ?_⟩
  · rcases hc.w with h1 | ⟨i, h1, h2⟩
    · exact .inl h1
    · exact .inr ⟨i, by omega, h2⟩
  · rcases hc.r hm with h1 | ⟨i, h1, h2⟩
    · exact .inl h1
    · exact .inr ⟨i, by omega, h2⟩
  · rcases hc.c hm τ with h1 | ⟨i, h1, h2⟩
    · exact .inl h1
    · exact .inr ⟨i, by omega, h2⟩
theorem cw_at (x : Nat) : ∀ m, CW l x m (cellAt l x m) := by
  intro m
  induction m with
  | zero => exact ⟨.inl ⟨rfl, rfl⟩, fun _ => .inl ⟨rfl, rfl⟩, fun h => by cases h⟩
  | succ m ih =>
    simp only [cellAt]
    by_cases ha : isAt (evAt l m) x = true
    · rw [if_pos ha]
      obtain ⟨hk, ho⟩ := isAt_iff.1 ha
      have hu := ih.up
      generalize cellAt l x m = s at *
      unfold Fc.acc
      have ev : vw l m (evAt l m).t.toNat = epo l m := rfl
      by_cases k1 : (evAt l m).k = 1
      · rw [if_pos k1]
        unfold Fc.read
        split
        · exact hu
        · simp only
          split
          · rename_i hmany
            refine ⟨hu.w, fun hh => (by simp [hmany] at hh), fun _ τ => ?_⟩
            by_cases e : τ = (evAt l m).t.toNat
            · exact .inr ⟨m, by omega, k1, ho, e, by simp [setC, e, ev]⟩
            · simp only [setC, if_neg e]
              exact hu.c hmany τ
          · split
            · exact ⟨hu.w, fun _ => .inr ⟨m, by omega, k1, ho, rfl, ev⟩, fun hh => (by rename_i h1 _; exact absurd hh h1)⟩
            · rename_i hm0 _
              have hm0 : s.many = false := by simpa using hm0
              refine ⟨hu.w, fun hh => (by simp at hh), fun _ τ => ?_⟩
              by_cases e : τ = (evAt l m).t.toNat
              · exact .inr ⟨m, by omega, k1, ho, e, by simp [setC, e, ev]⟩
              · simp only [setC, if_neg e]
                by_cases e2 : τ = s.rt
                · rw [if_pos e2]
                  rcases hu.r hm0 with h1 | ⟨i, h1, h2, h3, h4, h5⟩
                  · exact .inl h1.1
                  · exact .inr ⟨i, h1, h2, h3, by rw [e2, h4], h5⟩
                · rw [if_neg e2]; exact .inl rfl
      · rw [if_neg k1]
        have k2 : (evAt l m).k = 2 := by omega
        unfold Fc.write
        split
        · exact hu
        · simp only
          split
          · exact ⟨.inr ⟨m, by omega, k2, ho, rfl, ev⟩, fun _ => .inl ⟨rfl, rfl⟩, fun hh => (by simp at hh)⟩
          · exact ⟨.inr ⟨m, by omega, k2, ho, rfl, ev⟩, hu.r, hu.c⟩
    · rw [if_neg ha]; exact ih.up
include h
/-- Whatever is flagged is the second of a race, of a kind that there is. -/
theorem fast_true {j : Nat} (hj : j < l.length) (hq : qKind l j ≠ 0) : ∃ i, i < j ∧ raceB l i j = true ∧ kindR (evAt l i) (evAt l j) = qKind l j := by
  have hat : isAt (evAt l j) (evAt l j).o.toNat = true := by
    unfold qKind at hq
    by_cases e : isAt (evAt l j) (evAt l j).o.toNat = true
    · exact e
    · rw [if_neg e] at hq; exact absurd rfl hq
  obtain ⟨hk, ho⟩ := isAt_iff.1 hat
  have hc := cw_at (l := l) (evAt l j).o.toNat j
  have hqe : qKind l j = ((cellAt l (evAt l j).o.toNat j).acc (evAt l j) (vw l j)).2 := by unfold qKind; rw [if_pos hat]
  rw [hqe] at hq ⊢
  generalize cellAt l (evAt l j).o.toNat j = s at *
  have nn := vw_nn h (i := j) (by omega)
  -- an access whose epoch is not known races
  have key : ∀ i, i < j → ((evAt l i).k = 1 ∨ (evAt l i).k = 2) → (evAt l i).o = (evAt l j).o.toNat → ¬ epo l i ≤ vw l j (evAt l i).t.toNat → ((evAt l i).k = 2 ∨ (evAt l j).k = 2) → raceB l i j = true := by
    intro i hij hki hoi hne hw
    rw [raceB_iff]
    refine ⟨isAccR_iff.2 hki, isAccR_iff.2 hk, by omega, ?_, hw⟩
    rw [Bool.eq_false_iff]
    intro hR
    exact hne ((epoch h hij hj hki hk).1 hR)
  have hww : s.seen (vw l j) = false → ∃ i, i < j ∧ (evAt l i).k = 2 ∧ (evAt l i).o = (evAt l j).o.toNat ∧ ¬ epo l i ≤ vw l j (evAt l i).t.toNat := by
    intro hs
    simp only [Fc.seen, decide_eq_false_iff_not] at hs
    rcases hc.w with ⟨h1, h2⟩ | ⟨i, h1, h2, h3, h4, h5⟩
    · rw [h1] at hs; exact absurd (nn _) hs
    · exact ⟨i, h1, h2, h3, by rw [← h4, ← h5]; exact hs⟩
  have hrr : s.known (vw l j) = false → ∃ i, i < j ∧ (evAt l i).k = 1 ∧ (evAt l i).o = (evAt l j).o.toNat ∧ ¬ epo l i ≤ vw l j (evAt l i).t.toNat := by
    intro hs
    unfold Fc.known at hs
    split at hs
    · rename_i hm
      have : ∃ τ, ¬ s.rc τ ≤ vw l j τ := by
        by_cases hh : ∃ τ, ¬ s.rc τ ≤ vw l j τ
        · exact hh
        · exfalso
          have : cle s.rc (vw l j) = true := cle_iff.2 fun τ _ => by
            by_cases h2 : s.rc τ ≤ vw l j τ
            · exact h2
            · exact absurd ⟨τ, h2⟩ hh
          rw [this] at hs; cases hs
      obtain ⟨τ, hτ⟩ := this
      rcases hc.c hm τ with h1 | ⟨i, h1, h2, h3, h4, h5⟩
      · rw [h1] at hτ; exact absurd (nn _) hτ
      · exact ⟨i, h1, h2, h3, by rw [← h4, ← h5]; exact hτ⟩
    · rename_i hm
      simp only [decide_eq_false_iff_not] at hs
      rcases hc.r (by simpa using hm) with ⟨h1, h2⟩ | ⟨i, h1, h2, h3, h4, h5⟩
      · rw [h1] at hs; exact absurd (nn _) hs
      · exact ⟨i, h1, h2, h3, by rw [← h4, ← h5]; exact hs⟩
  unfold Fc.acc at hq ⊢
  by_cases k1 : (evAt l j).k = 1
  · rw [if_pos k1] at hq ⊢
    unfold Fc.read at hq ⊢
    split at hq
    · exact absurd rfl hq
    · rename_i hns
      rw [if_neg hns]
      simp only at hq ⊢
      cases hs : s.seen (vw l j)
      · obtain ⟨i, h1, h2, h3, h4⟩ := hww hs
        exact ⟨i, h1, key i h1 (.inr h2) h3 h4 (.inl h2), by simp [kindR, h2, k1]⟩
      · rw [hs] at hq; simp at hq
  · rw [if_neg k1] at hq ⊢
    have k2 : (evAt l j).k = 2 := by omega
    unfold Fc.write at hq ⊢
    split at hq
    · exact absurd rfl hq
    · rename_i hns
      rw [if_neg hns]
      simp only at hq ⊢
      cases hs : s.seen (vw l j)
      · obtain ⟨i, h1, h2, h3, h4⟩ := hww hs
        exact ⟨i, h1, key i h1 (.inr h2) h3 h4 (.inl h2), by simp [kindR, h2, k2]⟩
      · rw [hs] at hq
        cases hs2 : s.known (vw l j)
        · obtain ⟨i, h1, h2, h3, h4⟩ := hrr hs2
          exact ⟨i, h1, key i h1 (.inl h2) h3 h4 (.inr k2), by simp [kindR, h2, k2]⟩
        · rw [hs2] at hq; simp at hq
end
end Go.Proofs.YtfjbnhacfficnaaGreatDoor

/- The detector by epochs: where it flags nothing there is no race. No program. -/
namespace Go.Proofs.YtfjbnhacfficnaaGreatDoor

theorem C_step (s : Fk) (e : Ev) (u t : Nat) : s.C u t ≤ (fSync s e).C u t := by
  unfold fSync
  generalize e.t.toNat = a
  generalize e.o.toNat = b
  repeat' split
  all_goals
    try simp only [upF]
    (repeat' (first | split | simp only [cmax] | simp only [tkF])) <;> (try subst_vars) <;> (first | omega | (simp_all; try omega))
theorem C_mono (l : List Ev) (u t : Nat) {i j : Nat} (h : i ≤ j) : (fAt l i).C u t ≤ (fAt l j).C u t := by
  induction j with
  | zero => obtain rfl : i = 0 := by omega
            exact Int.le_refl _
  | succ j ih =>
    by_cases e : i = j + 1
    · subst e; exact Int.le_refl _
    · exact Int.le_trans (ih (by omega)) (C_step _ _ _ _)
def acc (e : Ev) : Prop := e.k = 1 ∨ e.k = 2
section
variable {l : List Ev} (h : (played l).2.2 = 0)
include h
/-- Another thread does not know the epoch that one has later. -/
theorem strict {i j : Nat} (hij : i < j) (hj : j < l.length) (ht : (evAt l i).t ≠ (evAt l j).t) : vw l i (evAt l j).t.toNat < epo l j := by
  have ho := (err0 ((ok_at h).1 j hj)).2.2.1
  have ho2 : (stAt l i).over (evAt l j).t.toNat = false := by
    cases hh : (stAt l i).over (evAt l j).t.toNat
    · rfl
    · rw [over_mono (show i ≤ j by omega) (by omega) hh] at ho; cases ho
  have h1 := tn h hj
  have h2 := tn h (show i < l.length by omega)
  have h3 := (finv h i (by omega)).lt (evAt l i).t.toNat (evAt l j).t.toNat (by omega) ho2
  have h4 := C_mono l (evAt l j).t.toNat (evAt l j).t.toNat (show i ≤ j by omega)
  simp only [vw, epo] at *
  omega
/-- What a cell is good for, as long as nothing was flagged. -/
structure FI (l : List Ev) (x m : Nat) (s : Fc) : Prop where
  cw : ∀ j, m ≤ j → j < l.length → acc (evAt l j) → s.wn ≤ vw l j s.wt → ∀ i, i < m → (evAt l i).k = 2 → (evAt l i).o = x → R l j i = true
  cr : ∀ j, m ≤ j → j < l.length → acc (evAt l j) → s.wn ≤ vw l j s.wt → s.known (vw l j) = true → ∀ i, i < m → (evAt l i).k = 1 → (evAt l i).o = x → R l j i = true
  sr : s.many = false → 0 < s.rn → ∀ j, m ≤ j → j < l.length → acc (evAt l j) → (evAt l j).t.toNat = s.rt → epo l j = s.rn → ∀ i, i < m → (evAt l i).k = 2 → (evAt l i).o = x → R l j i = true
  sw : 0 < s.wn → ∀ j, m ≤ j → j < l.length → acc (evAt l j) → (evAt l j).t.toNat = s.wt → epo l j = s.wn → ∀ i, i < m → acc (evAt l i) → (evAt l i).o = x → R l j i = true
theorem same_R {i j : Nat} (hij : i < j) (hj : j < l.length) (ht : (evAt l j).t.toNat = (evAt l i).t.toNat) : R l j i = true := by
  have h1 := tn h hj
  have h2 := tn h (show i < l.length by omega)
  exact R_dir hij (dirE_iff.2 (.inl (by omega)))
theorem fi_read {x m : Nat} {s : Fc} (hm : m < l.length) (hc : CW l x m s) (hI : FI l x m s) (k1 : (evAt l m).k = 1) (ho : (evAt l m).o = x) (hq : (s.read (evAt l m).t.toNat (vw l m)).2 = 0) :
    FI l x (m + 1) (s.read (evAt l m).t.toNat (vw l m)).1 ∧ ∀ i, i < m → (evAt l i).k = 2 → (evAt l i).o = x → R l m i = true := by
  have ha : acc (evAt l m) := .inl k1
  have ev : vw l m (evAt l m).t.toNat = epo l m := rfl
  have hp := epo_pos h (i := m) (by omega)
  have t6 : (evAt l m).t.toNat < 6 := by have := ev_at h hm; omega
  have kn : ∀ j, m + 1 ≤ j → j < l.length → acc (evAt l j) → epo l m ≤ vw l j (evAt l m).t.toNat → R l j m = true := fun j h1 h2 h3 h4 => (epoch h (by omega) h2 ha h3).2 h4
  unfold Fc.read at hq ⊢
  by_cases hs : s.many = false ∧ s.rt = (evAt l m).t.toNat ∧ s.rn = vw l m (evAt l m).t.toNat
  · rw [if_pos hs] at hq ⊢
    obtain ⟨s1, s2, s3⟩ := hs
    rw [ev] at s3
    have hmr : ∀ i, i < m → (evAt l i).k = 2 → (evAt l i).o = x → R l m i = true := hI.sr s1 (by omega) m (Nat.le_refl _) hm ha s2.symm (by omega)
    refine ⟨⟨?_, ?_, ?_, ?_⟩, hmr⟩
    · intro j h1 h2 h3 h4 i h5 h6 h7
      have : i ≠ m := by rintro rfl; omega
      exact hI.cw j (by omega) h2 h3 h4 i (by omega) h6 h7
    · intro j h1 h2 h3 h4 h4' i h5 h6 h7
      by_cases e : i = m
      · subst e
        refine kn j h1 h2 h3 ?_
        simp only [Fc.known, s1] at h4'
        rw [← s3, ← s2]
        simpa using h4'
      · exact hI.cr j (by omega) h2 h3 h4 h4' i (by omega) h6 h7
    · intro _ h0 j h1 h2 h3 h4 h4' i h5 h6 h7
      have : i ≠ m := by rintro rfl; omega
      exact hI.sr s1 h0 j (by omega) h2 h3 h4 h4' i (by omega) h6 h7
    · intro h0 j h1 h2 h3 h4 h4' i h5 h6 h7
      replace h0 : 0 < s.wn := h0
      replace h4 : (evAt l j).t.toNat = s.wt := h4
      replace h4' : epo l j = s.wn := h4'
      by_cases e : i = m
      · subst e
        by_cases et : (evAt l j).t = (evAt l i).t
        · exact same_R h (by omega) h2 (by rw [et])
        · exfalso
          rcases hc.w with ⟨w1, w2⟩ | ⟨w, w1, w2, w3, w4, w5⟩
          · omega
          · have hR := hmr w w1 w2 w3
            have h8 := (epoch h w1 hm (.inr w2) ha).1 hR
            have h9 := strict h (i := i) (j := j) (by omega) h2 (fun e => et e.symm)
            rw [← w4, ← w5, ← h4] at h8
            omega
      · exact hI.sw h0 j (by omega) h2 h3 h4 h4' i (by omega) h6 h7
  · rw [if_neg hs] at hq ⊢
    simp only at hq ⊢
    have hseen : s.wn ≤ vw l m s.wt := by
      by_cases hh : s.wn ≤ vw l m s.wt
      · exact hh
      · simp [Fc.seen, hh] at hq
    have hmr : ∀ i, i < m → (evAt l i).k = 2 → (evAt l i).o = x → R l m i = true := hI.cw m (Nat.le_refl _) hm ha hseen
    -- what does not hang on the read's part
    have CWk : ∀ j, m + 1 ≤ j → j < l.length → acc (evAt l j) → s.wn ≤ vw l j s.wt → ∀ i, i < m + 1 → (evAt l i).k = 2 → (evAt l i).o = x → R l j i = true := by
      intro j h1 h2 h3 h4 i h5 h6 h7
      have : i ≠ m := by rintro rfl; omega
      exact hI.cw j (by omega) h2 h3 h4 i (by omega) h6 h7
    have SWk : 0 < s.wn → ∀ j, m + 1 ≤ j → j < l.length → acc (evAt l j) → (evAt l j).t.toNat = s.wt → epo l j = s.wn → ∀ i, i < m + 1 → acc (evAt l i) → (evAt l i).o = x → R l j i = true := by
      intro h0 j h1 h2 h3 h4 h4' i h5 h6 h7
      by_cases e : i = m
      · subst e
        by_cases et : (evAt l j).t = (evAt l i).t
        · exact same_R h (by omega) h2 (by rw [et])
        · exfalso
          have h9 := strict h (i := i) (j := j) (by omega) h2 (fun e => et e.symm)
          rw [h4] at h9
          omega
      · exact hI.sw h0 j (by omega) h2 h3 h4 h4' i (by omega) h6 h7
    refine ⟨?_, hmr⟩
    by_cases hmany : s.many = true
    · rw [if_pos hmany]
      refine ⟨CWk, ?_, fun hh => (by simp [hmany] at hh), SWk⟩
      intro j h1 h2 h3 h4 h4' i h5 h6 h7
      simp only [Fc.known, hmany, if_true] at h4'
      have hle := cle_iff.1 h4'
      have hself := hle _ t6
      simp only [setC, if_true, ev] at hself
      by_cases e : i = m
      · subst e; exact kn j h1 h2 h3 hself
      · refine hI.cr j (by omega) h2 h3 h4 ?_ i (by omega) h6 h7
        simp only [Fc.known, hmany, if_true]
        refine cle_iff.2 fun τ hτ => ?_
        by_cases e2 : τ = (evAt l m).t.toNat
        · subst e2
          rcases hc.c hmany (evAt l m).t.toNat with c1 | ⟨q, q1, q2, q3, q4, q5⟩
          · rw [c1]; exact vw_nn h (by omega) _
          · rw [q5]
            have e3 := tn h hm
            have e4 := tn h (show q < l.length by omega)
            have := epo_mono h q1 hm (.inl q2) (by omega)
            omega
        · have := hle τ hτ
          simp only [setC, if_neg e2] at this
          exact this
    · rw [if_neg hmany]
      have hm0 : s.many = false := by simpa using hmany
      by_cases hk : s.rn ≤ vw l m s.rt
      · rw [if_pos (by simpa using hk)]
        refine ⟨CWk, ?_, ?_, SWk⟩
        · intro j h1 h2 h3 h4 h4' i h5 h6 h7
          simp only [Fc.known, hm0] at h4'
          have hself : epo l m ≤ vw l j (evAt l m).t.toNat := by simpa [ev] using h4'
          have hjm := kn j h1 h2 h3 hself
          by_cases e : i = m
          · subst e; exact hjm
          · exact R_trans hjm (hI.cr m (Nat.le_refl _) hm ha hseen (by simp [Fc.known, hm0, hk]) i (by omega) h6 h7)
        · intro _ _ j h1 h2 h3 h4 h4' i h5 h6 h7
          have : i ≠ m := by rintro rfl; omega
          simp only at h4
          exact R_trans (same_R h (by omega) h2 h4) (hmr i (by omega) h6 h7)
      · rw [if_neg (by simpa using hk)]
        have hrt : s.rt ≠ (evAt l m).t.toNat := by
          intro e
          apply hk
          rcases hc.r hm0 with ⟨c1, _⟩ | ⟨q, q1, q2, q3, q4, q5⟩
          · rw [c1]; exact vw_nn h (by omega) _
          · rw [e, q5, ev]
            have e3 := tn h hm
            have e4 := tn h (show q < l.length by omega)
            exact epo_mono h q1 hm (.inl q2) (by omega)
        have hr6 : s.rt < 6 := by
          rcases hc.r hm0 with ⟨_, c1⟩ | ⟨q, q1, q2, q3, q4, q5⟩
          · omega
          · have := ev_at h (show q < l.length by omega); omega
        refine ⟨CWk, ?_, fun hh => (by simp at hh), SWk⟩
        intro j h1 h2 h3 h4 h4' i h5 h6 h7
        simp only [Fc.known, if_true] at h4'
        have hle := cle_iff.1 h4'
        have hself := hle _ t6
        simp only [setC, if_true, ev] at hself
        have hrr := hle _ hr6
        simp only [setC, if_neg hrt, if_true] at hrr
        by_cases e : i = m
        · subst e; exact kn j h1 h2 h3 hself
        · exact hI.cr j (by omega) h2 h3 h4 (by simp [Fc.known, hm0, hrr]) i (by omega) h6 h7
theorem fi_write {x m : Nat} {s : Fc} (hm : m < l.length) (hc : CW l x m s) (hI : FI l x m s) (k2 : (evAt l m).k = 2) (ho : (evAt l m).o = x) (hq : (s.write (evAt l m).t.toNat (vw l m)).2 = 0) :
    FI l x (m + 1) (s.write (evAt l m).t.toNat (vw l m)).1 ∧ ∀ i, i < m → acc (evAt l i) → (evAt l i).o = x → R l m i = true := by
  have ha : acc (evAt l m) := .inr k2
  have ev : vw l m (evAt l m).t.toNat = epo l m := rfl
  have hp := epo_pos h (i := m) (by omega)
  have kn : ∀ j, m + 1 ≤ j → j < l.length → acc (evAt l j) → epo l m ≤ vw l j (evAt l m).t.toNat → R l j m = true := fun j h1 h2 h3 h4 => (epoch h (by omega) h2 ha h3).2 h4
  unfold Fc.write at hq ⊢
  by_cases hs : s.wt = (evAt l m).t.toNat ∧ s.wn = vw l m (evAt l m).t.toNat
  · rw [if_pos hs] at hq ⊢
    obtain ⟨s2, s3⟩ := hs
    rw [ev] at s3
    have hmr : ∀ i, i < m → acc (evAt l i) → (evAt l i).o = x → R l m i = true := hI.sw (by omega) m (Nat.le_refl _) hm ha s2.symm (by omega)
    refine ⟨⟨?_, ?_, ?_, ?_⟩, hmr⟩
    · intro j h1 h2 h3 h4 i h5 h6 h7
      by_cases e : i = m
      · subst e; exact kn j h1 h2 h3 (by rw [← s2, ← s3]; exact h4)
      · exact hI.cw j (by omega) h2 h3 h4 i (by omega) h6 h7
    · intro j h1 h2 h3 h4 h4' i h5 h6 h7
      have : i ≠ m := by rintro rfl; omega
      exact hI.cr j (by omega) h2 h3 h4 h4' i (by omega) h6 h7
    · intro hmany h0 j h1 h2 h3 h4 h4' i h5 h6 h7
      replace h0 : 0 < s.rn := h0
      replace h4 : (evAt l j).t.toNat = s.rt := h4
      replace h4' : epo l j = s.rn := h4'
      by_cases e : i = m
      · subst e
        by_cases et : (evAt l j).t = (evAt l i).t
        · exact same_R h (by omega) h2 (by rw [et])
        · exfalso
          rcases hc.r hmany with ⟨w1, w2⟩ | ⟨w, w1, w2, w3, w4, w5⟩
          · omega
          · have hR := hmr w w1 (.inl w2) w3
            have h8 := (epoch h w1 hm (.inl w2) ha).1 hR
            have h9 := strict h (i := i) (j := j) (by omega) h2 (fun e => et e.symm)
            rw [← w4, ← w5, ← h4] at h8
            omega
      · exact hI.sr hmany h0 j (by omega) h2 h3 h4 h4' i (by omega) h6 h7
    · intro h0 j h1 h2 h3 h4 h4' i h5 h6 h7
      by_cases e : i = m
      · subst e; exact same_R h (by omega) h2 (by rw [h4, s2])
      · exact hI.sw h0 j (by omega) h2 h3 h4 h4' i (by omega) h6 h7
  · rw [if_neg hs] at hq ⊢
    simp only at hq ⊢
    have hseen : s.wn ≤ vw l m s.wt := by
      by_cases hh : s.wn ≤ vw l m s.wt
      · exact hh
      · simp [Fc.seen, hh] at hq
    have hknown : s.known (vw l m) = true := by
      by_cases hh : s.known (vw l m) = true
      · exact hh
      · simp [Fc.seen, hseen, hh] at hq
    have hmr : ∀ i, i < m → acc (evAt l i) → (evAt l i).o = x → R l m i = true := by
      intro i h1 h2 h3
      rcases h2 with h2 | h2
      · exact hI.cr m (Nat.le_refl _) hm ha hseen hknown i h1 h2 h3
      · exact hI.cw m (Nat.le_refl _) hm ha hseen i h1 h2 h3
    have CWk : ∀ j, m + 1 ≤ j → j < l.length → acc (evAt l j) → epo l m ≤ vw l j (evAt l m).t.toNat → ∀ i, i < m + 1 → acc (evAt l i) → (evAt l i).o = x → R l j i = true := by
      intro j h1 h2 h3 h4 i h5 h6 h7
      have hjm := kn j h1 h2 h3 h4
      by_cases e : i = m
      · subst e; exact hjm
      · exact R_trans hjm (hmr i (by omega) h6 h7)
    have SWk : ∀ j, m + 1 ≤ j → j < l.length → (evAt l j).t.toNat = (evAt l m).t.toNat → ∀ i, i < m + 1 → acc (evAt l i) → (evAt l i).o = x → R l j i = true := by
      intro j h1 h2 h4 i h5 h6 h7
      have hjm := same_R h (show m < j by omega) h2 h4
      by_cases e : i = m
      · subst e; exact hjm
      · exact R_trans hjm (hmr i (by omega) h6 h7)
    refine ⟨?_, hmr⟩
    by_cases hmany : s.many = true
    · rw [if_pos hmany]
      exact ⟨fun j h1 h2 h3 h4 i h5 h6 h7 => CWk j h1 h2 h3 h4 i h5 (.inr h6) h7, fun j h1 h2 h3 h4 _ i h5 h6 h7 => CWk j h1 h2 h3 h4 i h5 (.inl h6) h7, fun _ hh => (by simp at hh), fun _ j h1 h2 _ h4 _ i h5 h6 h7 => SWk j h1 h2 h4 i h5 h6 h7⟩
    · rw [if_neg hmany]
      have hm0 : s.many = false := by simpa using hmany
      refine ⟨fun j h1 h2 h3 h4 i h5 h6 h7 => CWk j h1 h2 h3 h4 i h5 (.inr h6) h7, fun j h1 h2 h3 h4 _ i h5 h6 h7 => CWk j h1 h2 h3 h4 i h5 (.inl h6) h7, ?_, fun _ j h1 h2 _ h4 _ i h5 h6 h7 => SWk j h1 h2 h4 i h5 h6 h7⟩
      intro _ h0 j h1 h2 h3 h4 h4' i h5 h6 h7
      by_cases e : i = m
      · subst e
        by_cases et : (evAt l j).t = (evAt l i).t
        · exact same_R h (by omega) h2 (by rw [et])
        · exfalso
          have h9 := strict h (i := i) (j := j) (by omega) h2 (fun e => et e.symm)
          have hk : s.rn ≤ vw l i s.rt := by simpa [Fc.known, hm0] using hknown
          simp only at h4 h4'
          rw [h4] at h9
          omega
      · exact hI.sr hm0 h0 j (by omega) h2 h3 h4 h4' i (by omega) h6 h7
theorem fi_at (x : Nat) : ∀ m, m ≤ l.length → (∀ i, i < m → (evAt l i).o = x → qKind l i = 0) → FI l x m (cellAt l x m) := by
  intro m
  induction m with
  | zero => intro _ _; exact ⟨fun _ _ _ _ _ i h => by omega, fun _ _ _ _ _ _ i h => by omega, fun _ h => by simp [cellAt, Fc.first] at h, fun h => by simp [cellAt, Fc.first] at h⟩
  | succ m ih =>
    intro hm1 hq
    have hm : m < l.length := by omega
    have hI := ih (by omega) fun i hi => hq i (by omega)
    have hc := cw_at (l := l) x m
    simp only [cellAt]
    by_cases ha : isAt (evAt l m) x = true
    · rw [if_pos ha]
      obtain ⟨hk, ho⟩ := isAt_iff.1 ha
      have h0 := hq m (by omega) ho
      have hon : (evAt l m).o.toNat = x := by omega
      unfold qKind at h0
      rw [hon, if_pos ha] at h0
      unfold Fc.acc at h0 ⊢
      by_cases k1 : (evAt l m).k = 1
      · rw [if_pos k1] at h0 ⊢
        exact (fi_read h hm hc hI k1 ho h0).1
      · rw [if_neg k1] at h0 ⊢
        exact (fi_write h hm hc hI (by omega) ho h0).1
    · rw [if_neg ha]
      have hno : ∀ i, i < m + 1 → acc (evAt l i) → (evAt l i).o = x → i < m := by
        intro i h1 h2 h3
        by_cases e : i = m
        · subst e; exact absurd (isAt_iff.2 ⟨h2, h3⟩) ha
        · omega
      exact ⟨fun j h1 h2 h3 h4 i h5 h6 h7 => hI.cw j (by omega) h2 h3 h4 i (hno i h5 (.inr h6) h7) h6 h7, fun j h1 h2 h3 h4 h4' i h5 h6 h7 => hI.cr j (by omega) h2 h3 h4 h4' i (hno i h5 (.inl h6) h7) h6 h7,
        fun h0 h0' j h1 h2 h3 h4 h4' i h5 h6 h7 => hI.sr h0 h0' j (by omega) h2 h3 h4 h4' i (hno i h5 (.inr h6) h7) h6 h7, fun h0 j h1 h2 h3 h4 h4' i h5 h6 h7 => hI.sw h0 j (by omega) h2 h3 h4 h4' i (hno i h5 h6 h7) h6 h7⟩
/-- Where nothing is flagged of a variable up to an access, that one is the second of no race. -/
theorem fast_clean {j : Nat} (hj : j < l.length) (hq : ∀ i, i ≤ j → (evAt l i).o = (evAt l j).o → qKind l i = 0) (i : Nat) (hij : i < j) : raceB l i j = false := by
  rw [Bool.eq_false_iff]
  intro hr
  obtain ⟨h1, h2, h3, h4, h5⟩ := raceB_iff.1 hr
  have eo := on h hj
  have hat : isAt (evAt l j) (evAt l j).o.toNat = true := isAt_iff.2 ⟨isAccR_iff.1 h2, eo.symm⟩
  have hI := fi_at h (evAt l j).o.toNat j (by omega) fun q hq1 hq2 => hq q (by omega) (by omega)
  have hc := cw_at (l := l) (evAt l j).o.toNat j
  have h0 := hq j (Nat.le_refl _) rfl
  unfold qKind at h0
  rw [if_pos hat] at h0
  unfold Fc.acc at h0
  have hR : R l j i = true := by
    by_cases k1 : (evAt l j).k = 1
    · rw [if_pos k1] at h0
      refine (fi_read h hj hc hI k1 eo.symm h0).2 i hij ?_ (by omega)
      rcases h5 with h5 | h5
      · exact h5
      · omega
    · rw [if_neg k1] at h0
      exact (fi_write h hj hc hI (by have := isAccR_iff.1 h2; omega) eo.symm h0).2 i hij (isAccR_iff.1 h1) (by omega)
  rw [hR] at h4; cases h4
/-- Nothing is flagged exactly if nothing races. -/
theorem fast_none : qFlags l l.length = [] ↔ raceL l = [] := by
  constructor
  · intro hf
    refine raceL_nil fun i j hij hj => fast_clean h hj (fun q hq _ => ?_) i hij
    by_cases e : qKind l q = 0
    · exact e
    · have : (⟨q, (evAt l q).o, qKind l q⟩ : Ev) ∈ qFlags l l.length := mem_qFlags.2 ⟨q, by omega, e, rfl⟩
      rw [hf] at this; cases this
  · intro hr
    rw [List.eq_nil_iff_forall_not_mem]
    intro f hf
    obtain ⟨j, h1, h2, _⟩ := mem_qFlags.1 hf
    obtain ⟨i, h3, h4, _⟩ := fast_true h h1 h2
    have : raceOf l i j ∈ raceL l := mem_raceL.2 ⟨i, j, rfl, h3, h1, h4⟩
    rw [hr] at this; cases this
end
end Go.Proofs.YtfjbnhacfficnaaGreatDoor

/- The detector by epochs, plain: what is flagged hangs on what was till then; a state of detection, stepped along a list. No program. -/
namespace Go.Proofs.YtfjbnhacfficnaaGreatDoor

theorem qFlags_len (l : List Ev) : ∀ m, (qFlags l m).length ≤ m
  | 0 => Nat.le_refl _
  | m + 1 => by
    simp only [qFlags]
    have := qFlags_len l m
    split
    · omega
    · simp; omega
theorem qFlags_lt (l : List Ev) : ∀ m, ∀ f ∈ qFlags l m, 0 ≤ f.k ∧ f.k < m
  | 0 => by simp [qFlags]
  | m + 1 => by
    intro f hf
    simp only [qFlags] at hf
    split at hf
    · have := qFlags_lt l m f hf; omega
    · rcases List.mem_append.1 hf with h1 | h1
      · have := qFlags_lt l m f h1; omega
      · simp at h1; subst h1; simp only; omega
/-- The flags behind n are at places from n on. -/
theorem qFlags_split (l : List Ev) (n : Nat) : ∀ m, n ≤ m → ∃ r, qFlags l m = qFlags l n ++ r ∧ ∀ f ∈ r, (n : Int) ≤ f.k := by
  intro m
  induction m with
  | zero => intro h; obtain rfl : n = 0 := by omega
            exact ⟨[], by simp, by simp⟩
  | succ m ih =>
    intro h
    by_cases e : n = m + 1
    · subst e; exact ⟨[], by simp, by simp⟩
    · obtain ⟨r, h1, h2⟩ := ih (by omega)
      simp only [qFlags]
      split
      · exact ⟨r, h1, h2⟩
      · refine ⟨r ++ [⟨m, (evAt l m).o, qKind l m⟩], by rw [h1, List.append_assoc], fun f hf => ?_⟩
        rcases List.mem_append.1 hf with h3 | h3
        · exact h2 f h3
        · simp at h3; subst h3; simp only; omega
theorem cellAt_take (l : List Ev) (n x : Nat) : ∀ m, m ≤ n → cellAt (l.take n) x m = cellAt l x m := by
  intro m
  induction m with
  | zero => intro _; rfl
  | succ m ih => intro h; simp only [cellAt]; rw [ih (by omega), evAt_take l n m (by omega), vw_take l n m (by omega)]
theorem qKind_take (l : List Ev) (n m : Nat) (h : m < n) : qKind (l.take n) m = qKind l m := by
  unfold qKind; rw [evAt_take l n m h, vw_take l n m h, cellAt_take l n _ m (by omega)]
theorem qFlags_take (l : List Ev) (n : Nat) : ∀ m, m ≤ n → qFlags (l.take n) m = qFlags l m := by
  intro m
  induction m with
  | zero => intro _; rfl
  | succ m ih => intro h; simp only [qFlags]; rw [ih (by omega), qKind_take l n m (by omega), evAt_take l n m (by omega)]
theorem acc_slow (s : Fc) (e : Ev) (c : Nat → Int) : s.slow ≤ (s.acc e c).1.slow := by
  unfold Fc.acc Fc.read Fc.write
  (repeat' split) <;> simp <;> omega
theorem slow_mono (l : List Ev) (x : Nat) {n m : Nat} (h : n ≤ m) : (cellAt l x n).slow ≤ (cellAt l x m).slow := by
  induction m with
  | zero => obtain rfl : n = 0 := by omega
            exact Int.le_refl _
  | succ m ih =>
    by_cases e : n = m + 1
    · subst e; exact Int.le_refl _
    · refine Int.le_trans (ih (by omega)) ?_
      simp only [cellAt]
      split
      · exact acc_slow _ _ _
      · exact Int.le_refl _
/-- How often an epoch was not enough, of the first k variables. -/
def slowUp (l : List Ev) : Nat → Int
  | 0 => 0
  | k + 1 => slowUp l k + (cellAt l k l.length).slow
theorem slowUp_take (l : List Ev) (n : Nat) (hn : n ≤ l.length) : ∀ k, slowUp (l.take n) k ≤ slowUp l k
  | 0 => Int.le_refl _
  | k + 1 => by
    have h1 := slowUp_take l n hn k
    have h2 := slow_mono l k hn
    simp only [slowUp]
    rw [show (l.take n).length = n by simp; omega, cellAt_take l n k n (Nat.le_refl _)]
    omega
/-- Variables that one thread alone reads. -/
theorem slow_one {l : List Ev} (h : (played l).2.2 = 0) (ho : ∀ e ∈ l, e.k = 1 → e.t = e.o % 6) (x : Nat) : ∀ m, m ≤ l.length → (cellAt l x m).slow = 0 ∧ (cellAt l x m).many = false ∧ ((cellAt l x m).rn = 0 ∨ ((cellAt l x m).rt = x % 6 ∧ (cellAt l x m).rn ≤ (fAt l m).C (x % 6) (x % 6))) := by
  intro m
  induction m with
  | zero => intro _; exact ⟨rfl, rfl, .inl rfl⟩
  | succ m ih =>
    intro hm
    obtain ⟨i1, i2, i3⟩ := ih (by omega)
    have hmm := C_mono l (x % 6) (x % 6) (show m ≤ m + 1 by omega)
    have hF := finv h m (by omega)
    simp only [cellAt]
    split
    · rename_i hi
      obtain ⟨hk, hx⟩ := isAt_iff.1 hi
      rcases hk with hk | hk
      · have he := ho (evAt l m) (by rw [evAt_lt (show m < l.length by omega)]; exact List.getElem_mem (show m < l.length by omega)) hk
        have ht : (evAt l m).t.toNat = x % 6 := by rw [he, hx]; omega
        have hv : vw l m = (fAt l m).C (x % 6) := by rw [vw, ht]
        have hkn : (cellAt l x m).rn ≤ (vw l m) (cellAt l x m).rt := by
          rcases i3 with e | ⟨e1, e2⟩
          · rw [e, hv]; exact (hF.nn _ _).1
          · rw [e1, hv]; exact e2
        have hac : (cellAt l x m).acc (evAt l m) (vw l m) = (cellAt l x m).read (evAt l m).t.toNat (vw l m) := by simp [Fc.acc, hk]
        rw [hac, Fc.read]
        split
        · refine ⟨i1, i2, ?_⟩
          rcases i3 with e | ⟨e1, e2⟩
          · exact .inl e
          · exact .inr ⟨e1, Int.le_trans e2 hmm⟩
        · simp only [i2, hkn, decide_true, if_true, Bool.false_eq_true, if_false]
          refine ⟨i1, trivial, .inr ⟨ht, ?_⟩⟩
          rw [ht, hv]; exact hmm
      · have hac : (cellAt l x m).acc (evAt l m) (vw l m) = (cellAt l x m).write (evAt l m).t.toNat (vw l m) := by simp [Fc.acc, hk]
        rw [hac, Fc.write]
        split
        · refine ⟨i1, i2, ?_⟩
          rcases i3 with e | ⟨e1, e2⟩
          · exact .inl e
          · exact .inr ⟨e1, Int.le_trans e2 hmm⟩
        · simp only [i2, Bool.false_eq_true, if_false]
          refine ⟨i1, trivial, ?_⟩
          rcases i3 with e | ⟨e1, e2⟩
          · exact .inl e
          · exact .inr ⟨e1, Int.le_trans e2 hmm⟩
    · refine ⟨i1, i2, ?_⟩
      rcases i3 with e | ⟨e1, e2⟩
      · exact .inl e
      · exact .inr ⟨e1, Int.le_trans e2 hmm⟩
theorem slowUp_one {l : List Ev} (h : (played l).2.2 = 0) (ho : ∀ e ∈ l, e.k = 1 → e.t = e.o % 6) : ∀ k, slowUp l k = 0
  | 0 => rfl
  | k + 1 => by simp only [slowUp]; rw [slowUp_one h ho k, (slow_one h ho k _ (Nat.le_refl _)).1]; rfl

/-- A state of detection: the clocks, the variables' cells. -/
structure Qs where
  f : Fk
  c : Nat → Fc
def Qs.first : Qs := ⟨Fk.first, fun _ => Fc.first⟩
def Qs.step (s : Qs) (e : Ev) : Qs := ⟨fSync s.f e, fun x => if isAt e x then ((s.c x).acc e (s.f.C e.t.toNat)).1 else s.c x⟩
def Qs.kind (s : Qs) (e : Ev) : Int := if isAt e e.o.toNat then ((s.c e.o.toNat).acc e (s.f.C e.t.toNat)).2 else 0
def Qs.run (s : Qs) (l : List Ev) : Qs := l.foldl Qs.step s
def Qs.flags : Qs → Nat → List Ev → List Ev
  | _, _, [] => []
  | s, i, e :: l => if s.kind e = 0 then (s.step e).flags (i + 1) l else ⟨i, e.o, s.kind e⟩ :: (s.step e).flags (i + 1) l
theorem Qs.flags_append (l m : List Ev) : ∀ (s : Qs) (i : Nat), s.flags i (l ++ m) = s.flags i l ++ (s.run l).flags (i + l.length) m := by
  induction l with
  | nil => intro s i; rfl
  | cons e l ih =>
    intro s i
    simp only [List.cons_append, Qs.flags]
    have h2 : i + 1 + l.length = i + (e :: l).length := by simp; omega
    rw [ih, h2]
    split
    · rfl
    · rfl
/-- The state behind m events. -/
def qsAt (l : List Ev) (m : Nat) : Qs := ⟨fAt l m, fun x => cellAt l x m⟩
theorem qsAt_succ (l : List Ev) (m : Nat) : qsAt l (m + 1) = (qsAt l m).step (evAt l m) := rfl
theorem qKind_qs (l : List Ev) (m : Nat) : qKind l m = (qsAt l m).kind (evAt l m) := rfl
theorem qs_run (l : List Ev) : ∀ m, m ≤ l.length → Qs.first.run (l.take m) = qsAt l m
  | 0, _ => rfl
  | m + 1, h => by
    rw [List.take_add_one, List.getElem?_eq_getElem (show m < l.length by omega), Option.toList_some, Qs.run, List.foldl_append]
    show (Qs.run Qs.first (l.take m)).step l[m] = _
    rw [qs_run l m (by omega), qsAt_succ, evAt_lt (show m < l.length by omega)]
theorem qFlags_qs (l : List Ev) : ∀ m, m ≤ l.length → qFlags l m = Qs.first.flags 0 (l.take m)
  | 0, _ => rfl
  | m + 1, h => by
    have hm : m < l.length := by omega
    rw [List.take_add_one, List.getElem?_eq_getElem hm, Option.toList_some, Qs.flags_append, ← qFlags_qs l m (by omega), qs_run l m (by omega)]
    have hl : (l.take m).length = m := by simp; omega
    simp only [qFlags, Qs.flags, hl, Nat.zero_add]
    rw [qKind_qs, evAt_lt hm]
    split
    · simp
    · rfl
theorem qFlags_all (l : List Ev) : qFlags l l.length = Qs.first.flags 0 l := by
  rw [qFlags_qs l l.length (Nat.le_refl _), List.take_length]
/-- A flag's place, moved. -/
def atE (g : Int → Int) (f : Ev) : Ev := ⟨g f.k, f.t, f.o⟩
theorem Qs.flags_shift (l : List Ev) : ∀ (s : Qs) (i d : Nat) , s.flags (i + d) l = (s.flags i l).map (atE (· + d)) := by
  induction l with
  | nil => intro s i d; rfl
  | cons e l ih =>
    intro s i d
    simp only [Qs.flags]
    rw [show i + d + 1 = i + 1 + d by omega, ih]
    split
    · rfl
    · simp [atE]
theorem Qs.flags_ge (l : List Ev) : ∀ (s : Qs) (i : Nat), ∀ f ∈ s.flags i l, (i : Int) ≤ f.k ∧ f.k < i + l.length := by
  induction l with
  | nil => intro s i f hf; simp [Qs.flags] at hf
  | cons e l ih =>
    intro s i f hf
    simp only [Qs.flags] at hf
    have hl : ((e :: l).length : Int) = l.length + 1 := by simp
    rw [hl]
    split at hf
    · have := ih _ _ f hf; omega
    · rcases List.mem_cons.1 hf with rfl | h1
      · simp only; omega
      · have := ih _ _ f h1; omega
/-- A Write once more, just behind itself. -/
theorem Qs.again (s : Qs) (e : Ev) (hk : e.k = 2) : (s.step e).step e = s.step e ∧ (s.step e).kind e = 0 := by
  have hf : ∀ f : Fk, fSync f e = f := fun f => by unfold fSync; simp [hk]
  have hw : ∀ (x : Fc) (c : Nat → Int), x.acc e c = x.write e.t.toNat c := fun x c => by simp [Fc.acc, hk]
  have h2 : ∀ (x : Fc) (c : Nat → Int), ((x.write e.t.toNat c).1).write e.t.toNat c = ((x.write e.t.toNat c).1, 0) := by
    intro x c
    have : (x.write e.t.toNat c).1.wt = e.t.toNat ∧ (x.write e.t.toNat c).1.wn = c e.t.toNat := by
      unfold Fc.write
      split
      · rename_i h; exact h
      · split <;> exact ⟨rfl, rfl⟩
    rw [Fc.write, if_pos this]
  refine ⟨?_, ?_⟩
  · simp only [Qs.step, hf, hw]
    congr 1
    funext x
    split
    · rw [h2]
    · rfl
  · simp only [Qs.kind, Qs.step, hf, hw]
    split
    · rw [h2]
    · rfl
theorem qFlags_again (u v : List Ev) (e : Ev) (hk : e.k = 2) :
    qFlags (u ++ e :: e :: v) (u ++ e :: e :: v).length = (qFlags (u ++ e :: v) (u ++ e :: v).length).map (atE fun k => if k > u.length then k + 1 else k) := by
  obtain ⟨h1, h2⟩ := (Qs.first.run u).again e hk
  rw [qFlags_all, qFlags_all, Qs.flags_append, Qs.flags_append, List.map_append]
  have e1 : (Qs.first.flags 0 u).map (atE fun k => if k > u.length then k + 1 else k) = Qs.first.flags 0 u := by
    conv => rhs; rw [← List.map_id (Qs.first.flags 0 u)]
    refine List.map_congr_left fun f hf => ?_
    have := Qs.flags_ge _ _ _ f hf
    simp only [atE]
    rw [if_neg (by omega)]; rfl
  rw [e1]
  congr 1
  generalize Qs.first.run u = s at *
  have h3 : ∀ (s : Qs), (s.flags (u.length + 1 + 1) v) = (s.flags (u.length + 1) v).map (atE fun k => if k > u.length then k + 1 else k) := by
    intro s
    rw [Qs.flags_shift v s (u.length + 1) 1]
    refine List.map_congr_left fun f hf => ?_
    have := Qs.flags_ge _ _ _ f hf
    simp only [atE]
    rw [if_pos (by omega)]; rfl
  simp only [Qs.flags, Nat.zero_add, h2, h1, if_true]
  rw [h3]
  split
  · rfl
  · simp [atE]
/-- What concerns a variable: what is no access, and its accesses. -/
def ofV (x : Nat) (e : Ev) : Bool := decide (e.k > 2) || decide (e.o = x)
/-- The places of what concerns it. -/
def ofAt (x : Nat) : Nat → List Ev → List Int
  | _, [] => []
  | i, e :: l => if ofV x e then (i : Int) :: ofAt x (i + 1) l else ofAt x (i + 1) l
theorem ofAt_len (x : Nat) : ∀ (l : List Ev) (i : Nat), (ofAt x i l).length = (l.filter (ofV x)).length
  | [], _ => rfl
  | e :: l, i => by
    simp only [ofAt, List.filter_cons]
    split <;> simp [ofAt_len x l]
theorem ofAt_append (x : Nat) (m : List Ev) : ∀ (l : List Ev) (i : Nat), ofAt x i (l ++ m) = ofAt x i l ++ ofAt x (i + l.length) m
  | [], _ => rfl
  | e :: l, i => by
    simp only [ofAt, List.cons_append]
    rw [ofAt_append x m l, show i + 1 + l.length = i + (e :: l).length by simp; omega]
    split <;> rfl
theorem ofAt_mem (x : Nat) : ∀ (l : List Ev) (i : Nat), ∀ q ∈ ofAt x i l, (i : Int) ≤ q ∧ q < i + l.length
  | [], _, q, h => by simp [ofAt] at h
  | e :: l, i, q, h => by
    simp only [ofAt] at h
    have hl : ((e :: l).length : Int) = l.length + 1 := by simp
    rw [hl]
    split at h
    · rcases List.mem_cons.1 h with rfl | h1
      · omega
      · have := ofAt_mem x l _ q h1; omega
    · have := ofAt_mem x l _ q h; omega
theorem Qs.flags_of (x : Nat) (l : List Ev) : ∀ (s s' : Qs) (i j : Nat) (g : Int → Int), (∀ e ∈ l, 1 ≤ e.k ∧ 0 ≤ e.o) → s.f = s'.f → s.c x = s'.c x →
    (∀ m q, (ofAt x i l)[m]? = some q → g (j + m : Nat) = q) → (s'.flags j (l.filter (ofV x))).map (atE g) = (s.flags i l).filter (fun f : Ev => decide (f.t = x)) := by
  induction l with
  | nil => intros; rfl
  | cons e l ih =>
    intro s s' i j g hE hf hc hg
    have hE2 : ∀ e ∈ l, 1 ≤ e.k ∧ 0 ≤ e.o := fun e he => hE e (List.mem_cons_of_mem _ he)
    have he := hE e (List.mem_cons_self ..)
    simp only [ofAt] at hg
    by_cases ho : ofV x e = true
    · rw [if_pos ho] at hg
      rw [List.filter_cons_of_pos ho]
      have hg2 : ∀ m q, (ofAt x (i + 1) l)[m]? = some q → g (j + 1 + m : Nat) = q := by
        intro m q hm
        rw [show j + 1 + m = j + (m + 1) by omega]
        exact hg (m + 1) q (by simpa using hm)
      have hg0 : g j = i := hg 0 i (by simp)
      have hst := ih (s.step e) (s'.step e) (i + 1) (j + 1) g hE2 (by simp only [Qs.step]; rw [hf]) (by simp only [Qs.step]; rw [hf, hc]) hg2
      have hk : s'.kind e = s.kind e ∧ (s.kind e ≠ 0 → e.o = x) := by
        by_cases hx : e.o = x
        · have hn : e.o.toNat = x := by omega
          refine ⟨?_, fun _ => hx⟩
          simp only [Qs.kind]
          rw [hn, hc, hf]
        · have h2 : e.k > 2 := by simpa [ofV, hx] using ho
          have hn : ∀ y, isAt e y = false := fun y => by simp [isAt]; omega
          have : ∀ s : Qs, s.kind e = 0 := fun s => by simp only [Qs.kind, hn]; rfl
          rw [this, this]
          exact ⟨rfl, fun h => absurd rfl h⟩
      simp only [Qs.flags]
      rw [hk.1]
      by_cases hz : s.kind e = 0
      · rw [if_pos hz, if_pos hz]; exact hst
      · rw [if_neg hz, if_neg hz, List.map_cons, List.filter_cons_of_pos (by simpa using hk.2 hz), hst]
        simp [atE, hg0]
    · have ho' : ofV x e = false := by simpa using ho
      rw [if_neg ho] at hg
      rw [List.filter_cons_of_neg ho]
      have h1 : e.k ≤ 2 ∧ e.o ≠ x := by simpa [ofV] using ho'
      have hfe : ∀ f : Fk, fSync f e = f := fun f => by unfold fSync; rw [if_neg (by omega), if_neg (by omega), if_neg (by omega), if_neg (by omega), if_neg (by omega), if_neg (by omega)]
      have hst := ih (s.step e) s' (i + 1) j g hE2 (by simp only [Qs.step]; rw [hfe, hf]) (by
        simp only [Qs.step]
        rw [if_neg (by simp [isAt]; omega), hc]) hg
      rw [hst]
      simp only [Qs.flags]
      split
      · rfl
      · rw [List.filter_cons_of_neg (by simp; omega)]
/-- Of a trace's events, those that concern one variable: flags, and a valid trace. -/
theorem qFlags_of {l : List Ev} (hE : ∀ e ∈ l, isEv e = true) (x : Nat) (g : Int → Int) (hg : ∀ (m : Nat) q, (ofAt x 0 l)[m]? = some q → g m = q) :
    (qFlags (l.filter (ofV x)) (l.filter (ofV x)).length).map (atE g) = (qFlags l l.length).filter (fun f : Ev => decide (f.t = x)) := by
  rw [qFlags_all, qFlags_all]
  refine Qs.flags_of x l _ _ 0 0 g (fun e he => ?_) rfl rfl (fun m q hm => by rw [Nat.zero_add]; exact hg m q hm)
  have h := isEv_iff.1 (hE e he)
  have h2 := manyOf_pos (show 0 < manyOf e.k by omega)
  omega
theorem playL_of (x : Nat) (l : List Ev) : ∀ (s : St) (i j : Nat), (playL s i l).2.2 = 0 → (playL s j (l.filter (ofV x))).2.2 = 0 := by
  induction l with
  | nil => intros; rfl
  | cons e l ih =>
    intro s i j h
    simp only [playL] at h
    split at h
    · rename_i h0
      by_cases ho : ofV x e = true
      · rw [List.filter_cons_of_pos ho]
        simp only [playL]
        rw [if_pos h0]
        exact ih _ _ _ h
      · have ho' : ofV x e = false := by simpa using ho
        rw [List.filter_cons_of_neg ho]
        have h1 : e.k ≤ 2 ∧ e.o ≠ x := by simpa [ofV] using ho'
        have hn : nxt s e = s := by unfold nxt; rw [if_neg (by omega), if_neg (by omega), if_neg (by omega), if_neg (by omega)]
        rw [hn] at h
        exact ih _ _ _ h
    · rename_i he; exact absurd h he
theorem mayB_of {l : List Ev} (h : mayB l = true) (x : Nat) : mayB (l.filter (ofV x)) = true := by
  obtain ⟨h1, h2⟩ := mayB_iff.1 h
  exact mayB_iff.2 ⟨Nat.le_trans (List.length_filter_le ..) h1, playL_of x l _ _ _ h2⟩
theorem playL_again (u v : List Ev) (e : Ev) (hk : e.k = 2) (s : St) (i : Nat) (h : (playL s i (u ++ e :: v)).2.2 = 0) : (playL s i (u ++ e :: e :: v)).2.2 = 0 := by
  have hidx : ∀ (l : List Ev) (s : St) (i j : Nat), (playL s i l).2.2 = (playL s j l).2.2 := by
    intro l
    induction l with
    | nil => intros; rfl
    | cons e l ih => intro s i j; simp only [playL]; split <;> first | exact ih _ _ _ | rfl
  have hn : ∀ s, nxt s e = s := fun s => by unfold nxt; rw [if_neg (by omega), if_neg (by omega), if_neg (by omega), if_neg (by omega)]
  rw [playL_append] at h ⊢
  split at h
  · rename_i h0
    rw [if_pos h0]
    simp only [playL, hn] at h ⊢
    split at h
    · rename_i h1
      rw [if_pos h1, if_pos h1, hidx v _ _ (i + u.length + 1)]
      exact h
    · rename_i he; exact absurd h he
  · rename_i h0; exact absurd h h0
end Go.Proofs.YtfjbnhacfficnaaGreatDoor

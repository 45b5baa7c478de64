/- Joined texts. -/
import Derived.Test.YtdhbgbneadcmiaaMA
import Derived.Test.YtdhbgbneadcmiaaOrdC
import Derived.Test.YtdhbgbneadcmiaaOrdE

/- What the rows of 'ahead' are: the transitive closure of 'directly'. No program. -/
namespace Go.Proofs.Ytdhbgbneadcmiaa

/-- Is event k ahead of event j? -/
def R (l : List Ev) (j k : Nat) : Bool := rowsTo l (j + 1) j k
abbrev Spec (l : List Ev) (a : Nat) : Prop := ∀ k, R l a k = true ↔ ∃ i, i < a ∧ dirE (evAt l i) (evAt l a) = true ∧ (k = i ∨ R l i k = true)
theorem rowDn_iff (l : List Ev) (prev : Nat → Nat → Bool) (b : Ev) (ht : ∀ i k x, prev i k = true → prev k x = true → prev i x = true) :
    ∀ (m : Nat) (cur : Nat → Bool), (∀ i k, cur i = true → prev i k = true → cur k = true) → ∀ k, (rowDn l prev b m cur k = true ↔ cur k = true ∨ ∃ i, i < m ∧ dirE (evAt l i) b = true ∧ (k = i ∨ prev i k = true)) := by
  intro m
  induction m with
  | zero => intro cur _ k; simp [rowDn]
  | succ m ih =>
    intro cur hc k
    by_cases h : cur m = false ∧ dirE (evAt l m) b = true
    · rw [rowDn, if_pos h, ih _ (by
        intro i k hi hp
        simp only [Bool.or_eq_true] at hi ⊢
        rcases hi with hi | hi
        · by_cases e : i = m
          · subst e; exact .inr hp
          · rw [if_neg e] at hi
            by_cases e2 : k = m
            · exact .inl (by rw [if_pos e2])
            · exact .inl (by rw [if_neg e2]; exact hc i k hi hp)
        · exact .inr (ht m i k hi hp)) k]
      simp only [Bool.or_eq_true]
      constructor
      · rintro ((h1 | h1) | ⟨i, h1, h2, h3⟩)
        · by_cases e : k = m
          · exact .inr ⟨m, by omega, h.2, .inl e⟩
          · rw [if_neg e] at h1; exact .inl h1
        · exact .inr ⟨m, by omega, h.2, .inr h1⟩
        · exact .inr ⟨i, by omega, h2, h3⟩
      · rintro (h1 | ⟨i, h1, h2, h3⟩)
        · refine .inl (.inl ?_)
          by_cases e : k = m
          · rw [if_pos e]
          · rw [if_neg e]; exact h1
        · by_cases e : i = m
          · subst e
            rcases h3 with rfl | h3
            · exact .inl (.inl (by rw [if_pos rfl]))
            · exact .inl (.inr h3)
          · exact .inr ⟨i, by omega, h2, h3⟩
    · rw [rowDn, if_neg h, ih _ hc k]
      constructor
      · rintro (h1 | ⟨i, h1, h2, h3⟩)
        · exact .inl h1
        · exact .inr ⟨i, by omega, h2, h3⟩
      · rintro (h1 | ⟨i, h1, h2, h3⟩)
        · exact .inl h1
        · by_cases e : i = m
          · subst e
            have hcm : cur i = true := by
              cases hh : cur i
              · exact absurd ⟨hh, h2⟩ h
              · rfl
            rcases h3 with rfl | h3
            · exact .inl hcm
            · exact .inl (hc i k hcm h3)
          · exact .inr ⟨i, by omega, h2, h3⟩
theorem rowsTo_out (l : List Ev) : ∀ (j r k : Nat), j ≤ r → rowsTo l j r k = false
  | 0, _, _, _ => rfl
  | j + 1, r, k, h => by
    have e : r ≠ j := by omega
    simp only [rowsTo, if_neg e]
    exact rowsTo_out l j r k (by omega)
theorem rowsTo_R (l : List Ev) (j r k : Nat) (h : r < j) : rowsTo l j r k = R l r k := rowsTo_lt l j r k h
theorem befM_R (l : List Ev) (i j : Nat) (h : j < l.length) : befM l i j = R l j i := rowsTo_R l _ j i h
theorem trans_of (l : List Ev) (j : Nat) (h : ∀ a, a < j → Spec l a) : ∀ a b c, a < j → R l a b = true → R l b c = true → R l a c = true := by
  intro a
  induction a using Nat.strongRecOn with
  | _ a ih =>
    intro b c ha h1 h2
    obtain ⟨i, hi, hd, h3⟩ := (h a ha b).1 h1
    refine (h a ha c).2 ⟨i, hi, hd, .inr ?_⟩
    rcases h3 with rfl | h3
    · exact h2
    · exact ih i hi b c (by omega) h3 h2
theorem spec_all (l : List Ev) : ∀ a, Spec l a := by
  have h : ∀ j a, a < j → Spec l a := by
    intro j
    induction j with
    | zero => intro a ha; omega
    | succ j ih =>
      intro a ha
      by_cases e : a < j
      · exact ih a e
      · obtain rfl : a = j := by omega
        intro k
        have ht := trans_of l a ih
        have hk := rowDn_iff l (rowsTo l a) (evAt l a) (by
          intro i k x h1 h2
          by_cases hi : i < a
          · rw [rowsTo_R l a i _ hi] at h1 ⊢
            by_cases hk : k < a
            · rw [rowsTo_R l a k _ hk] at h2
              exact ht i k x hi h1 h2
            · rw [rowsTo_out l a k _ (by omega)] at h2; cases h2
          · rw [rowsTo_out l a i _ (by omega)] at h1; cases h1) a (fun _ => false) (by intro i k h; cases h) k
        have e1 : R l a k = rowDn l (rowsTo l a) (evAt l a) a (fun _ => false) k := by simp only [R, rowsTo, if_true]
        rw [e1, hk]
        constructor
        · rintro (h | ⟨i, h1, h2, h3⟩)
          · cases h
          · exact ⟨i, h1, h2, by rw [← rowsTo_R l a i k h1]; exact h3⟩
        · rintro ⟨i, h1, h2, h3⟩
          exact .inr ⟨i, h1, h2, by rw [rowsTo_R l a i k h1]; exact h3⟩
  exact fun a => h (a + 1) a (by omega)
theorem R_trans {l : List Ev} {a b c : Nat} (h1 : R l a b = true) (h2 : R l b c = true) : R l a c = true :=
  trans_of l (a + 1) (fun a _ => spec_all l a) a b c (by omega) h1 h2
theorem R_lt {l : List Ev} : ∀ {a b : Nat}, R l a b = true → b < a := by
  intro a
  induction a using Nat.strongRecOn with
  | _ a ih =>
    intro b h
    obtain ⟨i, hi, _, rfl | h3⟩ := (spec_all l a b).1 h
    · exact hi
    · have := ih i hi h3; omega
theorem R_dir {l : List Ev} {a b : Nat} (h : b < a) (hd : dirE (evAt l b) (evAt l a) = true) : R l a b = true := (spec_all l a b).2 ⟨b, h, hd, .inl rfl⟩
/-- From the left: a direct step, and the rest. -/
theorem R_left {l : List Ev} : ∀ {a b : Nat}, R l a b = true → dirE (evAt l b) (evAt l a) = true ∨ ∃ k, b < k ∧ dirE (evAt l b) (evAt l k) = true ∧ R l a k = true := by
  intro a
  induction a using Nat.strongRecOn with
  | _ a ih =>
    intro b h
    obtain ⟨i, hi, hd, rfl | h3⟩ := (spec_all l a b).1 h
    · exact .inl hd
    · rcases ih i hi h3 with h4 | ⟨k, h4, h5, h6⟩
      · exact .inr ⟨i, R_lt h3, h4, R_dir hi hd⟩
      · exact .inr ⟨k, h4, h5, R_trans (R_dir hi hd) h6⟩
theorem evAt_take (l : List Ev) (n i : Nat) (h : i < n) : evAt (l.take n) i = evAt l i := by
  simp [evAt, h]
theorem R_take (l : List Ev) (n : Nat) : ∀ (a b : Nat), a < n → R (l.take n) a b = R l a b := by
  intro a
  induction a using Nat.strongRecOn with
  | _ a ih =>
    intro b ha
    apply Bool.eq_iff_iff.2
    rw [spec_all l a b, spec_all (l.take n) a b]
    constructor
    · rintro ⟨i, h1, h2, h3⟩
      rw [evAt_take l n i (by omega), evAt_take l n a ha] at h2
      rw [ih i h1 b (by omega)] at h3
      exact ⟨i, h1, h2, h3⟩
    · rintro ⟨i, h1, h2, h3⟩
      refine ⟨i, h1, ?_, ?_⟩
      · rw [evAt_take l n i (by omega), evAt_take l n a ha]; exact h2
      · rw [ih i h1 b (by omega)]; exact h3
theorem mem_befL {l : List Ev} {p : Int × Int} : p ∈ befL l ↔ ∃ i j : Nat, p = ((i : Int), (j : Int)) ∧ j < l.length ∧ R l j i = true := by
  rw [befL, mem_allP]
  constructor
  · rintro ⟨i, j, h1, h2, h3, h4⟩
    exact ⟨i, j, h1, h3, by rw [← befM_R l i j h3]; exact h4⟩
  · rintro ⟨i, j, h1, h3, h4⟩
    exact ⟨i, j, h1, R_lt h4, h3, by rw [befM_R l i j h3]; exact h4⟩
theorem mem_befL_nat {l : List Ev} {i j : Nat} : ((i : Int), (j : Int)) ∈ befL l ↔ j < l.length ∧ R l j i = true := by
  rw [mem_befL]
  constructor
  · rintro ⟨a, b, h1, h2, h3⟩
    simp only [Prod.mk.injEq] at h1
    obtain rfl : a = i := by omega
    obtain rfl : b = j := by omega
    exact ⟨h2, h3⟩
  · exact fun ⟨h1, h2⟩ => ⟨i, j, rfl, h1, h2⟩
end Go.Proofs.Ytdhbgbneadcmiaa

/- Races, plain. No program. -/
namespace Go.Proofs.Ytdhbgbneadcmiaa

/-- A race. -/
structure Rc where
  a : Int
  b : Int
  v : Int
  k : Int
deriving DecidableEq
def isAcc (e : Ev) : Bool := decide (e.k = 1) || decide (e.k = 2)
theorem isAcc_iff {e : Ev} : isAcc e = true ↔ e.k = 1 ∨ e.k = 2 := by simp [isAcc]
def kindR (a b : Ev) : Int := if a.k = 2 ∧ b.k = 2 then 1 else if a.k = 2 then 2 else if b.k = 2 then 3 else 0
/-- Do two places race, the first one ahead in the trace? -/
def raceB (l : List Ev) (i j : Nat) : Bool :=
  isAcc (evAt l i) && isAcc (evAt l j) && decide ((evAt l i).o = (evAt l j).o) && !R l j i && (decide ((evAt l i).k = 2) || decide ((evAt l j).k = 2))
theorem raceB_iff {l : List Ev} {i j : Nat} : raceB l i j = true ↔ isAcc (evAt l i) = true ∧ isAcc (evAt l j) = true ∧ (evAt l i).o = (evAt l j).o ∧ R l j i = false ∧ ((evAt l i).k = 2 ∨ (evAt l j).k = 2) := by
  simp [raceB, and_assoc]
def raceOf (l : List Ev) (i j : Nat) : Rc := ⟨i, j, (evAt l i).o, kindR (evAt l i) (evAt l j)⟩
/-- The races with first place i and a second one below j; with a first place below i. -/
def rowR (l : List Ev) (i j : Nat) : List Rc := ((List.range j).filter fun k => decide (i < k) && raceB l i k).map fun k => raceOf l i k
def allR (l : List Ev) (n i : Nat) : List Rc := (List.range i).flatMap fun a => rowR l a n
abbrev raceL (l : List Ev) : List Rc := allR l l.length l.length
theorem rowR_start (l : List Ev) (i : Nat) : rowR l i (i + 1) = [] := by
  simp [rowR, List.filter_eq_nil_iff]
  intro a ha h; omega
theorem rowR_yes {l : List Ev} {i j : Nat} (h : i < j) (hH : raceB l i j = true) : rowR l i (j + 1) = rowR l i j ++ [raceOf l i j] := by
  simp [rowR, List.range_succ, List.filter_append, h, hH]
theorem rowR_no {l : List Ev} {i j : Nat} (hH : raceB l i j = false) : rowR l i (j + 1) = rowR l i j := by
  simp [rowR, List.range_succ, List.filter_append, hH]
theorem allR_succ (l : List Ev) (n i : Nat) : allR l n (i + 1) = allR l n i ++ rowR l i n := by
  simp [allR, List.range_succ]
theorem rowR_len (l : List Ev) (i j : Nat) : (rowR l i j).length ≤ j := by
  simpa [rowR] using List.length_filter_le (fun k => decide (i < k) && raceB l i k) (List.range j)
theorem allR_len (l : List Ev) (n : Nat) : ∀ i, (allR l n i).length ≤ i * n
  | 0 => by simp [allR]
  | i + 1 => by
    rw [allR_succ, List.length_append, Nat.succ_mul]
    have := allR_len l n i
    have := rowR_len l i n
    omega
theorem mem_raceL {l : List Ev} {r : Rc} : r ∈ raceL l ↔ ∃ i j : Nat, r = raceOf l i j ∧ i < j ∧ j < l.length ∧ raceB l i j = true := by
  simp only [raceL, allR, List.mem_flatMap, List.mem_range, rowR, List.mem_map, List.mem_filter, Bool.and_eq_true, decide_eq_true_eq]
  constructor
  · rintro ⟨a, ha, k, ⟨h1, h2, h3⟩, rfl⟩
    exact ⟨a, k, rfl, h2, h1, h3⟩
  · rintro ⟨i, j, rfl, h1, h2, h3⟩
    exact ⟨i, by omega, j, ⟨h2, h1, h3⟩, rfl⟩
/-- The value, the cells of a race; the cells of a list. -/
abbrev rcC (r : Rc) : Array Value := #[.int .i64 r.a, .int .i64 r.b, .int .i64 r.v, .int .i64 r.k]
abbrev rcV (r : Rc) : Value := .agg (rcC r)
def rcL (l : List Rc) : List Value := l.flatMap fun r => [.int .i64 r.a, .int .i64 r.b, .int .i64 r.v, .int .i64 r.k]
theorem rcL_append (l m : List Rc) : rcL (l ++ m) = rcL l ++ rcL m := by simp [rcL]
theorem rcL_length (l : List Rc) : (rcL l).length = l.length * 4 := by
  induction l with
  | nil => rfl
  | cons e l ih => simp [rcL] at *; omega
theorem rcL_get (l : List Rc) : ∀ (i : Nat) (h : i < l.length), (rcL l)[i * 4]? = some (.int .i64 l[i].a) ∧ (rcL l)[i * 4 + 1]? = some (.int .i64 l[i].b) ∧ (rcL l)[i * 4 + 2]? = some (.int .i64 l[i].v) ∧ (rcL l)[i * 4 + 3]? = some (.int .i64 l[i].k) := by
  induction l with
  | nil => intro i h; simp at h
  | cons e l ih =>
    intro i h
    have hc : rcL (e :: l) = .int .i64 e.a :: .int .i64 e.b :: .int .i64 e.v :: .int .i64 e.k :: rcL l := rfl
    cases i with
    | zero => simp [hc]
    | succ i =>
      obtain ⟨h1, h2, h3, h4⟩ := ih i (by simpa using h)
      rw [hc, show (i + 1) * 4 = i * 4 + 1 + 1 + 1 + 1 by omega]
      simp only [List.getElem?_cons_succ, List.getElem_cons_succ]
      exact ⟨h1, h2, h3, h4⟩
theorem rcL_one (l : List Rc) : ∀ u ∈ rcL l, u.oneCell' = true := by
  intro u hu
  simp only [rcL, List.mem_flatMap] at hu
  obtain ⟨e, _, he⟩ := hu
  simp at he
  rcases he with rfl | rfl | rfl | rfl <;> rfl
/-- A slice of races: its elements read as a list. -/
structure RcS (w : World) (a : Option Addr) (l : List Rc) : Prop where
  big : l.length < 4611686018427387904
  ok : l = [] ∨ ∃ b o, a = some ⟨b, o, none⟩ ∧ ∀ i (h : i < l.length), w.cell? ⟨b, o + i * 4, none⟩ = some (.int .i64 l[i].a) ∧ w.cell? ⟨b, o + i * 4 + 1, none⟩ = some (.int .i64 l[i].b) ∧ w.cell? ⟨b, o + i * 4 + 2, none⟩ = some (.int .i64 l[i].v) ∧ w.cell? ⟨b, o + i * 4 + 3, none⟩ = some (.int .i64 l[i].k)
theorem RcS.below {w w' : World} {a : Option Addr} {l : List Rc} (h : RcS w a l) (k : Go.RowKit.Below w.heap.size w w') : RcS w' a l := by
  refine ⟨h.big, ?_⟩
  rcases h.ok with h0 | ⟨b, o, ha, hc⟩
  · exact .inl h0
  · refine .inr ⟨b, o, ha, fun i hi => ?_⟩
    obtain ⟨h1, h2, h3, h4⟩ := hc i hi
    exact ⟨(k.cell (World.block_lt_of_cell? w _ h1)).trans h1, (k.cell (World.block_lt_of_cell? w _ h2)).trans h2, (k.cell (World.block_lt_of_cell? w _ h3)).trans h3, (k.cell (World.block_lt_of_cell? w _ h4)).trans h4⟩
theorem RcS.at {w : World} {a : Option Addr} {l : List Rc} (h : RcS w a l) {i : Nat} (hi : i < l.length) : ∃ b o, a = some ⟨b, o, none⟩ ∧ w.cell? ⟨b, o + i * 4, none⟩ = some (.int .i64 l[i].a) ∧ w.cell? ⟨b, o + i * 4 + 1, none⟩ = some (.int .i64 l[i].b) ∧ w.cell? ⟨b, o + i * 4 + 2, none⟩ = some (.int .i64 l[i].v) ∧ w.cell? ⟨b, o + i * 4 + 3, none⟩ = some (.int .i64 l[i].k) := by
  rcases h.ok with h0 | ⟨b, o, ha, hc⟩
  · simp [h0] at hi
  · exact ⟨b, o, ha, hc i hi⟩
theorem rcS_own {w : World} {base : Nat} {e : TypeId} {v : Value} {l : List Rc} (h : w.ownsRow base e 4 v l.length (rcL l)) (hb : l.length < 4611686018427387904) : ∃ a c, v = .slice a l.length c ∧ RcS w a l := by
  rcases h.2 with ⟨rfl, hn⟩ | ⟨g, cap, cur, rfl, hg, hh, _⟩
  · exact ⟨none, 0, by rw [hn], ⟨hb, .inl (List.eq_nil_of_length_eq_zero hn)⟩⟩
  · refine ⟨_, _, rfl, ⟨hb, .inr ⟨g, 0, rfl, fun i hi => ?_⟩⟩⟩
    have hc := h.cells (g := g) rfl
    obtain ⟨h1, h2, h3, h4⟩ := rcL_get l i hi
    have e1 := hc _ _ h1
    have e2 := hc _ _ h2
    have e3 := hc _ _ h3
    have e4 := hc _ _ h4
    have hadd : ∀ n, (⟨g, 0, none⟩ : Addr).add n = ⟨g, 0 + n, none⟩ := by intro n; unfold Addr.add; split <;> simp_all
    rw [hadd] at e1 e2 e3 e4
    exact ⟨e1, e2, e3, e4⟩
theorem rcS_full {w : World} {g : Nat} {cs : Array Value} {l : List Rc} {e : TypeId} (h : Has w g cs e) (hc : cs = (rcL l).toArray) (hb : l.length < 4611686018427387904) : RcS w (some ⟨g, 0, none⟩) l :=
  ⟨hb, .inr ⟨g, 0, rfl, fun i hi => by
    obtain ⟨h1, h2, h3, h4⟩ := rcL_get l i hi
    subst hc
    rw [Nat.zero_add]
    exact ⟨h.cell (by simpa using h1), h.cell (by simpa using h2), h.cell (by simpa using h3), h.cell (by simpa using h4)⟩⟩⟩
end Go.Proofs.Ytdhbgbneadcmiaa

/- All events of one lock are ordered. No program. -/
namespace Go.Proofs.Ytdhbgbneadcmiaa

def isLk (e : Ev) : Bool := decide (e.k = 3) || decide (e.k = 4)
theorem isLk_iff {e : Ev} : isLk e = true ↔ e.k = 3 ∨ e.k = 4 := by simp [isLk]
theorem lock_last {l : List Ev} (h : (played l).2.2 = 0) {i : Nat} (hi : i < l.length) (hk : isLk (evAt l i) = true) :
    ∀ m, i < m → m ≤ l.length → ∃ q, i ≤ q ∧ q < m ∧ isLk (evAt l q) = true ∧ (evAt l q).o = (evAt l i).o ∧ (q = i ∨ R l q i = true) ∧ (∀ p, q < p → p < m → ¬ (isLk (evAt l p) = true ∧ (evAt l p).o = (evAt l i).o)) ∧ (stAt l m).owner (evAt l i).o.toNat = if (evAt l q).k = 3 then (evAt l q).t + 1 else 0 := by
  intro m
  induction m with
  | zero => intro h; omega
  | succ m ih =>
    intro him hml
    have hm : m < l.length := by omega
    rw [stAt, stFrom_succ _ _ _ hm]
    by_cases e : m = i
    · subst e
      exact ⟨m, Nat.le_refl _, by omega, hk, rfl, .inl rfl, fun p h1 h2 => by omega, lock_own (isLk_iff.1 hk)⟩
    · obtain ⟨q, h1, h2, h3, h4, h5, h7, h6⟩ := ih (by omega) (by omega)
      by_cases hl : isLk (evAt l m) = true ∧ (evAt l m).o = (evAt l i).o
      · refine ⟨m, by omega, by omega, hl.1, hl.2, .inr ?_, fun p h1 h2 => by omega, by rw [← hl.2]; exact lock_own (isLk_iff.1 hl.1)⟩
        have hd : R l m q = true := by
          refine R_dir (by omega) (dirE_iff.2 ?_)
          have ho : (evAt l q).o = (evAt l m).o := h4.trans hl.2.symm
          have er := err0 ((ok_at h).1 m hm)
          have b1 := ev_at h hm
          have b2 := ev_at h (show q < l.length by omega)
          rw [hl.2] at er
          rcases isLk_iff.1 hl.1 with k3 | k4
          · have e1 := er.2.2.2.1 k3
            rw [h6] at e1
            by_cases kq : (evAt l q).k = 3
            · rw [if_pos kq] at e1; omega
            · have kq4 : (evAt l q).k = 4 := by rcases isLk_iff.1 h3 with h | h; exact absurd h kq; exact h
              exact .inr (.inl ⟨.inl ⟨kq4, k3⟩, ho⟩)
          · have e1 := er.2.2.2.2.1 k4
            rw [h6] at e1
            by_cases kq : (evAt l q).k = 3
            · rw [if_pos kq] at e1; exact .inl (by omega)
            · rw [if_neg kq] at e1; omega
        rcases h5 with rfl | h5
        · exact hd
        · exact R_trans hd h5
      · refine ⟨q, h1, by omega, h3, h4, h5, ?_, ?_⟩
        · intro p p1 p2
          by_cases e : p = m
          · subst e; exact hl
          · exact h7 p p1 (by omega)
        rw [← h6]
        exact lock_step (ev_at h hi).2.2.1 (ev_at h hm).2.2.1 (fun hh => hl ⟨isLk_iff.2 hh.1, hh.2⟩)
theorem locks_ordered {l : List Ev} (h : (played l).2.2 = 0) {i j : Nat} (hij : i < j) (hj : j < l.length) (hi : isLk (evAt l i) = true) (hk : isLk (evAt l j) = true) (ho : (evAt l i).o = (evAt l j).o) : R l j i = true := by
  obtain ⟨q, h1, h2, h3, h4, h5, h7, h6⟩ := lock_last h (show i < l.length by omega) hi (j + 1) (by omega) (by omega)
  by_cases e : q = j
  · subst e
    rcases h5 with rfl | h5
    · omega
    · exact h5
  · exact absurd ⟨hk, ho.symm⟩ (h7 j (by omega) (by omega))
end Go.Proofs.Ytdhbgbneadcmiaa

/- Plain laws of races: prefixes; one thread; reads; one lock. No program. -/
namespace Go.Proofs.Ytdhbgbneadcmiaa

theorem rowR_filter (l : List Ev) (i n : Nat) : ∀ m, n ≤ m → (rowR l i m).filter (fun r => decide (r.b < (n : Int))) = rowR l i n := by
  intro m
  induction m with
  | zero => intro h; obtain rfl : n = 0 := by omega
            rfl
  | succ m ih =>
    intro h
    by_cases e : n = m + 1
    · subst e
      rw [List.filter_eq_self]
      intro r hr
      simp only [rowR, List.mem_map, List.mem_filter, List.mem_range] at hr
      obtain ⟨k, ⟨hk, _⟩, rfl⟩ := hr
      have : (k : Int) < ((m + 1 : Nat) : Int) := by omega
      exact decide_eq_true this
    · have hn : n ≤ m := by omega
      by_cases hc : i < m ∧ raceB l i m = true
      · rw [rowR_yes hc.1 hc.2, List.filter_append, ih hn]
        have : ¬ (m : Int) < n := by omega
        simp [raceOf, this]
      · have hz : rowR l i (m + 1) = rowR l i m := by
          simp only [rowR, List.range_succ, List.filter_append, List.map_append]
          have : (decide (i < m) && raceB l i m) = false := by
            rw [Bool.eq_false_iff]
            simpa using hc
          simp [this]
        rw [hz, ih hn]
theorem allR_filter (l : List Ev) (m n i : Nat) (h : n ≤ m) : (allR l m i).filter (fun r => decide (r.b < (n : Int))) = allR l n i := by
  rw [allR, List.filter_flatMap]
  unfold allR
  congr 1
  funext a
  exact rowR_filter l a n m h
theorem rowR_none (l : List Ev) {i n : Nat} (h : n ≤ i + 1) : rowR l i n = [] := by
  simp only [rowR, List.map_eq_nil_iff, List.filter_eq_nil_iff, List.mem_range]
  intro k hk
  simp; omega
theorem allR_top (l : List Ev) (n : Nat) : ∀ i, n ≤ i → allR l n i = allR l n n := by
  intro i
  induction i with
  | zero => intro h; obtain rfl : n = 0 := by omega
            rfl
  | succ i ih =>
    intro h
    by_cases e : n = i + 1
    · subst e; rfl
    · rw [allR_succ, rowR_none l (by omega), List.append_nil, ih (by omega)]
theorem raceB_take (l : List Ev) {n i k : Nat} (hi : i < k) (hk : k < n) : raceB (l.take n) i k = raceB l i k := by
  simp only [raceB, evAt_take l n i (by omega), evAt_take l n k hk, R_take l n k i hk]
theorem raceOf_take (l : List Ev) {n i k : Nat} (hi : i < k) (hk : k < n) : raceOf (l.take n) i k = raceOf l i k := by
  simp only [raceOf, evAt_take l n i (by omega), evAt_take l n k hk]
theorem rowR_take (l : List Ev) (n i : Nat) : ∀ m, m ≤ n → rowR (l.take n) i m = rowR l i m := by
  intro m
  induction m with
  | zero => intro _; rfl
  | succ m ih =>
    intro hm
    by_cases hi : i < m
    · cases hb : raceB l i m
      · rw [rowR_no hb, rowR_no (by rw [raceB_take l hi (by omega)]; exact hb), ih (by omega)]
      · rw [rowR_yes hi hb, rowR_yes hi (by rw [raceB_take l hi (by omega)]; exact hb), ih (by omega), raceOf_take l hi (by omega)]
    · rw [rowR_none _ (by omega), rowR_none _ (by omega)]
/-- The races of a prefix are those whose second place is in it. -/
theorem raceL_take (l : List Ev) (n : Nat) (h : n ≤ l.length) : raceL (l.take n) = (raceL l).filter fun r => decide (r.b < (n : Int)) := by
  have hl : (l.take n).length = n := by simp; omega
  rw [raceL, hl, allR_filter l l.length n l.length h, allR_top l n l.length h]
  unfold allR
  congr 1
  funext a
  exact rowR_take l n a n (Nat.le_refl _)
theorem raceL_nil {l : List Ev} (h : ∀ i j, i < j → j < l.length → raceB l i j = false) : raceL l = [] := by
  rw [List.eq_nil_iff_forall_not_mem]
  intro r hr
  obtain ⟨i, j, _, h1, h2, h3⟩ := mem_raceL.1 hr
  rw [h i j h1 h2] at h3; cases h3
/-- Of one thread nothing races. -/
theorem raceL_one {l : List Ev} (h : ∀ e ∈ l, e.t = 0) : raceL l = [] := by
  refine raceL_nil fun i j hij hj => ?_
  have hi : (evAt l i).t = 0 := by rw [evAt_lt (show i < l.length by omega)]; exact h _ (List.getElem_mem _)
  have hjt : (evAt l j).t = 0 := by rw [evAt_lt hj]; exact h _ (List.getElem_mem _)
  have hR : R l j i = true := R_dir hij (dirE_iff.2 (.inl (by rw [hi, hjt])))
  simp [raceB, hR]
/-- Reads do not race. -/
theorem raceL_reads {l : List Ev} (h : ∀ e ∈ l, e.k ≠ 2) : raceL l = [] := by
  refine raceL_nil fun i j hij hj => ?_
  have hi : (evAt l i).k ≠ 2 := by rw [evAt_lt (show i < l.length by omega)]; exact h _ (List.getElem_mem _)
  have hjt : (evAt l j).k ≠ 2 := by rw [evAt_lt hj]; exact h _ (List.getElem_mem _)
  simp [raceB, hi, hjt]
/-- Two events of threads that have one lock are ordered. -/
theorem held_ordered {l : List Ev} (h : (played l).2.2 = 0) {i j o : Nat} (hij : i < j) (hj : j < l.length) (hi : (stAt l i).owner o = (evAt l i).t + 1) (hk : (stAt l j).owner o = (evAt l j).t + 1) : R l j i = true := by
  have key : ∀ m, i ≤ m → m ≤ l.length → ((stAt l m).owner o = (evAt l i).t + 1 ∧ True) ∨ ∃ q, i ≤ q ∧ q < m ∧ isLk (evAt l q) = true ∧ (evAt l q).o = o ∧ (q = i ∨ R l q i = true) ∧ (stAt l m).owner o = if (evAt l q).k = 3 then (evAt l q).t + 1 else 0 := by
    intro m
    induction m with
    | zero => intro h1 _; obtain rfl : i = 0 := by omega
              exact .inl ⟨hi, trivial⟩
    | succ m ih =>
      intro him hml
      have hm : m < l.length := by omega
      by_cases e : i = m + 1
      · subst e; exact .inl ⟨hi, trivial⟩
      · have bi := ev_at h (show i < l.length by omega)
        have bm := ev_at h hm
        rw [stAt, stFrom_succ _ _ _ hm]
        by_cases hl : isLk (evAt l m) = true ∧ (evAt l m).o = o
        · have er := err0 ((ok_at h).1 m hm)
          have hon : (evAt l m).o.toNat = o := by have := hl.2; omega
          have ihm := ih (by omega) (by omega)
          refine .inr ⟨m, by omega, by omega, hl.1, hl.2, ?_, by rw [← hon]; exact lock_own (isLk_iff.1 hl.1)⟩
          by_cases e2 : m = i
          · exact .inl e2
          · right
            rw [hon] at er
            rcases ihm with ⟨h1, _⟩ | ⟨q, h1, h2, h3, h4, h5, h6⟩
            · rcases isLk_iff.1 hl.1 with k3 | k4
              · have := er.2.2.2.1 k3
                omega
              · have := er.2.2.2.2.1 k4
                exact R_dir (by omega) (dirE_iff.2 (.inl (by omega)))
            · have bq := ev_at h (show q < l.length by omega)
              have hd : R l m q = true := by
                refine R_dir h2 (dirE_iff.2 ?_)
                rcases isLk_iff.1 hl.1 with k3 | k4
                · have e1 := er.2.2.2.1 k3
                  rw [h6] at e1
                  by_cases kq : (evAt l q).k = 3
                  · rw [if_pos kq] at e1; omega
                  · have kq4 : (evAt l q).k = 4 := by rcases isLk_iff.1 h3 with h | h; exact absurd h kq; exact h
                    exact .inr (.inl ⟨.inl ⟨kq4, k3⟩, by omega⟩)
                · have e1 := er.2.2.2.2.1 k4
                  rw [h6] at e1
                  by_cases kq : (evAt l q).k = 3
                  · rw [if_pos kq] at e1; exact .inl (by omega)
                  · rw [if_neg kq] at e1; omega
              rcases h5 with rfl | h5
              · exact hd
              · exact R_trans hd h5
        · have hst : (nxt (stFrom St.first l m) (evAt l m)).owner o = (stFrom St.first l m).owner o := by
            have := lock_step (s := stFrom St.first l m) (e := evAt l m) (o := (o : Int)) (by omega) bm.2.2.1 (fun hh => hl ⟨isLk_iff.2 hh.1, hh.2⟩)
            simpa using this
          rw [hst]
          have ihm := ih (by omega) (by omega)
          rcases ihm with ⟨h1, _⟩ | ⟨q, h1, h2, h3, h4, h5, h6⟩
          · exact .inl ⟨h1, trivial⟩
          · exact .inr ⟨q, h1, by omega, h3, h4, h5, h6⟩
  have bj := ev_at h hj
  rcases key j (by omega) (by omega) with ⟨h1, _⟩ | ⟨q, h1, h2, h3, h4, h5, h6⟩
  · exact R_dir hij (dirE_iff.2 (.inl (by omega)))
  · rw [hk] at h6
    have hq : R l j q = true := by
      by_cases kq : (evAt l q).k = 3
      · rw [if_pos kq] at h6
        exact R_dir h2 (dirE_iff.2 (.inl (by omega)))
      · rw [if_neg kq] at h6; omega
    rcases h5 with rfl | h5
    · exact hq
    · exact R_trans hq h5
end Go.Proofs.Ytdhbgbneadcmiaa

/- Rings, plain: when there is a ring, and which one. -/
import Derived.Test.YtoohconipcleiaaMU
namespace Go.Proofs.Ytoohconipcleiaa
open Go.RowKit

/-- A ring of m locks. -/
structure CycF (E : Nat → Nat → Bool) (m : Nat) (f : Nat → Nat) : Prop where
  pos : 0 < m
  lt : ∀ i, i < m → f i < 5
  inj : ∀ i j, i < m → j < m → f i = f j → i = j
  edge : ∀ i, i < m → E (f i) (f ((i + 1) % m)) = true
def lst (m : Nat) (f : Nat → Nat) : List Int := (List.range m).map fun i => (f i : Int)
theorem lst_len (m : Nat) (f : Nat → Nat) : (lst m f).length = m := by simp [lst]
theorem lst_succ (m : Nat) (f : Nat → Nat) : lst (m + 1) f = lst m f ++ [(f m : Int)] := by simp [lst, List.range_succ]
theorem lst_congr {m : Nat} {f g : Nat → Nat} (h : ∀ i, i < m → f i = g i) : lst m f = lst m g := by
  unfold lst
  exact List.map_congr_left fun i hi => by rw [h i (List.mem_range.1 hi)]
theorem lst_ne {m : Nat} {f : Nat → Nat} (h : 0 < m) : lst m f ≠ [] := by
  intro e
  have := congrArg List.length e
  rw [lst_len] at this
  simp at this
  omega
theorem lst_last {m : Nat} (f : Nat → Nat) (h : 0 < m) : lastI (lst m f) = f (m - 1) := by
  obtain ⟨k, rfl⟩ : ∃ k, m = k + 1 := ⟨m - 1, by omega⟩
  rw [lst_succ]
  simp [lastI]
theorem lst_head {m : Nat} (f : Nat → Nat) (h : 0 < m) : ((lst m f).headD 0).toNat = f 0 := by
  obtain ⟨k, rfl⟩ : ∃ k, m = k + 1 := ⟨m - 1, by omega⟩
  simp [lst, List.range_succ_eq_map]
theorem lst_has {m : Nat} {f : Nat → Nat} {k : Nat} : hasB (lst m f) (k : Int) = true ↔ ∃ j, j < m ∧ f j = k := by
  simp only [hasB, decide_eq_true_eq, lst, List.mem_map, List.mem_range]
  constructor
  · rintro ⟨j, h1, h2⟩; exact ⟨j, h1, by omega⟩
  · rintro ⟨j, h1, h2⟩; exact ⟨j, h1, by omega⟩
theorem scanF_some {f : Nat → List Int} : ∀ {m k : Nat}, scanF f k m ≠ [] → ∃ j, k ≤ j ∧ j < k + m ∧ f j ≠ [] ∧ scanF f k m = f j ∧ ∀ i, k ≤ i → i < j → f i = []
  | 0, k, h => absurd rfl h
  | m + 1, k, h => by
    by_cases e : f k = []
    · rw [scanF_no e] at h ⊢
      obtain ⟨j, h1, h2, h3, h4, h5⟩ := scanF_some h
      refine ⟨j, by omega, by omega, h3, h4, fun i hi hj => ?_⟩
      by_cases e2 : i = k
      · rw [e2]; exact e
      · exact h5 i (by omega) hj
    · rw [scanF_yes e] at h ⊢
      exact ⟨k, Nat.le_refl _, by omega, e, rfl, fun i hi hj => by omega⟩
theorem scanF_congr {f g : Nat → List Int} : ∀ {m k : Nat}, (∀ j, k ≤ j → j < k + m → f j = g j) → scanF f k m = scanF g k m
  | 0, k, h => rfl
  | m + 1, k, h => by
    have h0 := h k (Nat.le_refl _) (by omega)
    have h1 := scanF_congr (m := m) (k := k + 1) fun j h1 h2 => h j (by omega) (by omega)
    by_cases e : f k = []
    · rw [scanF_no e, scanF_no (h0 ▸ e), h1]
    · rw [scanF_yes e, scanF_yes (h0 ▸ e), h0]
theorem scanF_has {f : Nat → List Int} : ∀ {m k j : Nat}, k ≤ j → j < k + m → f j ≠ [] → scanF f k m ≠ []
  | 0, k, j, h1, h2, _ => by omega
  | m + 1, k, j, h1, h2, h3 => by
    by_cases e : f k = []
    · rw [scanF_no e]
      have : k ≠ j := fun h => by subst h; exact h3 e
      exact scanF_has (by omega) (by omega) h3
    · rw [scanF_yes e]; exact e
/-- A way on from r locks to m. -/
structure WayF (E : Nat → Nat → Bool) (r m : Nat) (g : Nat → Nat) : Prop where
  lt : ∀ i, r ≤ i → i < m → g i < 5 ∧ ∀ j, j < i → g j ≠ g i
  edge : ∀ i, r ≤ i + 1 → i + 1 < m → E (g i) (g (i + 1)) = true
  shut : E (g (m - 1)) (g 0) = true
theorem longP_val (E : Nat → Nat → Bool) : ∀ (n r : Nat) (f : Nat → Nat), 0 < r → longP E n (lst r f) ≠ [] → ∃ g, (∀ i, i < r → g i = f i) ∧ longP E n (lst r f) = lst (r + n) g ∧ WayF E r (r + n) g
  | 0, r, f, hr, h => by
    have h0 : longP E 0 (lst r f) = if E (f (r - 1)) (f 0) then lst r f else [] := by
      rw [← lst_last f hr, ← lst_head f hr]; rfl
    rw [h0] at h
    by_cases e : E (f (r - 1)) (f 0) = true
    · refine ⟨f, fun _ _ => rfl, by rw [h0, if_pos e]; rfl, ⟨fun i h1 h2 => by omega, fun i h1 h2 => by omega, by simpa using e⟩⟩
    · rw [if_neg e] at h; exact absurd rfl h
  | n + 1, r, f, hr, h => by
    have h0 : longP E (n + 1) (lst r f) = scanF (fun k => if E (f (r - 1)) k && !hasB (lst r f) (k : Int) then longP E n (lst r f ++ [(k : Int)]) else []) 0 5 := by
      rw [← lst_last f hr]; rfl
    rw [h0] at h
    obtain ⟨k, _, hk5, h2, h3, _⟩ := scanF_some h
    rw [h0, h3]
    by_cases e : (E (f (r - 1)) k && !hasB (lst r f) (k : Int)) = true
    · rw [if_pos e] at h2 ⊢
      simp only [Bool.and_eq_true, Bool.not_eq_true'] at e
      have hl : lst r f ++ [(k : Int)] = lst (r + 1) (fun i => if i < r then f i else k) := by
        rw [lst_succ, if_neg (by omega)]
        congr 1
        exact lst_congr fun i hi => by rw [if_pos hi]
      rw [hl] at h2 ⊢
      obtain ⟨g, g1, g2, g3⟩ := longP_val E n (r + 1) _ (by omega) h2
      have gr : g r = k := by rw [g1 r (by omega), if_neg (by omega)]
      have gf : ∀ i, i < r → g i = f i := fun i hi => by rw [g1 i (by omega), if_pos hi]
      have hrn : r + 1 + n = r + (n + 1) := by omega
      rw [hrn] at g2 g3
      refine ⟨g, gf, g2, ⟨fun i h1 h2 => ?_, fun i h1 h2 => ?_, g3.shut⟩⟩
      · by_cases ei : i = r
        · subst ei
          refine ⟨by omega, fun j hj ej => ?_⟩
          have : hasB (lst i f) (k : Int) = true := lst_has.2 ⟨j, hj, by rw [← gf j hj, ej, gr]⟩
          rw [e.2] at this
          exact Bool.noConfusion this
        · exact g3.lt i (by omega) h2
      · by_cases ei : i + 1 = r
        · rw [ei, gr, gf i (by omega), show i = r - 1 by omega]
          exact e.1
        · exact g3.edge i (by omega) h2
    · rw [if_neg e] at h2; exact absurd rfl h2
theorem longP_has (E : Nat → Nat → Bool) : ∀ (n r : Nat) (g : Nat → Nat), 0 < r → WayF E r (r + n) g → longP E n (lst r g) ≠ []
  | 0, r, g, hr, h => by
    have h0 : longP E 0 (lst r g) = if E (g (r - 1)) (g 0) then lst r g else [] := by
      rw [← lst_last g hr, ← lst_head g hr]; rfl
    rw [h0, if_pos (by simpa using h.shut)]
    exact lst_ne hr
  | n + 1, r, g, hr, h => by
    have h0 : longP E (n + 1) (lst r g) = scanF (fun k => if E (g (r - 1)) k && !hasB (lst r g) (k : Int) then longP E n (lst r g ++ [(k : Int)]) else []) 0 5 := by
      rw [← lst_last g hr]; rfl
    rw [h0]
    obtain ⟨h1, h2⟩ := h.lt r (Nat.le_refl _) (by omega)
    refine scanF_has (j := g r) (Nat.zero_le _) (by omega) ?_
    have e1 := h.edge (r - 1) (by omega) (by omega)
    rw [show r - 1 + 1 = r by omega] at e1
    have e2 : hasB (lst r g) (g r : Int) = false := by
      rw [Bool.eq_false_iff]
      intro e
      obtain ⟨j, hj, ej⟩ := lst_has.1 e
      exact h2 j hj ej
    rw [e1, e2, if_pos (by rfl), ← lst_succ]
    refine longP_has E n (r + 1) g (by omega) ?_
    rw [show r + 1 + n = r + (n + 1) by omega]
    exact ⟨fun i h1 h2 => h.lt i (by omega) h2, fun i h1 h2 => h.edge i (by omega) h2, h.shut⟩
theorem WayF.cyc {E : Nat → Nat → Bool} {m : Nat} {g : Nat → Nat} (h : WayF E 1 m g) (hm : 0 < m) (h0 : g 0 < 5) : CycF E m g := by
  have hlt : ∀ i, i < m → g i < 5 := fun i hi => by
    by_cases e : i = 0
    · rw [e]; exact h0
    · exact (h.lt i (by omega) hi).1
  have hne : ∀ i j, i < j → j < m → g i ≠ g j := fun i j h1 h2 => (h.lt j (by omega) h2).2 i h1
  refine ⟨hm, hlt, fun i j h1 h2 e => ?_, fun i hi => ?_⟩
  · rcases Nat.lt_trichotomy i j with h | h | h
    · exact absurd e (hne i j h h2)
    · exact h
    · exact absurd e.symm (hne j i h h1)
  · by_cases e : i + 1 = m
    · rw [e, Nat.mod_self, show i = m - 1 by omega]; exact h.shut
    · rw [Nat.mod_eq_of_lt (by omega)]; exact h.edge i (by omega) (by omega)
theorem CycF.way {E : Nat → Nat → Bool} {m : Nat} {g : Nat → Nat} (h : CycF E m g) : WayF E 1 m g := by
  have hp := h.pos
  refine ⟨fun i h1 h2 => ⟨h.lt i h2, fun j hj e => ?_⟩, fun i h1 h2 => ?_, ?_⟩
  · have := h.inj j i (by omega) h2 e; omega
  · have := h.edge i (by omega)
    rwa [Nat.mod_eq_of_lt h2] at this
  · have := h.edge (m - 1) (by omega)
    rwa [show m - 1 + 1 = m by omega, Nat.mod_self] at this
/-- Turned by j. -/
theorem CycF.turn {E : Nat → Nat → Bool} {m : Nat} {f : Nat → Nat} (h : CycF E m f) (j : Nat) : CycF E m fun i => f ((i + j) % m) := by
  have hp := h.pos
  refine ⟨hp, fun i hi => h.lt _ (Nat.mod_lt _ hp), fun a b ha hb e => ?_, fun i hi => ?_⟩
  · have h1 := h.inj _ _ (Nat.mod_lt _ hp) (Nat.mod_lt _ hp) e
    have h2 : (a + j) % m = (b + j) % m := h1
    have h3 : a % m = b % m := by
      have e1 := Nat.sub_mod_eq_zero_of_mod_eq h2
      have e2 := Nat.sub_mod_eq_zero_of_mod_eq h2.symm
      rw [show a + j - (b + j) = a - b by omega] at e1
      rw [show b + j - (a + j) = b - a by omega] at e2
      rw [Nat.mod_eq_of_lt (by omega)] at e1
      rw [Nat.mod_eq_of_lt (by omega)] at e2
      rw [show a = b by omega]
    rwa [Nat.mod_eq_of_lt ha, Nat.mod_eq_of_lt hb] at h3
  · have h1 := h.edge _ (Nat.mod_lt (i + j) hp)
    have h2 : ((i + 1) % m + j) % m = ((i + j) % m + 1) % m := by
      rw [Nat.mod_add_mod, Nat.mod_add_mod]
      congr 1
      omega
    rw [h2]
    exact h1
/-- The other way round. -/
theorem CycF.back {E : Nat → Nat → Bool} {m : Nat} {f : Nat → Nat} (h : CycF E m f) : CycF (fun a b => E b a) m fun i => f (m - 1 - i) := by
  have hp := h.pos
  refine ⟨hp, fun i hi => h.lt _ (by omega), fun a b ha hb e => ?_, fun i hi => ?_⟩
  · have := h.inj _ _ (by omega) (by omega) e; omega
  · by_cases e : i + 1 = m
    · have h1 := h.edge (m - 1) (by omega)
      rw [show m - 1 + 1 = m by omega, Nat.mod_self] at h1
      rw [e, Nat.mod_self, show m - 1 - i = 0 by omega, Nat.sub_zero]
      exact h1
    · have h1 := h.edge (m - 1 - (i + 1)) (by omega)
      rw [show m - 1 - (i + 1) + 1 = m - 1 - i by omega, Nat.mod_eq_of_lt (by omega)] at h1
      rw [Nat.mod_eq_of_lt (by omega)]
      exact h1
theorem CycF.mono {E F : Nat → Nat → Bool} (hEF : ∀ a b, a < 5 → b < 5 → E a b = true → F a b = true) {m : Nat} {f : Nat → Nat} (h : CycF E m f) : CycF F m f :=
  ⟨h.pos, h.lt, h.inj, fun i hi => hEF _ _ (h.lt i hi) (h.lt _ (Nat.mod_lt _ h.pos)) (h.edge i hi)⟩
theorem inj_le : ∀ (n m : Nat) (f : Nat → Nat), (∀ i, i < m → f i < n) → (∀ i j, i < m → j < m → f i = f j → i = j) → m ≤ n
  | 0, m, f, h1, h2 => by
    rcases Nat.eq_zero_or_pos m with h | h
    · omega
    · have := h1 0 h; omega
  | n + 1, m, f, h1, h2 => by
    rcases Nat.eq_zero_or_pos m with h | h
    · omega
    · have := inj_le n (m - 1) (fun i => if f i = n then f (m - 1) else f i) (fun i hi => by
        split
        · rename_i e
          have h3 := h1 (m - 1) (by omega)
          have h4 : f (m - 1) ≠ n := fun e2 => by have := h2 i (m - 1) (by omega) (by omega) (by omega); omega
          omega
        · rename_i e
          have := h1 i (by omega)
          omega) (fun i j hi hj e => by
        split at e <;> split at e
        · exact h2 i j (by omega) (by omega) (by omega)
        · have := h2 (m - 1) j (by omega) (by omega) e; omega
        · have := h2 i (m - 1) (by omega) (by omega) e; omega
        · exact h2 i j (by omega) (by omega) e)
      omega
theorem CycF.le {E : Nat → Nat → Bool} {m : Nat} {f : Nat → Nat} (h : CycF E m f) : m ≤ 5 := inj_le 5 m f h.lt h.inj
theorem ringM_has {E : Nat → Nat → Bool} {m : Nat} {f : Nat → Nat} (h : CycF E m f) : longP E (m - 1) [(f 0 : Int)] ≠ [] := by
  have h1 := longP_has E (m - 1) 1 f (by omega) (by rw [show 1 + (m - 1) = m by have := h.pos; omega]; exact h.way)
  simpa [lst] using h1
theorem ringM_ne {E : Nat → Nat → Bool} {m : Nat} {f : Nat → Nat} (h : CycF E m f) : ringM E m ≠ [] :=
  scanF_has (j := f 0) (Nat.zero_le _) (by have := h.lt 0 h.pos; omega) (ringM_has h)
theorem ringM_val {E : Nat → Nat → Bool} {m : Nat} (hm : 0 < m) (h : ringM E m ≠ []) : ∃ f, CycF E m f ∧ ringM E m = lst m f ∧ ∀ i, i < m → f 0 ≤ f i := by
  obtain ⟨k, _, hk, h2, h3, h4⟩ := scanF_some h
  have h3' : ringM E m = longP E (m - 1) [(k : Int)] := h3
  have e1 : [(k : Int)] = lst 1 (fun _ => k) := by simp [lst]
  rw [e1] at h2 h3'
  obtain ⟨g, g1, g2, g3⟩ := longP_val E (m - 1) 1 _ (by omega) h2
  rw [show 1 + (m - 1) = m by omega] at g2 g3
  have g0 : g 0 = k := g1 0 (by omega)
  have hc := g3.cyc hm (by omega)
  refine ⟨g, hc, h3'.trans g2, fun i hi => ?_⟩
  have h5 := ringM_has (hc.turn i)
  rw [Nat.zero_add, Nat.mod_eq_of_lt hi] at h5
  rcases Nat.lt_or_ge (g i) k with h6 | h6
  · exact absurd (h4 (g i) (Nat.zero_le _) h6) h5
  · omega
theorem ringP_ne {E : Nat → Nat → Bool} {m : Nat} {f : Nat → Nat} (h : CycF E m f) : ringP E ≠ [] :=
  scanF_has (j := m) h.pos (by have := h.le; omega) (ringM_ne h)
theorem ringP_val {E : Nat → Nat → Bool} (h : ringP E ≠ []) : ∃ m f, CycF E m f ∧ ringP E = lst m f ∧ (∀ i, i < m → f 0 ≤ f i) ∧ ∀ m' f', CycF E m' f' → m ≤ m' := by
  obtain ⟨m, h1, h2, h3, h4, h5⟩ := scanF_some h
  obtain ⟨f, f1, f2, f3⟩ := ringM_val (by omega) h3
  refine ⟨m, f, f1, h4.trans f2, f3, fun m' f' h' => ?_⟩
  rcases Nat.lt_or_ge m' m with h6 | h6
  · exact absurd (h5 m' h'.pos h6) (ringM_ne h')
  · exact h6
/-- With more pairs there is a ring no longer. -/
theorem ringP_mono {E F : Nat → Nat → Bool} (hEF : ∀ a b, a < 5 → b < 5 → E a b = true → F a b = true) (h : ringP E ≠ []) : ringP F ≠ [] ∧ (ringP F).length ≤ (ringP E).length := by
  obtain ⟨m, f, h1, h2, _, _⟩ := ringP_val h
  have h3 := ringP_ne (h1.mono hEF)
  obtain ⟨m', f', g1, g2, _, g4⟩ := ringP_val h3
  refine ⟨h3, ?_⟩
  rw [h2, g2, lst_len, lst_len]
  exact g4 m f (h1.mono hEF)
theorem ringP_congr {E F : Nat → Nat → Bool} (h : ∀ a b, a < 5 → b < 5 → E a b = F a b) : ringP E = ringP F := by
  have hl : ∀ n row, LkRow row → longP E n row = longP F n row := by
    intro n
    induction n with
    | zero =>
      intro row hr
      obtain ⟨_, _, h1⟩ := hr.last
      obtain ⟨_, _, h2⟩ := hr.head
      simp only [longP]
      rw [h _ _ h1 h2]
    | succ n ih =>
      intro row hr
      obtain ⟨_, _, h1⟩ := hr.last
      have hk : ∀ k, k < 5 → (if E (lastI row) k && !hasB row (k : Int) then longP E n (row ++ [(k : Int)]) else []) = (if F (lastI row) k && !hasB row (k : Int) then longP F n (row ++ [(k : Int)]) else []) := fun k hk => by
        rw [h _ _ h1 hk, ih _ (hr.snoc hk)]
      simp only [longP]
      exact scanF_congr fun k _ h2 => hk k (by omega)
  have hm : ∀ m, ringM E m = ringM F m := by
    intro m
    have hk : ∀ k : Nat, k < 5 → longP E (m - 1) [(k : Int)] = longP F (m - 1) [(k : Int)] := fun k hk => hl _ _ ⟨by simp, fun x hx => by simp at hx; subst hx; omega⟩
    exact scanF_congr fun k _ h2 => hk k (by omega)
  have : ringM E = ringM F := funext hm
  unfold ringP
  rw [this]
end Go.Proofs.Ytoohconipcleiaa

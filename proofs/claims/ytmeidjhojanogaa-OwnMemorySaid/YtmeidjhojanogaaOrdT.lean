/- What the rows of 'ahead' are: the transitive closure of 'directly'. No program. -/
import Derived.Test.YtmeidjhojanogaaOrd
import Derived.Test.YtmeidjhojanogaaOrdC
import Derived.Test.YtmeidjhojanogaaOrdE
namespace Go.Proofs.Ytmeidjhojanogaa

/-- Is event k ahead of event j? -/
def R (l : List Ev) (j k : Nat) : Bool := rowsTo l (j + 1) j k
abbrev Spec (l : List Ev) (a : Nat) : Prop := ∀ k, R l a k = true ↔ ∃ i, i < a ∧ dirE (evAt l i) (evAt l a) = true ∧ (k = i ∨ R l i k = true)
theorem rowDn_iff (l : List Ev) (prev : Nat → Nat → Bool) (b : Ev) (ht : ∀ i k x, prev i k = true → prev k x = true → prev i x = true) :
    ∀ (m : Nat) (cur : Nat → Bool), (∀ i k, cur i = true → prev i k = true → cur k = true) → ∀ k, (rowDn l prev b m cur k = true ↔ cur k = true ∨ ∃ i, i < m ∧ dirE (evAt l i) b = true ∧ (k = i ∨ prev i k = true)) := by
  intro m
  induction m with
  | zero => intro cur _ k; simp [rowDn]
  | succ m ih =>
    intro cur hc k
    by_cases h : cur m = false ∧ dirE (evAt l m) b = true
    · rw [rowDn, if_pos h, ih _ (by
        intro i k hi hp
        simp only [Bool.or_eq_true] at hi ⊢
        rcases hi with hi | hi
        · by_cases e : i = m
          · subst e; exact .inr hp
          · rw [if_neg e] at hi
            by_cases e2 : k = m
            · exact .inl (by rw [if_pos e2])
            · exact .inl (by rw [if_neg e2]; exact hc i k hi hp)
        · exact .inr (ht m i k hi hp)) k]
      simp only [Bool.or_eq_true]
      constructor
      · rintro ((h1 | h1) | ⟨i, h1, h2, h3⟩)
        · by_cases e : k = m
          · exact .inr ⟨m, by omega, h.2, .inl e⟩
          · rw [if_neg e] at h1; exact .inl h1
        · exact .inr ⟨m, by omega, h.2, .inr h1⟩
        · exact .inr ⟨i, by omega, h2, h3⟩
      · rintro (h1 | ⟨i, h1, h2, h3⟩)
        · refine .inl (.inl ?_)
          by_cases e : k = m
          · rw [if_pos e]
          · rw [if_neg e]; exact h1
        · by_cases e : i = m
          · subst e
            rcases h3 with rfl | h3
            · exact .inl (.inl (by rw [if_pos rfl]))
            · exact .inl (.inr h3)
          · exact .inr ⟨i, by omega, h2, h3⟩
    · rw [rowDn, if_neg h, ih _ hc k]
      constructor
      · rintro (h1 | ⟨i, h1, h2, h3⟩)
        · exact .inl h1
        · exact .inr ⟨i, by omega, h2, h3⟩
      · rintro (h1 | ⟨i, h1, h2, h3⟩)
        · exact .inl h1
        · by_cases e : i = m
          · subst e
            have hcm : cur i = true := by
              cases hh : cur i
              · exact absurd ⟨hh, h2⟩ h
              · rfl
            rcases h3 with rfl | h3
            · exact .inl hcm
            · exact .inl (hc i k hcm h3)
          · exact .inr ⟨i, by omega, h2, h3⟩
theorem rowsTo_out (l : List Ev) : ∀ (j r k : Nat), j ≤ r → rowsTo l j r k = false
  | 0, _, _, _ => rfl
  | j + 1, r, k, h => by
    have e : r ≠ j := by omega
    simp only [rowsTo, if_neg e]
    exact rowsTo_out l j r k (by omega)
theorem rowsTo_R (l : List Ev) (j r k : Nat) (h : r < j) : rowsTo l j r k = R l r k := rowsTo_lt l j r k h
theorem befM_R (l : List Ev) (i j : Nat) (h : j < l.length) : befM l i j = R l j i := rowsTo_R l _ j i h
theorem trans_of (l : List Ev) (j : Nat) (h : ∀ a, a < j → Spec l a) : ∀ a b c, a < j → R l a b = true → R l b c = true → R l a c = true := by
  intro a
  induction a using Nat.strongRecOn with
  | _ a ih =>
    intro b c ha h1 h2
    obtain ⟨i, hi, hd, h3⟩ := (h a ha b).1 h1
    refine (h a ha c).2 ⟨i, hi, hd, .inr ?_⟩
    rcases h3 with rfl | h3
    · exact h2
    · exact ih i hi b c (by omega) h3 h2
theorem spec_all (l : List Ev) : ∀ a, Spec l a := by
  have h : ∀ j a, a < j → Spec l a := by
    intro j
    induction j with
    | zero => intro a ha; omega
    | succ j ih =>
      intro a ha
      by_cases e : a < j
      · exact ih a e
      · obtain rfl : a = j := by omega
        intro k
        have ht := trans_of l a ih
        have hk := rowDn_iff l (rowsTo l a) (evAt l a) (by
          intro i k x h1 h2
          by_cases hi : i < a
          · rw [rowsTo_R l a i _ hi] at h1 ⊢
            by_cases hk : k < a
            · rw [rowsTo_R l a k _ hk] at h2
              exact ht i k x hi h1 h2
            · rw [rowsTo_out l a k _ (by omega)] at h2; cases h2
          · rw [rowsTo_out l a i _ (by omega)] at h1; cases h1) a (fun _ => false) (by intro i k h; cases h) k
        have e1 : R l a k = rowDn l (rowsTo l a) (evAt l a) a (fun _ => false) k := by simp only [R, rowsTo, if_true]
        rw [e1, hk]
        constructor
        · rintro (h | ⟨i, h1, h2, h3⟩)
          · cases h
          · exact ⟨i, h1, h2, by rw [← rowsTo_R l a i k h1]; exact h3⟩
        · rintro ⟨i, h1, h2, h3⟩
          exact .inr ⟨i, h1, h2, by rw [rowsTo_R l a i k h1]; exact h3⟩
  exact fun a => h (a + 1) a (by omega)
theorem R_trans {l : List Ev} {a b c : Nat} (h1 : R l a b = true) (h2 : R l b c = true) : R l a c = true :=
  trans_of l (a + 1) (fun a _ => spec_all l a) a b c (by omega) h1 h2
theorem R_lt {l : List Ev} : ∀ {a b : Nat}, R l a b = true → b < a := by
  intro a
  induction a using Nat.strongRecOn with
  | _ a ih =>
    intro b h
    obtain ⟨i, hi, _, rfl | h3⟩ := (spec_all l a b).1 h
    · exact hi
    · have := ih i hi h3; omega
theorem R_dir {l : List Ev} {a b : Nat} (h : b < a) (hd : dirE (evAt l b) (evAt l a) = true) : R l a b = true := (spec_all l a b).2 ⟨b, h, hd, .inl rfl⟩
/-- From the left: a direct step, and the rest. -/
theorem R_left {l : List Ev} : ∀ {a b : Nat}, R l a b = true → dirE (evAt l b) (evAt l a) = true ∨ ∃ k, b < k ∧ dirE (evAt l b) (evAt l k) = true ∧ R l a k = true := by
  intro a
  induction a using Nat.strongRecOn with
  | _ a ih =>
    intro b h
    obtain ⟨i, hi, hd, rfl | h3⟩ := (spec_all l a b).1 h
    · exact .inl hd
    · rcases ih i hi h3 with h4 | ⟨k, h4, h5, h6⟩
      · exact .inr ⟨i, R_lt h3, h4, R_dir hi hd⟩
      · exact .inr ⟨k, h4, h5, R_trans (R_dir hi hd) h6⟩
theorem evAt_take (l : List Ev) (n i : Nat) (h : i < n) : evAt (l.take n) i = evAt l i := by
  simp [evAt, h]
theorem R_take (l : List Ev) (n : Nat) : ∀ (a b : Nat), a < n → R (l.take n) a b = R l a b := by
  intro a
  induction a using Nat.strongRecOn with
  | _ a ih =>
    intro b ha
    apply Bool.eq_iff_iff.2
    rw [spec_all l a b, spec_all (l.take n) a b]
    constructor
    · rintro ⟨i, h1, h2, h3⟩
      rw [evAt_take l n i (by omega), evAt_take l n a ha] at h2
      rw [ih i h1 b (by omega)] at h3
      exact ⟨i, h1, h2, h3⟩
    · rintro ⟨i, h1, h2, h3⟩
      refine ⟨i, h1, ?_, ?_⟩
      · rw [evAt_take l n i (by omega), evAt_take l n a ha]; exact h2
      · rw [ih i h1 b (by omega)]; exact h3
theorem mem_befL {l : List Ev} {p : Int × Int} : p ∈ befL l ↔ ∃ i j : Nat, p = ((i : Int), (j : Int)) ∧ j < l.length ∧ R l j i = true := by
  rw [befL, mem_allP]
  constructor
  · rintro ⟨i, j, h1, h2, h3, h4⟩
    exact ⟨i, j, h1, h3, by rw [← befM_R l i j h3]; exact h4⟩
  · rintro ⟨i, j, h1, h3, h4⟩
    exact ⟨i, j, h1, R_lt h4, h3, by rw [befM_R l i j h3]; exact h4⟩
theorem mem_befL_nat {l : List Ev} {i j : Nat} : ((i : Int), (j : Int)) ∈ befL l ↔ j < l.length ∧ R l j i = true := by
  rw [mem_befL]
  constructor
  · rintro ⟨a, b, h1, h2, h3⟩
    simp only [Prod.mk.injEq] at h1
    obtain rfl : a = i := by omega
    obtain rfl : b = j := by omega
    exact ⟨h2, h3⟩
  · exact fun ⟨h1, h2⟩ => ⟨i, j, rfl, h1, h2⟩
end Go.Proofs.Ytmeidjhojanogaa

/- Ranks, plain: without a ring each pair leads to a higher rank, and each rank has its reason. -/
import Derived.Test.YtoohconipcleiaaRgK
namespace Go.Proofs.Ytoohconipcleiaa
open Go.RowKit

/-- A walk of n steps to b. -/
def WalkE (E : Nat → Nat → Bool) : Nat → Nat → Prop
  | 0, b => b < 5
  | n + 1, b => b < 5 ∧ ∃ a, E a b = true ∧ WalkE E n a
theorem WalkE.lt {E : Nat → Nat → Bool} : ∀ {n b : Nat}, WalkE E n b → b < 5
  | 0, _, h => h
  | _ + 1, _, h => h.1
theorem WalkE.less {E : Nat → Nat → Bool} : ∀ {n b : Nat}, WalkE E (n + 1) b → WalkE E n b
  | 0, _, h => h.1
  | n + 1, _, h => by
    obtain ⟨h1, a, h2, h3⟩ := h
    exact ⟨h1, a, h2, WalkE.less h3⟩
theorem WalkE.path {E : Nat → Nat → Bool} : ∀ {n b : Nat}, WalkE E n b → ∃ f : Nat → Nat, (∀ i, i ≤ n → f i < 5) ∧ (∀ i, i < n → E (f i) (f (i + 1)) = true) ∧ f n = b
  | 0, b, h => ⟨fun _ => b, fun _ _ => h, fun i hi => by omega, rfl⟩
  | n + 1, b, h => by
    obtain ⟨h1, a, h2, h3⟩ := h
    obtain ⟨f, f1, f2, f3⟩ := WalkE.path h3
    refine ⟨fun i => if i ≤ n then f i else b, fun i _ => ?_, fun i hi => ?_, if_neg (by omega)⟩
    · dsimp only
      split
      · exact f1 i (by assumption)
      · exact h1
    · dsimp only
      by_cases e : i = n
      · subst e
        rw [if_pos (Nat.le_refl _), if_neg (by omega), f3]
        exact h2
      · rw [if_pos (by omega), if_pos (by omega)]
        exact f2 i (by omega)
theorem closed_cyc {E : Nat → Nat → Bool} {n : Nat} {f : Nat → Nat} (h1 : ∀ i, i ≤ n → f i < 5) (h2 : ∀ i, i < n → E (f i) (f (i + 1)) = true) :
    ∀ (k d i : Nat), d ≤ k → 0 < d → i + d ≤ n → f i = f (i + d) → ∃ m g, CycF E m g
  | 0, d, i, hk, hd, _, _ => by omega
  | k + 1, d, i, hk, hd, hi, he => by
    by_cases h : ∃ x y, x < y ∧ y < d ∧ f (i + x) = f (i + y)
    · obtain ⟨x, y, hx, hy, e⟩ := h
      exact closed_cyc h1 h2 k (y - x) (i + x) (by omega) (by omega) (by omega) (by rw [e]; congr 1; omega)
    · refine ⟨d, fun t => f (i + t), hd, fun t ht => h1 _ (by omega), fun x y hx hy e => ?_, fun t ht => ?_⟩
      · rcases Nat.lt_trichotomy x y with g | g | g
        · exact absurd ⟨x, y, g, hy, e⟩ h
        · exact g
        · exact absurd ⟨y, x, g, hx, e.symm⟩ h
      · have h3 := h2 (i + t) (by omega)
        by_cases e : t + 1 = d
        · rw [e, Nat.mod_self, Nat.add_zero, he, ← e]
          exact h3
        · rw [Nat.mod_eq_of_lt (by omega)]
          exact h3
theorem no_walk {E : Nat → Nat → Bool} (h : ringP E = []) {b : Nat} : ¬ WalkE E 5 b := by
  intro hw
  obtain ⟨f, f1, f2, _⟩ := hw.path
  have hno : ¬ ∃ m g, CycF E m g := fun ⟨_, _, hc⟩ => ringP_ne hc h
  have := inj_le 5 6 f (fun i hi => f1 i (by omega)) (fun i j hi hj e => by
    rcases Nat.lt_trichotomy i j with g | g | g
    · exact absurd (closed_cyc f1 f2 (j - i) (j - i) i (Nat.le_refl _) (by omega) (by omega) (by rw [e]; congr 1; omega)) hno
    · exact g
    · exact absurd (closed_cyc f1 f2 (i - j) (i - j) j (Nat.le_refl _) (by omega) (by omega) (by rw [← e]; congr 1; omega)) hno)
  omega
theorem stepR_le (E : Nat → Nat → Bool) (o : Nat → Int) (a b i : Nat) : o i ≤ stepR E o a b i := by
  unfold stepR
  split
  · dsimp only
    split
    · rename_i e
      subst e
      split <;> omega
    · omega
  · omega
theorem rowR_le (E : Nat → Nat → Bool) (a : Nat) (o : Nat → Int) (i b : Nat) : ∀ c, rowRk E a o b i ≤ rowRk E a o (b + c) i
  | 0 => by rw [Nat.add_zero]; exact Int.le_refl _
  | c + 1 => Int.le_trans (rowR_le E a o i b c) (stepR_le E _ a (b + c) i)
theorem roundR_le (E : Nat → Nat → Bool) (o : Nat → Int) (i a : Nat) : ∀ c, roundR E o a i ≤ roundR E o (a + c) i
  | 0 => by rw [Nat.add_zero]; exact Int.le_refl _
  | c + 1 => Int.le_trans (roundR_le E o i a c) (by
    have := rowR_le E (a + c) (roundR E o (a + c)) i 0 5
    rw [Nat.zero_add] at this
    exact this)
/-- Each rank has its walk. -/
def Snd (E : Nat → Nat → Bool) (o : Nat → Int) : Prop := ∀ b, b < 5 → 0 ≤ o b ∧ WalkE E (o b).toNat b
theorem Snd.step {E : Nat → Nat → Bool} {o : Nat → Int} (h : Snd E o) {a : Nat} (ha : a < 5) (b : Nat) : Snd E (stepR E o a b) := by
  intro i hi
  unfold stepR
  split
  · rename_i hE
    dsimp only
    split
    · rename_i e
      subst e
      split
      · obtain ⟨h1, h2⟩ := h a ha
        refine ⟨by omega, ?_⟩
        rw [show (o a + 1).toNat = (o a).toNat + 1 by omega]
        exact ⟨hi, a, hE, h2⟩
      · exact h i hi
    · exact h i hi
  · exact h i hi
theorem Snd.row {E : Nat → Nat → Bool} {o : Nat → Int} (h : Snd E o) {a : Nat} (ha : a < 5) : ∀ b, Snd E (rowRk E a o b)
  | 0 => h
  | b + 1 => (Snd.row h ha b).step ha b
theorem Snd.round {E : Nat → Nat → Bool} {o : Nat → Int} (h : Snd E o) : ∀ a, a ≤ 5 → Snd E (roundR E o a)
  | 0, _ => h
  | a + 1, ha => (Snd.round h a (by omega)).row (by omega) 5
theorem snd_rank (E : Nat → Nat → Bool) : ∀ r, Snd E (rankR E r)
  | 0 => fun _ hb => ⟨Int.le_refl _, hb⟩
  | r + 1 => (snd_rank E r).round 5 (Nat.le_refl _)
theorem low_rank (E : Nat → Nat → Bool) : ∀ (r n b : Nat), n ≤ r → WalkE E n b → (n : Int) ≤ rankR E r b
  | r, 0, b, _, h => (snd_rank E r b h).1
  | 0, n + 1, b, hn, h => by omega
  | r + 1, n + 1, b, hn, h => by
    obtain ⟨hb, a, hE, h3⟩ := h
    have ha := h3.lt
    have h0 := low_rank E r n a (by omega) h3
    have h1 := roundR_le E (rankR E r) a 0 a
    have h2 := rowR_le E a (roundR E (rankR E r) a) a 0 b
    rw [Nat.zero_add] at h1 h2
    have e1 : roundR E (rankR E r) 0 a = rankR E r a := rfl
    have e2 : rowRk E a (roundR E (rankR E r) a) 0 a = roundR E (rankR E r) a a := rfl
    have h4 : rowRk E a (roundR E (rankR E r) a) b a + 1 ≤ rowRk E a (roundR E (rankR E r) a) (b + 1) b := by
      show _ ≤ stepR E _ a b b
      unfold stepR
      rw [if_pos hE]
      show _ ≤ if b = b then _ else _
      rw [if_pos rfl]
      split <;> omega
    have h5 := rowR_le E a (roundR E (rankR E r) a) b (b + 1) (5 - (b + 1))
    rw [show b + 1 + (5 - (b + 1)) = 5 by omega] at h5
    have e3 : roundR E (rankR E r) (a + 1) b = rowRk E a (roundR E (rankR E r) a) 5 b := rfl
    have h6 := roundR_le E (rankR E r) b (a + 1) (5 - (a + 1))
    rw [show a + 1 + (5 - (a + 1)) = 5 by omega] at h6
    have e4 : rankR E (r + 1) b = roundR E (rankR E r) 5 b := rfl
    omega
theorem walk_lt {E : Nat → Nat → Bool} (h : ringP E = []) : ∀ (n b : Nat), WalkE E n b → n < 5
  | 0, _, _ => by omega
  | n + 1, b, hw => by
    have h1 := walk_lt h n b hw.less
    rcases Nat.lt_or_ge (n + 1) 5 with h2 | h2
    · exact h2
    · have : n + 1 = 5 := by omega
      rw [this] at hw
      exact absurd hw (no_walk h)
/-- Each pair leads to a higher rank. -/
theorem rank_up {E : Nat → Nat → Bool} (h : ringP E = []) {a b : Nat} (ha : a < 5) (hb : b < 5) (hE : E a b = true) : rankR E 5 a < rankR E 5 b := by
  obtain ⟨h1, h2⟩ := snd_rank E 5 a ha
  have h3 : WalkE E ((rankR E 5 a).toNat + 1) b := ⟨hb, a, hE, h2⟩
  have h4 := walk_lt h _ _ h3
  have h5 := low_rank E 5 _ b (by omega) h3
  omega
/-- Each rank but the lowest follows the one below. -/
theorem rank_of {E : Nat → Nat → Bool} (h : ringP E = []) {b : Nat} (hb : b < 5) : rankR E 5 b = 0 ∨ ∃ a, a < 5 ∧ E a b = true ∧ rankR E 5 a = rankR E 5 b - 1 := by
  obtain ⟨h1, h2⟩ := snd_rank E 5 b hb
  by_cases e : rankR E 5 b = 0
  · exact .inl e
  · right
    obtain ⟨n, hn⟩ : ∃ n, (rankR E 5 b).toNat = n + 1 := ⟨(rankR E 5 b).toNat - 1, by omega⟩
    have hlt := walk_lt h _ _ h2
    rw [hn] at h2 hlt
    obtain ⟨_, a, h4, h5⟩ := h2
    have h6 := low_rank E 5 n a (by omega) h5
    have h7 := rank_up h h5.lt hb h4
    exact ⟨a, h5.lt, h4, by omega⟩
theorem rankR_congr {E F : Nat → Nat → Bool} (h : ∀ a b, a < 5 → b < 5 → E a b = F a b) (r : Nat) : rankR E r = rankR F r := by
  have h1 : ∀ o a b, a < 5 → b < 5 → stepR E o a b = stepR F o a b := fun o a b ha hb => by unfold stepR; rw [h a b ha hb]
  have h2 : ∀ o a, a < 5 → ∀ b, b ≤ 5 → rowRk E a o b = rowRk F a o b := by
    intro o a ha b
    induction b with
    | zero => intro _; rfl
    | succ b ih => intro hb; simp only [rowRk]; rw [ih (by omega), h1 _ a b ha (by omega)]
  have h3 : ∀ o a, a ≤ 5 → roundR E o a = roundR F o a := by
    intro o a
    induction a with
    | zero => intro _; rfl
    | succ a ih => intro ha; simp only [roundR]; rw [ih (by omega), h2 _ a (by omega) 5 (Nat.le_refl _)]
  induction r with
  | zero => rfl
  | succ r ih => simp only [rankR]; rw [ih, h3 _ 5 (Nat.le_refl _)]
end Go.Proofs.Ytoohconipcleiaa

/- Joined texts. -/
import Derived.Test.YtoohconipcleiaaMC
import Derived.Test.YtoohconipcleiaaMO

/- All states that a program can come to, plain: a walk over them, each once, the least picks first. No program. -/
namespace Go.Proofs.Ytoohconipcleiaa

theorem snoc_rec {α : Type} {C : List α → Prop} (h0 : C []) (h1 : ∀ l x, C l → C (l ++ [x])) (l : List α) : C l := by
  have h : ∀ m : List α, C m.reverse := by
    intro m
    induction m with
    | nil => exact h0
    | cons x m ih => rw [List.reverse_cons]; exact h1 _ _ ih
  have h2 := h l.reverse
  rwa [List.reverse_reverse] at h2
/-- Nothing lies outside the arrays. -/
structure ZrP (s : PS) : Prop where
  mem : ∀ i, 8 ≤ i → s.mem i = 0
  vols : ∀ i, 4 ≤ i → s.vols i = 0
  has : ∀ i, 6 ≤ i → s.has i = 0
  at_ : ∀ i, 6 ≤ i → s.at_ i = 0
  begun : ∀ i, 6 ≤ i → s.begun i = false
  owner : ∀ i, 5 ≤ i → s.owner i = 0
theorem ZrP.first : ZrP PS.first := ⟨fun _ _ => rfl, fun _ _ => rfl, fun _ _ => rfl, fun _ _ => rfl, fun i h => by simp [PS.first]; omega, fun _ _ => rfl⟩
theorem ZrP.tick {s : PS} (h : ZrP s) {t : Nat} (ht : t < 6) : ZrP (tick s t) :=
  ⟨h.mem, h.vols, h.has, fun i hi => by show upN s.at_ t _ i = 0; unfold upN; rw [if_neg (by omega)]; exact h.at_ i hi, h.begun, h.owner⟩
theorem ZrP.doOp {p : List (List Ev)} {s : PS} (h : ZrP s) {t : Nat} (ht : t < 6) {o : Ev} (hb : badOp o = false) : ZrP (doOp p s t o).1 := by
  obtain ⟨o0, oM, _⟩ := bad_iff.1 hb
  have hk := boundK_pos (show 0 < boundK o.k by omega)
  have hH : ∀ x, ZrP { s with has := upZ s.has t x } := fun x => ⟨h.mem, h.vols, fun i hi => by show upZ s.has t _ i = 0; unfold upZ; rw [if_neg (by omega)]; exact h.has i hi, h.at_, h.begun, h.owner⟩
  have hO : o.t < 5 → ∀ x, ZrP { s with owner := upZ s.owner o.t.toNat x } := fun h5 x => ⟨h.mem, h.vols, h.has, h.at_, h.begun, fun i hi => by show upZ s.owner _ _ i = 0; unfold upZ; rw [if_neg (by omega)]; exact h.owner i hi⟩
  rcases (by omega : o.k = 1 ∨ o.k = 2 ∨ o.k = 3 ∨ o.k = 4 ∨ o.k = 5 ∨ o.k = 6 ∨ o.k = 7 ∨ o.k = 8 ∨ o.k = 9) with k | k | k | k | k | k | k | k | k
  · rw [do1 k]; exact hH _
  · rw [do2 k]
    have h8 : o.t < 8 := by rw [k] at oM; exact oM
    exact ⟨fun i hi => by show upZ s.mem _ _ i = 0; unfold upZ; rw [if_neg (by omega)]; exact h.mem i hi, h.vols, h.has, h.at_, h.begun, h.owner⟩
  · rw [do3 k]; exact hH _
  · rw [do4 k]; exact hO (by rw [k] at oM; exact oM) _
  · by_cases c : s.owner o.t.toNat = t + 1
    · rw [do5y k c]; exact hO (by rw [k] at oM; exact oM) _
    · rw [do5n k c]; exact h
  · by_cases c : o.t < p.length ∧ s.begun o.t.toNat = false
    · rw [do6y k c]
      have h6 : o.t < 6 := by rw [k] at oM; exact oM
      exact ⟨h.mem, h.vols, h.has, h.at_, fun i hi => by show upT s.begun _ i = false; unfold upT; rw [if_neg (by omega)]; exact h.begun i hi, h.owner⟩
    · rw [do6n k c]; exact h
  · rw [do7 k]; exact h
  · rw [do8 k]; exact hH _
  · rw [do9 k]
    have h4 : o.t < 4 := by rw [k] at oM; exact oM
    exact ⟨h.mem, fun i hi => by show upZ s.vols _ _ i = 0; unfold upZ; rw [if_neg (by omega)]; exact h.vols i hi, h.has, h.at_, h.begun, h.owner⟩
theorem ZrP.step {p : List (List Ev)} {s : PS} {t : Int} (hp : OkP p) (hI : IP p s) (h : ZrP s) (hc : canB p s t = true) : ZrP (stepP p s t.toNat).1 := by
  have hn := canB_next hc
  have h6 := hp.six
  have ht : t.toNat < 6 := by have := nextB_iff.1 hn; omega
  exact (h.tick ht).doOp ht (nextB_op hp hI hn)
/-- A state whose cells are known is known. -/
theorem psC_inj {s s' : PS} (h : ZrP s) (h' : ZrP s') (e : psC s = psC s') : s = s' := by
  have hc : ∀ i, i < 37 → psF s false false i = psF s' false false i := fun i hi => by
    have h1 := psC_get s hi
    rw [e, psC_get s' hi] at h1
    exact (Option.some.inj h1).symm
  have e1 : s.mem = s'.mem := funext fun i => by
    by_cases c : i < 8
    · have := hc i (by omega)
      simp [psF, c] at this; exact this
    · rw [h.mem i (by omega), h'.mem i (by omega)]
  have e2 : s.vols = s'.vols := funext fun i => by
    by_cases c : i < 4
    · have := hc (8 + i) (by omega)
      unfold psF at this
      rw [if_neg (by omega), if_pos (by omega), if_neg (by omega), if_pos (by omega), Nat.add_sub_cancel_left] at this
      simpa using this
    · rw [h.vols i (by omega), h'.vols i (by omega)]
  have e3 : s.has = s'.has := funext fun i => by
    by_cases c : i < 6
    · have := hc (12 + i) (by omega)
      unfold psF at this
      rw [if_neg (by omega), if_neg (by omega), if_pos (by omega), if_neg (by omega), if_neg (by omega), if_pos (by omega), Nat.add_sub_cancel_left] at this
      simpa using this
    · rw [h.has i (by omega), h'.has i (by omega)]
  have e4 : s.at_ = s'.at_ := funext fun i => by
    by_cases c : i < 6
    · have := hc (20 + i) (by omega)
      unfold psF at this
      rw [if_neg (by omega), if_neg (by omega), if_neg (by omega), if_neg (by omega), if_neg (by omega), if_pos (by omega), if_neg (by omega), if_neg (by omega), if_neg (by omega), if_neg (by omega), if_neg (by omega), if_pos (by omega), Nat.add_sub_cancel_left] at this
      simp at this
      omega
    · rw [h.at_ i (by omega), h'.at_ i (by omega)]
  have e5 : s.begun = s'.begun := funext fun i => by
    by_cases c : i < 6
    · have := hc (26 + i) (by omega)
      unfold psF at this
      rw [if_neg (by omega), if_neg (by omega), if_neg (by omega), if_neg (by omega), if_neg (by omega), if_neg (by omega), if_pos (by omega), if_neg (by omega), if_neg (by omega), if_neg (by omega), if_neg (by omega), if_neg (by omega), if_neg (by omega), if_pos (by omega), Nat.add_sub_cancel_left] at this
      simpa using this
    · rw [h.begun i (by omega), h'.begun i (by omega)]
  have e6 : s.owner = s'.owner := funext fun i => by
    by_cases c : i < 5
    · have := hc (32 + i) (by omega)
      unfold psF at this
      rw [if_neg (by omega), if_neg (by omega), if_neg (by omega), if_neg (by omega), if_neg (by omega), if_neg (by omega), if_neg (by omega), if_neg (by omega), if_neg (by omega), if_neg (by omega), if_neg (by omega), if_neg (by omega), if_neg (by omega), if_neg (by omega), Nat.add_sub_cancel_left] at this
      simpa using this
    · rw [h.owner i (by omega), h'.owner i (by omega)]
  cases s; cases s'
  simp only [PS.mk.injEq]
  exact ⟨e1, e2, e3, e4, e5, e6⟩

/-! A state that some picks, none of them in vain, come to. -/
def totL (p : List (List Ev)) : Nat := plen p 0 + plen p 1 + plen p 2 + plen p 3 + plen p 4 + plen p 5
structure AtP (p : List (List Ev)) (s : PS) (picks : List Int) : Prop where
  run : (runP p picks).1 = s
  ip : IP p s
  zr : ZrP s
  len : picks.length = sumA s
  small : VB s (1000 * picks.length)
theorem AtP.first {p : List (List Ev)} (hp : OkP p) : AtP p PS.first [] := ⟨rfl, IP.first hp.pos, ZrP.first, rfl, VB.first⟩
theorem AtP.step {p : List (List Ev)} {s : PS} {picks : List Int} {t : Nat} (hp : OkP p) (h : AtP p s picks) (hc : canB p s t = true) : AtP p (stepP p s t).1 (picks ++ [(t : Int)]) := by
  have ht : t < 6 := by have := nextB_iff.1 (canB_next hc); have := hp.six; omega
  have hr : (runP p (picks ++ [(t : Int)])).1 = (stepP p s t).1 := by
    rw [runP_snoc, pickP_yes (by rw [h.run]; exact hc), h.run]; rfl
  refine ⟨hr, h.ip.step (t := t) hp (canB_next hc), h.zr.step (t := t) hp h.ip hc, ?_, ?_⟩
  · rw [List.length_append, sumA_step p s ht, h.len]; rfl
  · rw [← hr]; exact runP_VB hp _
theorem sumA_tot {p : List (List Ev)} {s : PS} (hI : IP p s) : sumA s ≤ totL p := by
  unfold sumA totL
  have := hI.at_le 0; have := hI.at_le 1; have := hI.at_le 2; have := hI.at_le 3; have := hI.at_le 4; have := hI.at_le 5
  omega
/-- Any picks come to a state that picks without a vain one come to. -/
theorem AtP.of_run {p : List (List Ev)} (hp : OkP p) (picks : List Int) : ∃ q, AtP p (runP p picks).1 q := by
  refine snoc_rec (C := fun picks => ∃ q, AtP p (runP p picks).1 q) ⟨[], AtP.first hp⟩ ?_ picks
  rintro picks t ⟨q, h⟩
  rw [runP_snoc]
  cases hc : canB p (runP p picks).1 t
  · rw [pickP_no hc]; exact ⟨q, h⟩
  · rw [pickP_yes hc]
    have h0 := (nextB_iff.1 (canB_next hc)).1
    obtain ⟨n, rfl⟩ : ∃ n : Nat, t = n := ⟨t.toNat, by omega⟩
    exact ⟨_, h.step hp hc⟩

/-! The walk: a visitor with a state of its own says at each new state whether to go on. -/
section
open Classical
variable {V : Type} (p : List (List Ev)) (go : V → PS → List Int → V × Bool)
noncomputable def dfs : Nat → List PS × V → PS → List Int → (List PS × V) × Bool
  | 0, z, _, _ => (z, true)
  | n + 1, z, s, picks =>
    if s ∈ z.1 then (z, true)
    else if (go z.2 s picks).2 = false then ((z.1 ++ [s], (go z.2 s picks).1), false)
    else (List.range p.length).foldl (fun r (t : Nat) => if r.2 = true ∧ canB p s t = true then dfs n r.1 (stepP p s t).1 (picks ++ [(t : Int)]) else r) ((z.1 ++ [s], (go z.2 s picks).1), true)
/-- One round of the loop over the threads. -/
noncomputable def dfsT (n : Nat) (s : PS) (picks : List Int) (r : (List PS × V) × Bool) (t : Nat) : (List PS × V) × Bool :=
  if r.2 = true ∧ canB p s t = true then dfs p go n r.1 (stepP p s t).1 (picks ++ [(t : Int)]) else r
noncomputable def dfsK (n : Nat) (z : List PS × V) (s : PS) (picks : List Int) (k : Nat) : (List PS × V) × Bool :=
  (List.range k).foldl (dfsT p go n s picks) ((z.1 ++ [s], (go z.2 s picks).1), true)
variable {p go}
theorem dfs_seen {n : Nat} {z : List PS × V} {s : PS} {picks : List Int} (h : s ∈ z.1) : dfs p go (n + 1) z s picks = (z, true) := by rw [dfs, if_pos h]
theorem dfs_stop {n : Nat} {z : List PS × V} {s : PS} {picks : List Int} (h : s ∉ z.1) (hg : (go z.2 s picks).2 = false) : dfs p go (n + 1) z s picks = ((z.1 ++ [s], (go z.2 s picks).1), false) := by rw [dfs, if_neg h, if_pos hg]
theorem dfs_loop {n : Nat} {z : List PS × V} {s : PS} {picks : List Int} (h : s ∉ z.1) (hg : (go z.2 s picks).2 = true) : dfs p go (n + 1) z s picks = dfsK p go n z s picks p.length := by
  rw [dfs, if_neg h, if_neg (by rw [hg]; decide)]; rfl
theorem dfsK_zero (n : Nat) (z : List PS × V) (s : PS) (picks : List Int) : dfsK p go n z s picks 0 = ((z.1 ++ [s], (go z.2 s picks).1), true) := rfl
theorem dfsK_succ (n : Nat) (z : List PS × V) (s : PS) (picks : List Int) (k : Nat) : dfsK p go n z s picks (k + 1) = dfsT p go n s picks (dfsK p go n z s picks k) k := by
  simp [dfsK, List.range_succ]
theorem dfsT_no {n : Nat} {s : PS} {picks : List Int} {r : (List PS × V) × Bool} {t : Nat} (h : canB p s t = false) : dfsT p go n s picks r t = r := by
  unfold dfsT; rw [if_neg (by simp [h])]
theorem dfsT_off {n : Nat} {s : PS} {picks : List Int} {r : (List PS × V) × Bool} {t : Nat} (h : r.2 = false) : dfsT p go n s picks r t = r := by
  unfold dfsT; rw [if_neg (by simp [h])]
theorem dfsT_yes {n : Nat} {s : PS} {picks : List Int} {r : (List PS × V) × Bool} {t : Nat} (h : r.2 = true) (hc : canB p s t = true) : dfsT p go n s picks r t = dfs p go n r.1 (stepP p s t).1 (picks ++ [(t : Int)]) := by
  unfold dfsT; rw [if_pos ⟨h, hc⟩]
/-- Where it stopped it stays. -/
theorem dfsK_off {n : Nat} {z : List PS × V} {s : PS} {picks : List Int} {k : Nat} (h : (dfsK p go n z s picks k).2 = false) : ∀ m, k ≤ m → dfsK p go n z s picks m = dfsK p go n z s picks k := by
  intro m hm
  induction m with
  | zero => obtain rfl : k = 0 := by omega
            rfl
  | succ m ih =>
    by_cases c : k ≤ m
    · rw [dfsK_succ, dfsT_off (by rw [ih c]; exact h), ih c]
    · obtain rfl : k = m + 1 := by omega
      rfl

theorem dfsK_len (h6 : p.length ≤ 6) {n : Nat} (ih : ∀ (z : List PS × V) (s : PS) (picks : List Int), (dfs p go n z s picks).1.1.length + 1 ≤ z.1.length + 7 ^ n) (z : List PS × V) (s : PS) (picks : List Int) : ∀ k, (dfsK p go n z s picks k).1.1.length + k ≤ z.1.length + 1 + k * 7 ^ n
  | 0 => by simp [dfsK_zero]
  | k + 1 => by
    have h := dfsK_len h6 ih z s picks k
    have h7 : 0 < 7 ^ n := Nat.pow_pos (by decide)
    rw [dfsK_succ, Nat.succ_mul]
    cases hr : (dfsK p go n z s picks k).2
    · rw [dfsT_off hr]; omega
    · cases hc : canB p s k
      · rw [dfsT_no hc]; omega
      · rw [dfsT_yes hr hc]
        have := ih (dfsK p go n z s picks k).1 (stepP p s k).1 (picks ++ [(k : Int)])
        omega
theorem dfs_len (h6 : p.length ≤ 6) : ∀ (n : Nat) (z : List PS × V) (s : PS) (picks : List Int), (dfs p go n z s picks).1.1.length + 1 ≤ z.1.length + 7 ^ n
  | 0, z, s, picks => by simp [dfs]
  | n + 1, z, s, picks => by
    have h7 : 0 < 7 ^ n := Nat.pow_pos (by decide)
    rw [Nat.pow_succ]
    by_cases c : s ∈ z.1
    · rw [dfs_seen c]; show z.1.length + 1 ≤ _; omega
    · cases hg : (go z.2 s picks).2
      · rw [dfs_stop c hg]; simp; omega
      · rw [dfs_loop c hg]
        have := dfsK_len h6 (dfs_len h6 n) z s picks p.length
        have h6' : p.length * 7 ^ n ≤ 6 * 7 ^ n := Nat.mul_le_mul_right _ h6
        by_cases h0 : p.length = 0
        · rw [h0] at this ⊢; omega
        · omega
/-- What each visit keeps the walk keeps. -/
theorem dfs_ind (hp : OkP p) {R : (List PS × V) × Bool → Prop} (h : ∀ z s picks, R (z, true) → AtP p s picks → s ∉ z.1 → R ((z.1 ++ [s], (go z.2 s picks).1), (go z.2 s picks).2)) :
    ∀ (n : Nat) (z : List PS × V) (s : PS) (picks : List Int), R (z, true) → AtP p s picks → R (dfs p go n z s picks) := by
  intro n
  induction n with
  | zero => intro z s picks hz _; exact hz
  | succ n ih =>
    intro z s picks hz hs
    by_cases c : s ∈ z.1
    · rw [dfs_seen c]; exact hz
    · have hv := h z s picks hz hs c
      cases hg : (go z.2 s picks).2
      · rw [dfs_stop c hg]; rw [hg] at hv; exact hv
      · rw [dfs_loop c hg]
        rw [hg] at hv
        have : ∀ k, R (dfsK p go n z s picks k) := by
          intro k
          induction k with
          | zero => exact hv
          | succ k ik =>
            rw [dfsK_succ]
            cases hr : (dfsK p go n z s picks k).2
            · rw [dfsT_off hr]; exact ik
            · cases hc : canB p s k
              · rw [dfsT_no hc]; exact ik
              · rw [dfsT_yes hr hc]
                refine ih _ _ _ ?_ (hs.step hp hc)
                rw [← hr]; exact ik
        exact this _
/-- Where it came to its end all is seen that can be come to. -/
structure ClosedP (p : List (List Ev)) (A B : List PS) (s : PS) : Prop where
  sub : ∀ x ∈ A, x ∈ B
  self : s ∈ B
  next : ∀ x ∈ B, x ∉ A → ∀ t : Nat, canB p x t = true → (stepP p x t).1 ∈ B
theorem dfs_closed (hp : OkP p) : ∀ (n : Nat) (z : List PS × V) (s : PS) (picks : List Int), AtP p s picks → totL p < sumA s + n → (dfs p go n z s picks).2 = true → ClosedP p z.1 (dfs p go n z s picks).1.1 s := by
  intro n
  induction n with
  | zero => intro z s picks hs hn; have := sumA_tot hs.ip; omega
  | succ n ih =>
    intro z s picks hs hn hok
    by_cases c : s ∈ z.1
    · rw [dfs_seen c]; exact ⟨fun _ h => h, c, fun x hx hx' => absurd hx hx'⟩
    · cases hg : (go z.2 s picks).2
      · rw [dfs_stop c hg] at hok; cases hok
      · rw [dfs_loop c hg] at hok ⊢
        have hK : ∀ k, k ≤ p.length → (dfsK p go n z s picks k).2 = true →
            (∀ x ∈ z.1, x ∈ (dfsK p go n z s picks k).1.1) ∧ s ∈ (dfsK p go n z s picks k).1.1 ∧
            (∀ t, t < k → canB p s t = true → (stepP p s t).1 ∈ (dfsK p go n z s picks k).1.1) ∧
            (∀ x ∈ (dfsK p go n z s picks k).1.1, x ∉ z.1 → x ≠ s → ∀ t : Nat, canB p x t = true → (stepP p x t).1 ∈ (dfsK p go n z s picks k).1.1) := by
          intro k hk
          induction k with
          | zero =>
            intro _
            rw [dfsK_zero]
            refine ⟨fun x hx => by simp [hx], by simp, fun t ht => absurd ht (Nat.not_lt_zero _), fun x hx h1 h2 => ?_⟩
            simp at hx
            rcases hx with h | h
            · exact absurd h h1
            · exact absurd h h2
          | succ k ik =>
            intro hok
            have hr : (dfsK p go n z s picks k).2 = true := by
              cases hr : (dfsK p go n z s picks k).2
              · rw [dfsK_off hr (k + 1) (by omega), hr] at hok; cases hok
              · rfl
            obtain ⟨i1, i2, i3, i4⟩ := ik (by omega) hr
            rw [dfsK_succ] at hok ⊢
            cases hc : canB p s k
            · rw [dfsT_no hc]
              refine ⟨i1, i2, fun t ht htc => ?_, i4⟩
              by_cases e : t = k
              · subst e; rw [hc] at htc; cases htc
              · exact i3 t (by omega) htc
            · rw [dfsT_yes hr hc] at hok ⊢
              have ht6 : k < 6 := by have := hp.six; omega
              have hcl := ih _ _ _ (hs.step hp hc) (by rw [sumA_step p s ht6]; omega) hok
              refine ⟨fun x hx => hcl.sub x (i1 x hx), hcl.sub _ i2, fun t ht htc => ?_, fun x hx h1 h2 t htc => ?_⟩
              · by_cases e : t = k
                · subst e; exact hcl.self
                · exact hcl.sub _ (i3 t (by omega) htc)
              · by_cases e : x ∈ (dfsK p go n z s picks k).1.1
                · exact hcl.sub _ (i4 x e h1 h2 t htc)
                · exact hcl.next x hx e t htc
        obtain ⟨i1, i2, i3, i4⟩ := hK p.length (Nat.le_refl _) hok
        refine ⟨i1, i2, fun x hx hx' t htc => ?_⟩
        by_cases e : x = s
        · subst e
          have := nextB_iff.1 (canB_next htc)
          exact i3 t (by omega) htc
        · exact i4 x hx hx' e t htc
/-- The whole walk. -/
noncomputable def walkP (p : List (List Ev)) (go : V → PS → List Int → V × Bool) (v : V) : (List PS × V) × Bool := dfs p go 11 ([], v) PS.first []
theorem walk_all (hp : OkP p) (ht : totL p ≤ 10) {v : V} (h : (walkP p go v).2 = true) (picks : List Int) : (runP p picks).1 ∈ (walkP p go v).1.1 := by
  have hc := dfs_closed (go := go) hp 11 ([], v) PS.first [] (AtP.first hp) (by omega) h
  refine snoc_rec (C := fun picks => (runP p picks).1 ∈ (walkP p go v).1.1) hc.self ?_ picks
  intro picks t ih
  rw [runP_snoc]
  cases hcn : canB p (runP p picks).1 t
  · rw [pickP_no hcn]; exact ih
  · rw [pickP_yes hcn]
    have h0 := (nextB_iff.1 (canB_next hcn)).1
    obtain ⟨n, rfl⟩ : ∃ n : Nat, t = n := ⟨t.toNat, by omega⟩
    exact hc.next _ ih (by simp) n hcn
end
end Go.Proofs.Ytoohconipcleiaa

/- The levels of a search for a race, plain: each level holds all states that so many picks come to. No program. -/
namespace Go.Proofs.Ytoohconipcleiaa

/-- A node: a state, the picks that lead to it, the events that they tell. -/
abbrev Nd := PS × List Int × List Ev
def rootN : Nd := (PS.first, [], [])
def kidN (p : List (List Ev)) (nd : Nd) (t : Nat) : Nd := ((stepP p nd.1 t).1, nd.2.1 ++ [(t : Int)], nd.2.2 ++ (stepP p nd.1 t).2.toList)
def kidsN (p : List (List Ev)) (nd : Nd) (k : Nat) : List Nd := ((List.range k).filter fun t => canB p nd.1 (t : Nat)).map (kidN p nd)
def kidsL (p : List (List Ev)) (row : List Nd) (k : Nat) : List Nd := (row.take k).flatMap fun nd => kidsN p nd p.length
def rowN (p : List (List Ev)) : Nat → List Nd
  | 0 => [rootN]
  | n + 1 => kidsL p (rowN p n) (rowN p n).length
theorem kidsN_zero (p : List (List Ev)) (nd : Nd) : kidsN p nd 0 = [] := rfl
theorem kidsN_yes {p : List (List Ev)} {nd : Nd} {k : Nat} (h : canB p nd.1 (k : Nat) = true) : kidsN p nd (k + 1) = kidsN p nd k ++ [kidN p nd k] := by
  simp [kidsN, List.range_succ, List.filter_append, h]
theorem kidsN_no {p : List (List Ev)} {nd : Nd} {k : Nat} (h : canB p nd.1 (k : Nat) = false) : kidsN p nd (k + 1) = kidsN p nd k := by
  simp [kidsN, List.range_succ, List.filter_append, h]
theorem kidsL_zero (p : List (List Ev)) (row : List Nd) : kidsL p row 0 = [] := rfl
theorem kidsL_succ (p : List (List Ev)) (row : List Nd) {k : Nat} (h : k < row.length) : kidsL p row (k + 1) = kidsL p row k ++ kidsN p row[k] p.length := by
  unfold kidsL
  rw [List.take_add_one, List.flatMap_append, List.getElem?_eq_getElem h, Option.toList_some, List.flatMap_cons, List.flatMap_nil, List.append_nil]
theorem kidsN_len (p : List (List Ev)) (nd : Nd) (k : Nat) : (kidsN p nd k).length ≤ k := by
  unfold kidsN
  rw [List.length_map]
  exact Nat.le_trans (List.length_filter_le _ _) (by simp)
theorem kidsL_len {p : List (List Ev)} (h6 : p.length ≤ 6) (row : List Nd) : ∀ k, k ≤ row.length → (kidsL p row k).length ≤ 6 * k := by
  intro k
  induction k with
  | zero => intro _; simp [kidsL_zero]
  | succ k ih =>
    intro hk
    rw [kidsL_succ p row (by omega), List.length_append]
    have := ih (by omega)
    have := kidsN_len p row[k] p.length
    omega
theorem rowN_len {p : List (List Ev)} (h6 : p.length ≤ 6) : ∀ n, (rowN p n).length ≤ 6 ^ n
  | 0 => by simp [rowN]
  | n + 1 => by
    have h1 := rowN_len h6 n
    have h2 := kidsL_len h6 (rowN p n) (rowN p n).length (Nat.le_refl _)
    show (kidsL p (rowN p n) (rowN p n).length).length ≤ 6 ^ (n + 1)
    rw [Nat.pow_succ]
    omega
structure NdP (p : List (List Ev)) (n : Nat) (nd : Nd) : Prop where
  at_ : AtP p nd.1 nd.2.1
  run : runP p nd.2.1 = (nd.1, nd.2.2)
  len : nd.2.1.length = n
  evs : nd.2.2.length ≤ n
theorem NdP.root {p : List (List Ev)} (hp : OkP p) : NdP p 0 rootN := ⟨AtP.first hp, rfl, rfl, Nat.le_refl _⟩
theorem NdP.kid {p : List (List Ev)} {n : Nat} {nd : Nd} {t : Nat} (hp : OkP p) (h : NdP p n nd) (hc : canB p nd.1 (t : Nat) = true) : NdP p (n + 1) (kidN p nd t) := by
  have hr : runP p (nd.2.1 ++ [(t : Int)]) = ((stepP p nd.1 t).1, nd.2.2 ++ (stepP p nd.1 t).2.toList) := by
    rw [runP_snoc, h.run, pickP_yes hc]; rfl
  refine ⟨h.at_.step hp hc, hr, ?_, ?_⟩
  · show (nd.2.1 ++ [(t : Int)]).length = n + 1
    rw [List.length_append, h.len]; rfl
  · show (nd.2.2 ++ (stepP p nd.1 t).2.toList).length ≤ n + 1
    rw [List.length_append]
    have := h.evs
    cases (stepP p nd.1 t).2 <;> simp <;> omega
theorem mem_kidsN {p : List (List Ev)} {nd m : Nd} {k : Nat} : m ∈ kidsN p nd k ↔ ∃ t, t < k ∧ canB p nd.1 (t : Nat) = true ∧ m = kidN p nd t := by
  simp only [kidsN, List.mem_map, List.mem_filter, List.mem_range]
  constructor
  · rintro ⟨t, ⟨h1, h2⟩, rfl⟩; exact ⟨t, h1, h2, rfl⟩
  · rintro ⟨t, h1, h2, rfl⟩; exact ⟨t, ⟨h1, h2⟩, rfl⟩
theorem mem_kidsL {p : List (List Ev)} {row : List Nd} {m : Nd} : m ∈ kidsL p row row.length ↔ ∃ nd ∈ row, ∃ t, t < p.length ∧ canB p nd.1 (t : Nat) = true ∧ m = kidN p nd t := by
  simp only [kidsL, List.take_length, List.mem_flatMap, mem_kidsN]
theorem rowN_ok {p : List (List Ev)} (hp : OkP p) : ∀ (n : Nat), ∀ nd ∈ rowN p n, NdP p n nd
  | 0, nd, h => by
    simp [rowN] at h
    rw [h]; exact NdP.root hp
  | n + 1, nd, h => by
    obtain ⟨m, hm, t, ht, hc, rfl⟩ := mem_kidsL.1 h
    exact (rowN_ok hp n m hm).kid hp hc
theorem rowN_last {p : List (List Ev)} (hp : OkP p) {n : Nat} (h : totL p < n) : rowN p n = [] := by
  cases e : rowN p n with
  | nil => rfl
  | cons nd l =>
    have hn := rowN_ok hp n nd (by rw [e]; simp)
    have h1 := sumA_tot hn.at_.ip
    rw [← hn.at_.len, hn.len] at h1
    omega
theorem rowN_down {p : List (List Ev)} {N : Nat} (h : rowN p N = []) : ∀ n, N ≤ n → rowN p n = [] := by
  intro n hn
  induction n with
  | zero => rw [← (show N = 0 by omega)]; exact h
  | succ n ih =>
    rcases Nat.lt_or_ge n N with c | c
    · rw [← (show N = n + 1 by omega)]; exact h
    · show kidsL p (rowN p n) (rowN p n).length = []
      rw [ih c]; rfl
/-- Whatever the picks: what they come to is on some level. -/
theorem rowN_all (p : List (List Ev)) (picks : List Int) : ∃ n, ∃ nd ∈ rowN p n, nd.1 = (runP p picks).1 ∧ nd.2.2 = (runP p picks).2 := by
  refine snoc_rec (C := fun picks => ∃ n, ∃ nd ∈ rowN p n, nd.1 = (runP p picks).1 ∧ nd.2.2 = (runP p picks).2) ⟨0, rootN, by simp [rowN], rfl, rfl⟩ ?_ picks
  rintro picks t ⟨n, nd, hn, h1, h2⟩
  rw [runP_snoc]
  cases hc : canB p (runP p picks).1 t
  · rw [pickP_no hc]; exact ⟨n, nd, hn, h1, h2⟩
  · rw [pickP_yes hc]
    obtain ⟨t0, t1, _⟩ := nextB_iff.1 (canB_next hc)
    obtain ⟨k, rfl⟩ : ∃ k : Nat, t = k := ⟨t.toNat, by omega⟩
    refine ⟨n + 1, kidN p nd k, mem_kidsL.2 ⟨nd, hn, k, by omega, by rw [h1]; exact hc, rfl⟩, ?_, ?_⟩
    · show (stepP p nd.1 k).1 = _
      rw [h1]; rfl
    · show nd.2.2 ++ (stepP p nd.1 k).2.toList = _
      rw [h1, h2]; rfl
def CleanN (l : List Nd) : Prop := ∀ nd ∈ l, raceL nd.2.2 = []
theorem CleanN.nil : CleanN [] := fun _ h => by cases h
theorem CleanN.snoc {l : List Nd} {nd : Nd} (h : CleanN l) (hn : raceL nd.2.2 = []) : CleanN (l ++ [nd]) := fun x hx => by
  rcases List.mem_append.1 hx with h1 | h1
  · exact h x h1
  · rw [List.mem_singleton.1 h1]; exact hn
def CleanTo (p : List (List Ev)) (n : Nat) : Prop := ∀ m, m ≤ n → CleanN (rowN p m)
theorem raceL_empty : raceL [] = [] := raceL_one (fun e h => by cases h)
theorem CleanTo.zero (p : List (List Ev)) : CleanTo p 0 := fun m hm => by
  obtain rfl : m = 0 := by omega
  intro nd hn
  simp [rowN] at hn
  rw [hn]; exact raceL_empty
theorem CleanTo.next {p : List (List Ev)} {n : Nat} (h : CleanTo p n) (k : CleanN (rowN p (n + 1))) : CleanTo p (n + 1) := fun m hm => by
  rcases Nat.lt_or_ge m (n + 1) with c | c
  · exact h m (by omega)
  · rw [show m = n + 1 by omega]; exact k
theorem races_none {p : List (List Ev)} {N : Nat} (h : CleanTo p N) (h0 : rowN p N = []) (picks : List Int) : raceL (runP p picks).2 = [] := by
  obtain ⟨n, nd, hn, _, h2⟩ := rowN_all p picks
  rw [← h2]
  rcases Nat.lt_or_ge N n with c | c
  · rw [rowN_down h0 n (by omega)] at hn; cases hn
  · exact h n c nd hn
/-- What the search answers. -/
structure WayR (p : List (List Ev)) (way : List Int) : Prop where
  ne : way ≠ []
  len : way.length ≤ 10
  race : raceL (runP p way).2 ≠ []
  first : raceL (runP p way.dropLast).2 = []
theorem WayR.of {p : List (List Ev)} {n : Nat} {nd : Nd} {t : Nat} (hp : OkP p) (ht : totL p ≤ 10) (h : NdP p n nd) (h0 : raceL nd.2.2 = []) (hc : canB p nd.1 (t : Nat) = true) (hr : raceL (kidN p nd t).2.2 ≠ []) : WayR p (nd.2.1 ++ [(t : Int)]) := by
  have hk := h.kid hp hc
  refine ⟨by simp, ?_, ?_, ?_⟩
  · have h1 := sumA_tot hk.at_.ip
    rw [← hk.at_.len] at h1
    exact Nat.le_trans h1 ht
  · have := hk.run
    rw [show (kidN p nd t).2.1 = nd.2.1 ++ [(t : Int)] from rfl] at this
    rw [this]; exact hr
  · rw [List.dropLast_concat, h.run]; exact h0
end Go.Proofs.Ytoohconipcleiaa

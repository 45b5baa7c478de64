/- Threads that add to one variable without a lock, plain: two of them end in their sum or in one of both numbers. No program. -/
import Derived.Test.YtoohconipcleiaaNG
namespace Go.Proofs.Ytoohconipcleiaa

/-- The ops of one that adds n; the forks. -/
def addU (n : Int) : List Ev := [⟨1, 0, 0⟩, ⟨3, 0, n⟩, ⟨2, 0, 0⟩]
def frkT (m : Nat) : List Ev := (List.range m).map fun i => ⟨6, ((i + 1 : Nat) : Int), 0⟩
def adU (ns : List Int) : List (List Ev) := frkT ns.length :: ns.map addU
theorem adU_len (ns : List Int) : (adU ns).length = ns.length + 1 := by simp [adU]
def Small100 (ns : List Int) : Prop := ∀ t, t < ns.length → 1 ≤ ns.getD t 0 ∧ ns.getD t 0 ≤ 100
def sumF (f : Nat → Int) : Nat → Int
  | 0 => 0
  | m + 1 => sumF f m + f m
def twoP (x y : Int) : List (List Ev) := [[⟨6, 1, 0⟩, ⟨6, 2, 0⟩], [⟨1, 0, 0⟩, ⟨3, 0, x⟩, ⟨2, 0, 0⟩], [⟨1, 0, 0⟩, ⟨3, 0, y⟩, ⟨2, 0, 0⟩]]
theorem adU_two (x y : Int) : adU [x, y] = twoP x y := rfl
section
variable {x y : Int}
theorem two_ok (hx : 1 ≤ x ∧ x ≤ 100) (hy : 1 ≤ y ∧ y ≤ 100) : OkP (twoP x y) := by
  refine ⟨(by show 1 ≤ 3; decide), (by show 3 ≤ 6; decide), fun z hz => ?_, fun z hz e he => ?_⟩
  · simp only [twoP, List.mem_cons, List.not_mem_nil, or_false] at hz
    rcases hz with rfl | rfl | rfl <;> (simp)
  · simp only [twoP, List.mem_cons, List.not_mem_nil, or_false] at hz
    rcases hz with rfl | rfl | rfl
    · simp only [List.mem_cons, List.not_mem_nil, or_false] at he
      rcases he with rfl | rfl <;> decide
    · simp only [List.mem_cons, List.not_mem_nil, or_false] at he
      rcases he with rfl | rfl | rfl
      · decide
      · exact bad_iff.2 ⟨Int.le_refl _, (show (0 : Int) < boundK 3 by decide), (show -(1000 : Int) ≤ x by omega), (show x ≤ (1000 : Int) by omega)⟩
      · decide
    · simp only [List.mem_cons, List.not_mem_nil, or_false] at he
      rcases he with rfl | rfl | rfl
      · decide
      · exact bad_iff.2 ⟨Int.le_refl _, (show (0 : Int) < boundK 3 by decide), (show -(1000 : Int) ≤ y by omega), (show y ≤ (1000 : Int) by omega)⟩
      · decide
/-- What the two know of each other: i and j the places, m the variable, h and g what they hold. -/
structure LI (x y : Int) (i j : Nat) (m h g : Int) : Prop where
  a : i < 3 → j < 3 → m = 0
  b : i = 3 → j < 3 → m = x
  c : i < 3 → j = 3 → m = y
  d : i = 3 → j = 3 → m = x ∨ m = y ∨ m = x + y
  qe : i = 1 → h = 0 ∨ (j = 3 ∧ h = y)
  qf : i = 2 → h = x ∨ (j = 3 ∧ h = x + y)
  qg : j = 1 → g = 0 ∨ (i = 3 ∧ g = x)
  qh : j = 2 → g = y ∨ (i = 3 ∧ g = x + y)
  qi : i ≤ 3
  qj : j ≤ 3
theorem LI.swap {i j : Nat} {m h g : Int} (H : LI x y i j m h g) : LI y x j i m g h :=
  ⟨fun a b => H.a b a, fun a b => H.c b a, fun a b => H.b b a, fun a b => by rcases H.d b a with h | h | h <;> omega, H.qg, fun a => (H.qh a).imp id fun ⟨h1, h2⟩ => ⟨h1, by omega⟩, H.qe, fun a => (H.qf a).imp id fun ⟨h1, h2⟩ => ⟨h1, by omega⟩, H.qj, H.qi⟩
theorem LI.load1 {j : Nat} {m h g : Int} (H : LI x y 0 j m h g) : LI x y 1 j m m g := by
  refine ⟨fun _ hj => H.a (by omega) hj, fun h => by omega, fun _ hj => H.c (by omega) hj, fun h => by omega, fun _ => ?_, fun h => by omega, fun h => ?_, fun h => ?_, by omega, H.qj⟩
  · have := H.qj
    rcases (by omega : j < 3 ∨ j = 3) with c | c
    · exact .inl (H.a (by omega) c)
    · exact .inr ⟨c, H.c (by omega) c⟩
  · exact (H.qg h).imp id fun ⟨h1, _⟩ => by omega
  · exact (H.qh h).imp id fun ⟨h1, _⟩ => by omega
theorem LI.add1 {j : Nat} {m h g : Int} (H : LI x y 1 j m h g) : LI x y 2 j m (h + x) g := by
  refine ⟨fun _ hj => H.a (by omega) hj, fun h => by omega, fun _ hj => H.c (by omega) hj, fun h => by omega, fun h => by omega, fun _ => ?_, fun h => ?_, fun h => ?_, by omega, H.qj⟩
  · exact (H.qe rfl).imp (fun h => by omega) fun ⟨h1, h2⟩ => ⟨h1, by omega⟩
  · exact (H.qg h).imp id fun ⟨h1, _⟩ => by omega
  · exact (H.qh h).imp id fun ⟨h1, _⟩ => by omega
theorem LI.store1 {j : Nat} {m h g : Int} (H : LI x y 2 j m h g) : LI x y 3 j h h g := by
  refine ⟨fun h => by omega, fun _ hj => ?_, fun h => by omega, fun _ hj => ?_, fun h => by omega, fun h => by omega, fun h => ?_, fun h => ?_, by omega, H.qj⟩
  · rcases H.qf rfl with h1 | ⟨h1, _⟩
    · exact h1
    · omega
  · rcases H.qf rfl with h1 | ⟨_, h1⟩
    · exact .inl h1
    · exact .inr (.inr h1)
  · exact (H.qg h).imp id fun ⟨h1, _⟩ => by omega
  · exact (H.qh h).imp id fun ⟨h1, _⟩ => by omega
structure LosI (x y : Int) (s : PS) : Prop where
  li : LI x y (s.at_ 1) (s.at_ 2) (s.mem 0) (s.has 1) (s.has 2)
  k1 : 1 ≤ s.at_ 0 → s.begun 1 = true
  k2 : 2 ≤ s.at_ 0 → s.begun 2 = true
  k0 : s.begun 0 = true
theorem LosI.first : LosI x y PS.first :=
  ⟨⟨fun _ _ => rfl, fun h => absurd h (by decide), fun _ h => absurd h (by decide), fun h => absurd h (by decide), fun h => absurd h (by decide), fun h => absurd h (by decide), fun h => absurd h (by decide), fun h => absurd h (by decide), Nat.zero_le _, Nat.zero_le _⟩, fun h => absurd h (by decide), fun h => absurd h (by decide), rfl⟩
theorem LosI.step {s : PS} {t : Nat} (hI : IP (twoP x y) s) (h : LosI x y s) (hc : canB (twoP x y) s t = true) : LosI x y (stepP (twoP x y) s t).1 := by
  have hn := canB_next hc
  have hat := nextB_at hI hn
  obtain ⟨t0, t1, _⟩ := nextB_iff.1 hn
  rw [Int.toNat_natCast] at hat
  have ht : t < 3 := by have : (twoP x y).length = 3 := rfl; omega
  obtain ⟨hli, hk1, hk2, hk0⟩ := h
  rcases (by omega : t = 0 ∨ t = 1 ∨ t = 2) with rfl | rfl | rfl
  · have h0 : s.at_ 0 < 2 := hat
    have key : ∀ s' : PS, s'.mem = s.mem → s'.has = s.has → s'.at_ = upN s.at_ 0 (s.at_ 0 + 1) → (∀ i, s.begun i = true → s'.begun i = true) → s'.begun (s.at_ 0 + 1) = true → LosI x y s' := by
      intro s' e1 e2 e3 e4 e5
      have a1 : s'.at_ 1 = s.at_ 1 := by rw [e3]; rfl
      have a2 : s'.at_ 2 = s.at_ 2 := by rw [e3]; rfl
      have a0 : s'.at_ 0 = s.at_ 0 + 1 := by rw [e3]; rfl
      refine ⟨by rw [a1, a2, e1, e2]; exact hli, fun h1 => ?_, fun h1 => ?_, e4 0 hk0⟩
      · rcases (by omega : s.at_ 0 = 0 ∨ s.at_ 0 = 1) with c | c
        · rw [c] at e5; exact e5
        · exact e4 1 (hk1 (by omega))
      · have c : s.at_ 0 = 1 := by omega
        rw [c] at e5; exact e5
    have hop : opN (twoP x y) s 0 = ⟨6, ((s.at_ 0 + 1 : Nat) : Int), 0⟩ := by
      unfold opN
      rcases (by omega : s.at_ 0 = 0 ∨ s.at_ 0 = 1) with c | c <;> (rw [c]; rfl)
    unfold stepP
    rw [hop]
    by_cases c : ((s.at_ 0 + 1 : Nat) : Int) < (twoP x y).length ∧ (tick s 0).begun ((s.at_ 0 + 1 : Nat) : Int).toNat = false
    · rw [do6y rfl c]
      refine key _ rfl rfl rfl (fun i hi => ?_) ?_
      · show upT s.begun _ i = true; unfold upT; split <;> first | rfl | exact hi
      · show upT s.begun ((s.at_ 0 + 1 : Nat) : Int).toNat (s.at_ 0 + 1) = true
        rw [Int.toNat_natCast]; simp [upT]
    · rw [do6n rfl c]
      refine key _ rfl rfl rfl (fun i hi => hi) ?_
      have hlt : ((s.at_ 0 + 1 : Nat) : Int) < (twoP x y).length := by have : (twoP x y).length = 3 := rfl; omega
      show s.begun (s.at_ 0 + 1) = true
      cases hb : s.begun (s.at_ 0 + 1)
      · exact absurd ⟨hlt, by rw [Int.toNat_natCast]; exact hb⟩ c
      · rfl
  · have h1 : s.at_ 1 < 3 := hat
    have key : ∀ s' : PS, s'.at_ = upN s.at_ 1 (s.at_ 1 + 1) → s'.begun = s.begun → LI x y (s.at_ 1 + 1) (s.at_ 2) (s'.mem 0) (s'.has 1) (s'.has 2) → LosI x y s' := by
      intro s' e1 e2 e3
      have a1 : s'.at_ 1 = s.at_ 1 + 1 := by rw [e1]; rfl
      have a2 : s'.at_ 2 = s.at_ 2 := by rw [e1]; rfl
      have a0 : s'.at_ 0 = s.at_ 0 := by rw [e1]; rfl
      exact ⟨by rw [a1, a2]; exact e3, by rw [a0, e2]; exact hk1, by rw [a0, e2]; exact hk2, by rw [e2]; exact hk0⟩
    unfold stepP
    rcases (by omega : s.at_ 1 = 0 ∨ s.at_ 1 = 1 ∨ s.at_ 1 = 2) with c | c | c
    · rw [show opN (twoP x y) s 1 = ⟨1, 0, 0⟩ by unfold opN; rw [c]; rfl, do1 rfl]
      rw [c] at hli
      exact key _ rfl rfl (by rw [c]; exact hli.load1)
    · rw [show opN (twoP x y) s 1 = ⟨3, 0, x⟩ by unfold opN; rw [c]; rfl, do3 rfl]
      rw [c] at hli
      exact key _ rfl rfl (by rw [c]; exact hli.add1)
    · rw [show opN (twoP x y) s 1 = ⟨2, 0, 0⟩ by unfold opN; rw [c]; rfl, do2 rfl]
      rw [c] at hli
      exact key _ rfl rfl (by rw [c]; exact hli.store1)
  · have h1 : s.at_ 2 < 3 := hat
    have key : ∀ s' : PS, s'.at_ = upN s.at_ 2 (s.at_ 2 + 1) → s'.begun = s.begun → LI x y (s.at_ 1) (s.at_ 2 + 1) (s'.mem 0) (s'.has 1) (s'.has 2) → LosI x y s' := by
      intro s' e1 e2 e3
      have a1 : s'.at_ 1 = s.at_ 1 := by rw [e1]; rfl
      have a2 : s'.at_ 2 = s.at_ 2 + 1 := by rw [e1]; rfl
      have a0 : s'.at_ 0 = s.at_ 0 := by rw [e1]; rfl
      exact ⟨by rw [a1, a2]; exact e3, by rw [a0, e2]; exact hk1, by rw [a0, e2]; exact hk2, by rw [e2]; exact hk0⟩
    unfold stepP
    rcases (by omega : s.at_ 2 = 0 ∨ s.at_ 2 = 1 ∨ s.at_ 2 = 2) with c | c | c
    · rw [show opN (twoP x y) s 2 = ⟨1, 0, 0⟩ by unfold opN; rw [c]; rfl, do1 rfl]
      rw [c] at hli
      exact key _ rfl rfl (by rw [c]; exact hli.swap.load1.swap)
    · rw [show opN (twoP x y) s 2 = ⟨3, 0, y⟩ by unfold opN; rw [c]; rfl, do3 rfl]
      rw [c] at hli
      exact key _ rfl rfl (by rw [c]; exact hli.swap.add1.swap)
    · rw [show opN (twoP x y) s 2 = ⟨2, 0, 0⟩ by unfold opN; rw [c]; rfl, do2 rfl]
      rw [c] at hli
      exact key _ rfl rfl (by rw [c]; exact hli.swap.store1.swap)
theorem los_run (hx : 1 ≤ x ∧ x ≤ 100) (hy : 1 ≤ y ∧ y ≤ 100) (picks : List Int) : LosI x y (runP (twoP x y) picks).1 := by
  refine (run_ind (two_ok hx hy) (Q := fun r => LosI x y r.1) LosI.first ?_ picks).2
  intro r t hI h hc
  have h0 := (nextB_iff.1 (canB_next hc)).1
  obtain ⟨n, rfl⟩ : ∃ n : Nat, t = n := ⟨t.toNat, by omega⟩
  exact h.step hI hc
theorem LosI.can {s : PS} (_ : LosI x y s) {t : Nat} (ht : t < 3) (hb : s.begun t = true) (ha : s.at_ t < plen (twoP x y) t) : canB (twoP x y) s t = true := by
  have hn : nextB (twoP x y) s t = true := nextB_iff.2 ⟨by omega, by have : (twoP x y).length = 3 := rfl; omega, by rw [Int.toNat_natCast]; exact hb, by rw [Int.toNat_natCast]; omega⟩
  unfold canB
  rw [hn, Int.toNat_natCast]
  have hk : (opN (twoP x y) s t).k ≠ 4 ∧ (opN (twoP x y) s t).k ≠ 7 := by
    unfold opN
    rcases (by omega : t = 0 ∨ t = 1 ∨ t = 2) with rfl | rfl | rfl
    · have : s.at_ 0 < 2 := ha
      rcases (by omega : s.at_ 0 = 0 ∨ s.at_ 0 = 1) with c | c <;> (rw [c]; exact ⟨(show (6 : Int) ≠ 4 by decide), (show (6 : Int) ≠ 7 by decide)⟩)
    · have : s.at_ 1 < 3 := ha
      rcases (by omega : s.at_ 1 = 0 ∨ s.at_ 1 = 1 ∨ s.at_ 1 = 2) with c | c | c <;> (rw [c]; first | exact ⟨(show (1 : Int) ≠ 4 by decide), (show (1 : Int) ≠ 7 by decide)⟩ | exact ⟨(show (3 : Int) ≠ 4 by decide), (show (3 : Int) ≠ 7 by decide)⟩ | exact ⟨(show (2 : Int) ≠ 4 by decide), (show (2 : Int) ≠ 7 by decide)⟩)
    · have : s.at_ 2 < 3 := ha
      rcases (by omega : s.at_ 2 = 0 ∨ s.at_ 2 = 1 ∨ s.at_ 2 = 2) with c | c | c <;> (rw [c]; first | exact ⟨(show (1 : Int) ≠ 4 by decide), (show (1 : Int) ≠ 7 by decide)⟩ | exact ⟨(show (3 : Int) ≠ 4 by decide), (show (3 : Int) ≠ 7 by decide)⟩ | exact ⟨(show (2 : Int) ≠ 4 by decide), (show (2 : Int) ≠ 7 by decide)⟩)
  rw [if_neg hk.1, if_neg hk.2]
  rfl
theorem LosI.last {s : PS} (hI : IP (twoP x y) s) (h : LosI x y s) (hl : lastB (twoP x y) s = true) : doneB (twoP x y) s = true ∧ stuckB (twoP x y) s = false ∧ (s.mem 0 = x ∨ s.mem 0 = y ∨ s.mem 0 = x + y) := by
  have hno := last_no hl
  have p0 : s.at_ 0 ≤ 2 := hI.at_le 0
  have e0 : s.at_ 0 = 2 := by
    by_cases c : s.at_ 0 < 2
    · have := h.can (t := 0) (by decide) h.k0 c
      rw [hno] at this; cases this
    · omega
  have e1 : s.at_ 1 = 3 := by
    have := h.li.qi
    by_cases c : s.at_ 1 < 3
    · have := h.can (t := 1) (by decide) (h.k1 (by omega)) c
      rw [hno] at this; cases this
    · omega
  have e2 : s.at_ 2 = 3 := by
    have := h.li.qj
    by_cases c : s.at_ 2 < 3
    · have := h.can (t := 2) (by decide) (h.k2 (by omega)) c
      rw [hno] at this; cases this
    · omega
  have hd : doneB (twoP x y) s = true := by
    have n0 : nextB (twoP x y) s 0 = false := by
      cases c : nextB (twoP x y) s 0
      · rfl
      · exact absurd e0 (nextB_iff.1 c).2.2.2
    have n1 : nextB (twoP x y) s 1 = false := by
      cases c : nextB (twoP x y) s 1
      · rfl
      · exact absurd e1 (nextB_iff.1 c).2.2.2
    have n2 : nextB (twoP x y) s 2 = false := by
      cases c : nextB (twoP x y) s 2
      · rfl
      · exact absurd e2 (nextB_iff.1 c).2.2.2
    show ((List.range 3).all fun t => !(nextB (twoP x y) s t)) = true
    simp [List.range_succ, n0, n1, n2]
  refine ⟨hd, ?_, h.li.d e1 e2⟩
  have := stuck_done (twoP x y) s
  rw [hd] at this
  simpa using this
end
end Go.Proofs.Ytoohconipcleiaa

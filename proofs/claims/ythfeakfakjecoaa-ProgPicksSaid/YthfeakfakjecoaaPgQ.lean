/- Runs of a program, plain: what picks do; what holds behind each pick; the events of a run are a valid trace. No program. -/
import Derived.Test.YthfeakfakjecoaaPgP
import Derived.Test.YthfeakfakjecoaaSwp
namespace Go.Proofs.Ythfeakfakjecoaa

theorem nextB_iff {p : List (List Ev)} {s : PS} {t : Int} : nextB p s t = true ↔ 0 ≤ t ∧ t < p.length ∧ s.begun t.toNat = true ∧ s.at_ t.toNat ≠ plen p t.toNat := by
  simp [nextB, and_assoc]
theorem canB_next {p : List (List Ev)} {s : PS} {t : Int} (h : canB p s t = true) : nextB p s t = true := by
  unfold canB at h
  rw [Bool.and_eq_true] at h
  exact h.1
theorem canB_out {p : List (List Ev)} {s : PS} {t : Int} (h : t < 0 ∨ (p.length : Int) ≤ t) : canB p s t = false := by
  cases hc : canB p s t
  · rfl
  · obtain ⟨h1, h2, _⟩ := nextB_iff.1 (canB_next hc)
    omega
theorem canB_lock {p : List (List Ev)} {s : PS} {t : Int} (h : canB p s t = true) (hk : (opN p s t.toNat).k = 4) : s.owner (opN p s t.toNat).t.toNat = 0 := by
  unfold canB at h
  rw [if_pos hk] at h
  simp at h
  exact h.2
theorem canB_join {p : List (List Ev)} {s : PS} {t : Int} (h : canB p s t = true) (hk : (opN p s t.toNat).k = 7) :
    (opN p s t.toNat).t < p.length ∧ (opN p s t.toNat).t ≠ t ∧ s.begun (opN p s t.toNat).t.toNat = true ∧ s.at_ (opN p s t.toNat).t.toNat = plen p (opN p s t.toNat).t.toNat := by
  unfold canB at h
  rw [if_neg (by omega), if_pos hk] at h
  simp only [Bool.and_eq_true, decide_eq_true_eq, Bool.not_eq_true', beq_eq_false_iff_ne, beq_iff_eq] at h
  exact ⟨h.2.1.1.1, h.2.1.1.2, h.2.1.2, h.2.2⟩
theorem pickP_no {p : List (List Ev)} {r : PS × List Ev} {t : Int} (h : canB p r.1 t = false) : pickP p r t = r := by simp [pickP, h]
theorem pickP_yes {p : List (List Ev)} {r : PS × List Ev} {t : Int} (h : canB p r.1 t = true) : pickP p r t = ((stepP p r.1 t.toNat).1, r.2 ++ (stepP p r.1 t.toNat).2.toList) := by simp [pickP, h]
theorem runP_append (p : List (List Ev)) (a b : List Int) : runP p (a ++ b) = b.foldl (pickP p) (runP p a) := by simp [runP]
/-- A pick of nobody. -/
theorem runP_insert {p : List (List Ev)} {a b : List Int} {n : Int} (h : n < 0 ∨ (p.length : Int) ≤ n) : runP p (a ++ n :: b) = runP p (a ++ b) := by
  simp only [runP, List.foldl_append, List.foldl_cons]
  rw [pickP_no (canB_out h)]
theorem fold_ext (p : List (List Ev)) : ∀ (b : List Int) (r : PS × List Ev), ∃ m, (b.foldl (pickP p) r).2 = r.2 ++ m
  | [], r => ⟨[], by simp⟩
  | t :: b, r => by
    obtain ⟨m, hm⟩ := fold_ext p b (pickP p r t)
    rw [List.foldl_cons, hm]
    cases hc : canB p r.1 t
    · rw [pickP_no hc]; exact ⟨m, rfl⟩
    · rw [pickP_yes hc]; exact ⟨_, List.append_assoc _ _ _⟩
theorem fold_stop {p : List (List Ev)} {r : PS × List Ev} (h : ∀ t, canB p r.1 t = false) : ∀ (b : List Int), b.foldl (pickP p) r = r
  | [] => rfl
  | t :: b => by rw [List.foldl_cons, pickP_no (h t)]; exact fold_stop h b
theorem done_next {p : List (List Ev)} {s : PS} (h : doneB p s = true) (t : Int) : nextB p s t = false := by
  cases hc : nextB p s t
  · rfl
  · obtain ⟨h1, h2, _⟩ := nextB_iff.1 hc
    have := List.all_eq_true.1 h t.toNat (List.mem_range.2 (by omega))
    rw [show ((t.toNat : Nat) : Int) = t by omega, hc] at this
    cases this
theorem done_stop {p : List (List Ev)} {s : PS} (h : doneB p s = true) (t : Int) : canB p s t = false := by
  cases hc : canB p s t
  · rfl
  · have := canB_next hc
    rw [done_next h t] at this
    cases this
theorem stuck_stop {p : List (List Ev)} {s : PS} (h : stuckB p s = true) (t : Int) : canB p s t = false := by
  cases hc : canB p s t
  · rfl
  · obtain ⟨h1, h2, _⟩ := nextB_iff.1 (canB_next hc)
    unfold stuckB at h
    rw [Bool.and_eq_true] at h
    have := List.all_eq_true.1 h.1 t.toNat (List.mem_range.2 (by omega))
    rw [show ((t.toNat : Nat) : Int) = t by omega, hc] at this
    cases this
theorem stuck_done (p : List (List Ev)) (s : PS) : (doneB p s && stuckB p s) = false := by
  unfold stuckB
  cases doneB p s <;> simp
/-- What follows a done or stuck state is that state. -/
theorem runP_front {p : List (List Ev)} {a b : List Int} (h : doneB p (runP p a).1 = true ∨ stuckB p (runP p a).1 = true) : runP p (a ++ b) = runP p a := by
  rw [runP_append]
  exact fold_stop (fun t => h.elim (fun h => done_stop h t) (fun h => stuck_stop h t)) b

/-! What an op is. -/
theorem bad_iff {e : Ev} : badOp e = false ↔ 0 ≤ e.t ∧ e.t < boundK e.k ∧ -mostK e.k ≤ e.o ∧ e.o ≤ mostK e.k := by
  unfold badOp
  simp only [Bool.or_eq_false_iff, decide_eq_false_iff_not]
  constructor
  · rintro ⟨⟨⟨h1, h2⟩, h3⟩, h4⟩; exact ⟨by omega, by omega, by omega, by omega⟩
  · rintro ⟨h1, h2, h3, h4⟩; exact ⟨⟨⟨by omega, by omega⟩, by omega⟩, by omega⟩
theorem boundK_pos {k : Int} (h : 0 < boundK k) : 1 ≤ k ∧ k ≤ 9 := by
  unfold boundK at h
  repeat' split at h
  all_goals omega
theorem boundK_le (k : Int) : boundK k ≤ 8 := by
  unfold boundK
  repeat' split
  all_goals omega
theorem mostK_le (k : Int) : 0 ≤ mostK k ∧ mostK k ≤ 1000 := by
  unfold mostK
  split <;> omega
theorem opA_mem {p : List (List Ev)} {t i : Nat} (hi : i < plen p t) : t < p.length ∧ ∃ z ∈ p, opA p t i ∈ z := by
  unfold plen at hi
  by_cases ht : t < p.length
  · refine ⟨ht, p[t], List.getElem_mem ht, ?_⟩
    have hz : p.getD t [] = p[t] := by simp [ht]
    unfold opA
    rw [hz] at hi ⊢
    simp [hi]
  · rw [show p.getD t [] = [] by simp [List.getElem?_eq_none (Nat.le_of_not_lt ht)]] at hi
    simp at hi
theorem OkP.at {p : List (List Ev)} (h : OkP p) {t i : Nat} (hi : i < plen p t) : badOp (opA p t i) = false := by
  obtain ⟨_, z, hz, he⟩ := opA_mem hi
  exact h.op z hz _ he
theorem OkP.plen {p : List (List Ev)} (h : OkP p) (t : Nat) : plen p t ≤ 12 := by
  unfold Go.Proofs.Ythfeakfakjecoaa.plen
  by_cases ht : t < p.length
  · rw [show p.getD t [] = p[t] by simp [ht]]
    exact h.len _ (List.getElem_mem ht)
  · rw [show p.getD t [] = [] by simp [List.getElem?_eq_none (Nat.le_of_not_lt ht)]]
    simp

/-! What holds behind each pick. -/
structure IP (p : List (List Ev)) (s : PS) : Prop where
  at_le : ∀ t, s.at_ t ≤ plen p t
  begun : ∀ t, s.begun t = true → t < p.length
  fresh : ∀ t, s.begun t = false → s.at_ t = 0 ∧ s.has t = 0
  own : ∀ o, 0 ≤ s.owner o ∧ s.owner o ≤ p.length
theorem IP.first {p : List (List Ev)} (h : 1 ≤ p.length) : IP p PS.first :=
  ⟨fun t => Nat.zero_le _, fun t ht => by simp [PS.first] at ht; omega, fun t _ => ⟨rfl, rfl⟩, fun o => ⟨Int.le_refl _, by show (0 : Int) ≤ _; omega⟩⟩
/-- What an op does, kind by kind. -/
theorem do1 {p : List (List Ev)} {s : PS} {t : Nat} {o : Ev} (h : o.k = 1) : doOp p s t o = ({ s with has := upZ s.has t (s.mem o.t.toNat) }, some ⟨1, t, o.t⟩) := by simp [doOp, h]
theorem do2 {p : List (List Ev)} {s : PS} {t : Nat} {o : Ev} (h : o.k = 2) : doOp p s t o = ({ s with mem := upZ s.mem o.t.toNat (s.has t) }, some ⟨2, t, o.t⟩) := by simp [doOp, h]
theorem do3 {p : List (List Ev)} {s : PS} {t : Nat} {o : Ev} (h : o.k = 3) : doOp p s t o = ({ s with has := upZ s.has t (s.has t + o.o) }, none) := by simp [doOp, h]
theorem do4 {p : List (List Ev)} {s : PS} {t : Nat} {o : Ev} (h : o.k = 4) : doOp p s t o = ({ s with owner := upZ s.owner o.t.toNat (t + 1) }, some ⟨3, t, o.t⟩) := by simp [doOp, h]
theorem do5y {p : List (List Ev)} {s : PS} {t : Nat} {o : Ev} (h : o.k = 5) (hc : s.owner o.t.toNat = t + 1) : doOp p s t o = ({ s with owner := upZ s.owner o.t.toNat 0 }, some ⟨4, t, o.t⟩) := by simp [doOp, h, hc]
theorem do5n {p : List (List Ev)} {s : PS} {t : Nat} {o : Ev} (h : o.k = 5) (hc : ¬ s.owner o.t.toNat = t + 1) : doOp p s t o = (s, none) := by simp [doOp, h, hc]
theorem do6y {p : List (List Ev)} {s : PS} {t : Nat} {o : Ev} (h : o.k = 6) (hc : o.t < p.length ∧ s.begun o.t.toNat = false) : doOp p s t o = ({ s with begun := upT s.begun o.t.toNat }, some ⟨5, t, o.t⟩) := by simp [doOp, h, hc]
theorem do6n {p : List (List Ev)} {s : PS} {t : Nat} {o : Ev} (h : o.k = 6) (hc : ¬ (o.t < p.length ∧ s.begun o.t.toNat = false)) : doOp p s t o = (s, none) := by
  unfold doOp
  rw [if_neg (by omega), if_neg (by omega), if_neg (by omega), if_neg (by omega), if_neg (by omega), if_pos h, if_neg hc]
theorem do7 {p : List (List Ev)} {s : PS} {t : Nat} {o : Ev} (h : o.k = 7) : doOp p s t o = (s, some ⟨6, t, o.t⟩) := by simp [doOp, h]
theorem do8 {p : List (List Ev)} {s : PS} {t : Nat} {o : Ev} (h : o.k = 8) : doOp p s t o = ({ s with has := upZ s.has t (s.vols o.t.toNat) }, some ⟨7, t, o.t⟩) := by simp [doOp, h]
theorem do9 {p : List (List Ev)} {s : PS} {t : Nat} {o : Ev} (h : o.k = 9) : doOp p s t o = ({ s with vols := upZ s.vols o.t.toNat (s.has t) }, some ⟨8, t, o.t⟩) := by simp [doOp, h]
/-- The ways of an op. -/
theorem op_ways {p : List (List Ev)} {s : PS} {t : Nat} {o : Ev} (hb : badOp o = false) {Q : PS × Option Ev → Prop}
    (h1 : o.k = 1 → o.t < 8 → Q ({ s with has := upZ s.has t (s.mem o.t.toNat) }, some ⟨1, t, o.t⟩))
    (h2 : o.k = 2 → o.t < 8 → Q ({ s with mem := upZ s.mem o.t.toNat (s.has t) }, some ⟨2, t, o.t⟩))
    (h3 : o.k = 3 → -1000 ≤ o.o → o.o ≤ 1000 → Q ({ s with has := upZ s.has t (s.has t + o.o) }, none))
    (h4 : o.k = 4 → o.t < 5 → Q ({ s with owner := upZ s.owner o.t.toNat (t + 1) }, some ⟨3, t, o.t⟩))
    (h5 : o.k = 5 → o.t < 5 → s.owner o.t.toNat = t + 1 → Q ({ s with owner := upZ s.owner o.t.toNat 0 }, some ⟨4, t, o.t⟩))
    (h5' : o.k = 5 → o.t < 5 → ¬ s.owner o.t.toNat = t + 1 → Q (s, none))
    (h6 : o.k = 6 → o.t < p.length → o.t < 6 → s.begun o.t.toNat = false → Q ({ s with begun := upT s.begun o.t.toNat }, some ⟨5, t, o.t⟩))
    (h6' : o.k = 6 → ¬ (o.t < p.length ∧ s.begun o.t.toNat = false) → Q (s, none))
    (h7 : o.k = 7 → o.t < 6 → Q (s, some ⟨6, t, o.t⟩))
    (h8 : o.k = 8 → o.t < 4 → Q ({ s with has := upZ s.has t (s.vols o.t.toNat) }, some ⟨7, t, o.t⟩))
    (h9 : o.k = 9 → o.t < 4 → Q ({ s with vols := upZ s.vols o.t.toNat (s.has t) }, some ⟨8, t, o.t⟩)) : Q (doOp p s t o) := by
  obtain ⟨b1, b2, b3, b4⟩ := bad_iff.1 hb
  have hk := boundK_pos (show 0 < boundK o.k by omega)
  rcases (by omega : o.k = 1 ∨ o.k = 2 ∨ o.k = 3 ∨ o.k = 4 ∨ o.k = 5 ∨ o.k = 6 ∨ o.k = 7 ∨ o.k = 8 ∨ o.k = 9) with k | k | k | k | k | k | k | k | k
  · rw [do1 k]; rw [k] at b2; exact h1 k b2
  · rw [do2 k]; rw [k] at b2; exact h2 k b2
  · rw [do3 k]; rw [k] at b3 b4; exact h3 k b3 b4
  · rw [do4 k]; rw [k] at b2; exact h4 k b2
  · rw [k] at b2
    by_cases c : s.owner o.t.toNat = t + 1
    · rw [do5y k c]; exact h5 k b2 c
    · rw [do5n k c]; exact h5' k b2 c
  · rw [k] at b2
    by_cases c : o.t < p.length ∧ s.begun o.t.toNat = false
    · rw [do6y k c]; exact h6 k c.1 b2 c.2
    · rw [do6n k c]; exact h6' k c
  · rw [do7 k]; rw [k] at b2; exact h7 k b2
  · rw [do8 k]; rw [k] at b2; exact h8 k b2
  · rw [do9 k]; rw [k] at b2; exact h9 k b2
theorem nextB_at {p : List (List Ev)} {s : PS} {t : Int} (hI : IP p s) (h : nextB p s t = true) : s.at_ t.toNat < plen p t.toNat := by
  have := hI.at_le t.toNat
  have := (nextB_iff.1 h).2.2.2
  omega
theorem nextB_op {p : List (List Ev)} {s : PS} {t : Int} (hp : OkP p) (hI : IP p s) (h : nextB p s t = true) : badOp (opN p s t.toNat) = false := hp.at (nextB_at hI h)
theorem IP.tick {p : List (List Ev)} {s : PS} {t : Int} (hI : IP p s) (h : nextB p s t = true) : IP p (tick s t.toNat) := by
  have h1 := nextB_at hI h
  have h2 := (nextB_iff.1 h).2.2.1
  refine ⟨fun u => ?_, hI.begun, fun u hu => ?_, hI.own⟩
  · show upN s.at_ t.toNat (s.at_ t.toNat + 1) u ≤ _
    unfold upN
    split
    · rename_i e; subst e; omega
    · exact hI.at_le u
  · have hne : u ≠ t.toNat := by rintro rfl; have : s.begun t.toNat = false := hu; rw [h2] at this; cases this
    obtain ⟨a, b⟩ := hI.fresh u hu
    refine ⟨?_, b⟩
    show upN s.at_ t.toNat (s.at_ t.toNat + 1) u = 0
    unfold upN
    rw [if_neg hne]; exact a
theorem IP.setHas {p : List (List Ev)} {s : PS} {t : Nat} (hI : IP p s) (hb : s.begun t = true) (x : Int) : IP p { s with has := upZ s.has t x } :=
  ⟨hI.at_le, hI.begun, fun u hu => by
    have hne : u ≠ t := by rintro rfl; have : s.begun u = false := hu; rw [hb] at this; cases this
    obtain ⟨a, b⟩ := hI.fresh u hu
    exact ⟨a, by show upZ s.has t x u = 0; unfold upZ; rw [if_neg hne]; exact b⟩, hI.own⟩
theorem IP.setOwner {p : List (List Ev)} {s : PS} {o : Nat} {x : Int} (hI : IP p s) (h : 0 ≤ x ∧ x ≤ p.length) : IP p { s with owner := upZ s.owner o x } :=
  ⟨hI.at_le, hI.begun, hI.fresh, fun u => by show 0 ≤ upZ s.owner o x u ∧ upZ s.owner o x u ≤ _; unfold upZ; split; exact h; exact hI.own u⟩
theorem IP.setBegun {p : List (List Ev)} {s : PS} {o : Nat} (hI : IP p s) (h : o < p.length) : IP p { s with begun := upT s.begun o } :=
  ⟨hI.at_le, fun u hu => by
    have hu : upT s.begun o u = true := hu
    unfold upT at hu
    split at hu
    · rename_i e; subst e; exact h
    · exact hI.begun u hu, fun u hu => by
    have hu : upT s.begun o u = false := hu
    unfold upT at hu
    split at hu
    · cases hu
    · exact hI.fresh u hu, hI.own⟩
theorem IP.step {p : List (List Ev)} {s : PS} {t : Int} (hp : OkP p) (hI : IP p s) (h : nextB p s t = true) : IP p (stepP p s t.toNat).1 := by
  have hT := hI.tick h
  obtain ⟨t0, t1, t2, _⟩ := nextB_iff.1 h
  have hb := nextB_op hp hI h
  have hn : 0 ≤ (opN p s t.toNat).t := (bad_iff.1 hb).1
  unfold stepP
  refine op_ways (Q := fun r => IP p r.1) hb ?_ ?_ ?_ ?_ ?_ ?_ ?_ ?_ ?_ ?_ ?_
  · intro _ _; exact hT.setHas t2 _
  · intro _ _; exact ⟨hT.at_le, hT.begun, hT.fresh, hT.own⟩
  · intro _ _ _; exact hT.setHas t2 _
  · intro _ _; exact hT.setOwner (by omega)
  · intro _ _ _; exact hT.setOwner (by omega)
  · intro _ _ _; exact hT
  · intro _ a _ _; exact hT.setBegun (by omega)
  · intro _ _; exact hT
  · intro _ _; exact hT
  · intro _ _; exact hT.setHas t2 _
  · intro _ _; exact ⟨hT.at_le, hT.begun, hT.fresh, hT.own⟩
theorem IP.pick {p : List (List Ev)} {r : PS × List Ev} {t : Int} (hp : OkP p) (hI : IP p r.1) : IP p (pickP p r t).1 := by
  cases hc : canB p r.1 t
  · rw [pickP_no hc]; exact hI
  · rw [pickP_yes hc]; exact hI.step hp (canB_next hc)
/-- A law of all states of a run. -/
theorem run_ind {p : List (List Ev)} (hp : OkP p) {Q : PS × List Ev → Prop} (h0 : Q (PS.first, []))
    (h1 : ∀ r t, IP p r.1 → Q r → canB p r.1 t = true → Q ((stepP p r.1 t.toNat).1, r.2 ++ (stepP p r.1 t.toNat).2.toList)) : ∀ picks, IP p (runP p picks).1 ∧ Q (runP p picks) := by
  have key : ∀ (b : List Int) (r : PS × List Ev), IP p r.1 → Q r → IP p (b.foldl (pickP p) r).1 ∧ Q (b.foldl (pickP p) r) := by
    intro b
    induction b with
    | nil => intro r a b; exact ⟨a, b⟩
    | cons t b ih =>
      intro r hI hQ
      rw [List.foldl_cons]
      refine ih _ (hI.pick hp) ?_
      cases hc : canB p r.1 t
      · rw [pickP_no hc]; exact hQ
      · rw [pickP_yes hc]; exact h1 r t hI hQ hc
  exact fun picks => key picks _ (IP.first hp.pos) h0
theorem runP_IP {p : List (List Ev)} (hp : OkP p) (picks : List Int) : IP p (runP p picks).1 := (run_ind hp (Q := fun _ => True) trivial (fun _ _ _ _ _ => trivial) picks).1

/-! Numbers stay small. -/
def VB (s : PS) (B : Int) : Prop := ∀ i, (-B ≤ s.mem i ∧ s.mem i ≤ B) ∧ (-B ≤ s.vols i ∧ s.vols i ≤ B) ∧ (-B ≤ s.has i ∧ s.has i ≤ B)
theorem VB.mono {s : PS} {B C : Int} (h : VB s B) (k : B ≤ C) : VB s C := fun i => by have := h i; omega
theorem VB.step {p : List (List Ev)} {s : PS} {t : Nat} {B : Int} (h : VB s B) (hb : badOp (opN p s t) = false) : VB (stepP p s t).1 (B + 1000) := by
  have hT : VB (tick s t) (B + 1000) := (show VB (tick s t) B from h).mono (by omega)
  have up : ∀ (f : Nat → Int) (k : Nat) (x : Int) (i : Nat), (-(B + 1000) ≤ f i ∧ f i ≤ B + 1000) → (-(B + 1000) ≤ x ∧ x ≤ B + 1000) → -(B + 1000) ≤ upZ f k x i ∧ upZ f k x i ≤ B + 1000 := by
    intro f k x i h1 h2
    unfold upZ
    split
    · exact h2
    · exact h1
  unfold stepP
  refine op_ways (Q := fun r => VB r.1 (B + 1000)) hb ?_ ?_ ?_ ?_ ?_ ?_ ?_ ?_ ?_ ?_ ?_
  · intro _ _ i; exact ⟨(hT i).1, (hT i).2.1, up _ _ _ _ (hT i).2.2 (hT _).1⟩
  · intro _ _ i; exact ⟨up _ _ _ _ (hT i).1 (hT _).2.2, (hT i).2.1, (hT i).2.2⟩
  · intro _ a b i; exact ⟨(hT i).1, (hT i).2.1, up _ _ _ _ (hT i).2.2 (by have := (h t).2.2; have : (tick s t).has t = s.has t := rfl; omega)⟩
  · intro _ _ i; exact hT i
  · intro _ _ _ i; exact hT i
  · intro _ _ _; exact hT
  · intro _ _ _ _ i; exact hT i
  · intro _ _; exact hT
  · intro _ _; exact hT
  · intro _ _ i; exact ⟨(hT i).1, (hT i).2.1, up _ _ _ _ (hT i).2.2 (hT _).2.1⟩
  · intro _ _ i; exact ⟨(hT i).1, up _ _ _ _ (hT i).2.1 (hT _).2.2, (hT i).2.2⟩
theorem VB.first : VB PS.first 0 := fun i => by simp [PS.first]
theorem fold_VB {p : List (List Ev)} (hp : OkP p) : ∀ (b : List Int) (r : PS × List Ev) (B : Int), IP p r.1 → VB r.1 B → VB (b.foldl (pickP p) r).1 (B + 1000 * b.length)
  | [], r, B, _, h => by simpa using h
  | t :: b, r, B, hI, h => by
    rw [List.foldl_cons]
    have h1 : VB (pickP p r t).1 (B + 1000) := by
      cases hc : canB p r.1 t
      · rw [pickP_no hc]; exact h.mono (by omega)
      · rw [pickP_yes hc]; exact h.step (nextB_op hp hI (canB_next hc))
    have := fold_VB hp b _ _ (hI.pick hp (t := t)) h1
    rw [List.length_cons]
    exact this.mono (by omega)
theorem runP_VB {p : List (List Ev)} (hp : OkP p) (picks : List Int) : VB (runP p picks).1 (1000 * picks.length) := by
  have := fold_VB hp picks (PS.first, []) 0 (IP.first hp.pos) VB.first
  rw [Int.zero_add] at this
  exact this

/-! The events of a run are a valid trace. -/
/-- The trace's world and the program's state. -/
structure Agree (p : List (List Ev)) (s : PS) (st : St) : Prop where
  begun : ∀ t, st.begun t = s.begun t
  owner : ∀ o, st.owner o = s.owner o
  over : ∀ t, st.over t = true → s.begun t = true ∧ s.at_ t = plen p t
theorem Agree.ticked {p : List (List Ev)} {s : PS} {st : St} {t : Int} (h : Agree p s st) (hn : nextB p s t = true) : Agree p (tick s t.toNat) st :=
  ⟨h.begun, h.owner, fun u hu => by
    obtain ⟨a, b⟩ := h.over u hu
    refine ⟨a, ?_⟩
    show upN s.at_ t.toNat (s.at_ t.toNat + 1) u = _
    unfold upN
    rw [if_neg (by rintro rfl; exact (nextB_iff.1 hn).2.2.2 b)]
    exact b⟩
def Tells (p : List (List Ev)) (st : St) (r : PS × Option Ev) : Prop := (r.2 = none → Agree p r.1 st) ∧ ∀ e, r.2 = some e → err st e = 0 ∧ Agree p r.1 (nxt st e)
theorem Agree.step {p : List (List Ev)} {s : PS} {st : St} {t : Int} (hp : OkP p) (hI : IP p s) (h : Agree p s st) (hc : canB p s t = true) : Tells p st (stepP p s t.toNat) := by
  have hn := canB_next hc
  have hT := h.ticked hn
  obtain ⟨t0, t1, t2, t3⟩ := nextB_iff.1 hn
  have hb := nextB_op hp hI hn
  obtain ⟨o0, oM, _, _⟩ := bad_iff.1 hb
  have h6 := hp.six
  have e1 : (t.toNat : Int) = t := by omega
  have vb : st.begun t.toNat = true := by rw [h.begun]; exact t2
  have vo : st.over t.toNat = false := by
    cases c : st.over t.toNat
    · rfl
    · exact absurd (h.over _ c).2 t3
  have L := canB_lock hc
  have J := canB_join hc
  have none_ : Agree p (tick s t.toNat) st → Tells p st (tick s t.toNat, none) := fun a => ⟨fun _ => a, fun e he => by cases he⟩
  unfold stepP
  refine op_ways (Q := Tells p st) hb ?_ ?_ ?_ ?_ ?_ ?_ ?_ ?_ ?_ ?_ ?_
  · intro k a
    refine ⟨fun e => (by cases e), fun e he => ?_⟩
    cases he
    refine ⟨err_ok (isEv_iff.2 ⟨by show (0 : Int) ≤ t.toNat; omega, by show (t.toNat : Int) < 6; omega, o0, a⟩) vb vo (fun e => (by cases e)) (fun e => (by cases e)) (fun e => (by cases e)) (fun e => (by cases e)), ?_⟩
    have : nxt st ⟨1, t.toNat, (opN p s t.toNat).t⟩ = st := by simp [nxt]
    rw [this]
    exact ⟨hT.begun, hT.owner, hT.over⟩
  · intro k a
    refine ⟨fun e => (by cases e), fun e he => ?_⟩
    cases he
    refine ⟨err_ok (isEv_iff.2 ⟨by show (0 : Int) ≤ t.toNat; omega, by show (t.toNat : Int) < 6; omega, o0, a⟩) vb vo (fun e => (by cases e)) (fun e => (by cases e)) (fun e => (by cases e)) (fun e => (by cases e)), ?_⟩
    have : nxt st ⟨2, t.toNat, (opN p s t.toNat).t⟩ = st := by simp [nxt]
    rw [this]
    exact ⟨hT.begun, hT.owner, hT.over⟩
  · intro k _ _
    exact ⟨fun _ => ⟨hT.begun, hT.owner, hT.over⟩, fun e he => (by cases he)⟩
  · intro k a
    refine ⟨fun e => (by cases e), fun e he => ?_⟩
    cases he
    refine ⟨err_ok (isEv_iff.2 ⟨by show (0 : Int) ≤ t.toNat; omega, by show (t.toNat : Int) < 6; omega, o0, a⟩) vb vo (fun _ => (by show st.owner _ = 0; rw [h.owner]; exact L k)) (fun e => (by cases e)) (fun e => (by cases e)) (fun e => (by cases e)), ?_⟩
    refine ⟨fun u => ?_, fun u => ?_, fun u hu => ?_⟩
    · rw [nxt_begun_iff]; simp; exact hT.begun u
    · rw [nxt_owner_iff]; show _ = upZ s.owner _ _ u; unfold upZ; simp only [true_or, true_and, if_true]; rw [h.owner]
    · rw [nxt_over_iff] at hu; simp at hu; exact hT.over u hu
  · intro k a c
    refine ⟨fun e => (by cases e), fun e he => ?_⟩
    cases he
    refine ⟨err_ok (isEv_iff.2 ⟨by show (0 : Int) ≤ t.toNat; omega, by show (t.toNat : Int) < 6; omega, o0, a⟩) vb vo (fun e => (by cases e)) (fun _ => (by show st.owner _ = _; rw [h.owner]; exact c)) (fun e => (by cases e)) (fun e => (by cases e)), ?_⟩
    refine ⟨fun u => ?_, fun u => ?_, fun u hu => ?_⟩
    · rw [nxt_begun_iff]; simp; exact hT.begun u
    · rw [nxt_owner_iff]; show _ = upZ s.owner _ _ u; unfold upZ; simp only [or_true, true_and]; rw [h.owner]; simp
    · rw [nxt_over_iff] at hu; simp at hu; exact hT.over u hu
  · intro _ _ _; exact none_ hT
  · intro k a a6 c
    refine ⟨fun e => (by cases e), fun e he => ?_⟩
    cases he
    refine ⟨err_ok (isEv_iff.2 ⟨by show (0 : Int) ≤ t.toNat; omega, by show (t.toNat : Int) < 6; omega, o0, a6⟩) vb vo (fun e => (by cases e)) (fun e => (by cases e)) (fun _ => (by show st.begun _ = false; rw [h.begun]; exact c)) (fun e => (by cases e)), ?_⟩
    refine ⟨fun u => ?_, fun u => ?_, fun u hu => ?_⟩
    · rw [nxt_begun_iff]; show _ = upT s.begun _ u; unfold upT; rw [h.begun]; by_cases e : u = (opN p s t.toNat).t.toNat <;> simp [e]
    · rw [nxt_owner_iff]; simp; exact hT.owner u
    · rw [nxt_over_iff] at hu; simp at hu
      obtain ⟨x, y⟩ := hT.over u hu
      exact ⟨by show upT s.begun _ u = true; unfold upT; split; rfl; exact x, y⟩
  · intro _ _; exact none_ hT
  · intro k a
    obtain ⟨j1, j2, j3, j4⟩ := J k
    refine ⟨fun e => (by cases e), fun e he => ?_⟩
    cases he
    refine ⟨err_ok (isEv_iff.2 ⟨by show (0 : Int) ≤ t.toNat; omega, by show (t.toNat : Int) < 6; omega, o0, a⟩) vb vo (fun e => (by cases e)) (fun e => (by cases e)) (fun e => (by cases e)) (fun _ => ⟨by show st.begun _ = true; rw [h.begun]; exact j3, by show (opN p s t.toNat).t ≠ (t.toNat : Int); rw [e1]; exact j2⟩), ?_⟩
    refine ⟨fun u => ?_, fun u => ?_, fun u hu => ?_⟩
    · rw [nxt_begun_iff]; simp; exact hT.begun u
    · rw [nxt_owner_iff]; simp; exact hT.owner u
    · rw [nxt_over_iff] at hu; simp at hu
      rcases hu with hu | hu
      · exact hT.over u hu
      · subst hu
        refine ⟨j3, ?_⟩
        show upN s.at_ t.toNat (s.at_ t.toNat + 1) _ = _
        unfold upN
        rw [if_neg (by omega)]
        exact j4
  · intro k a
    refine ⟨fun e => (by cases e), fun e he => ?_⟩
    cases he
    refine ⟨err_ok (isEv_iff.2 ⟨by show (0 : Int) ≤ t.toNat; omega, by show (t.toNat : Int) < 6; omega, o0, a⟩) vb vo (fun e => (by cases e)) (fun e => (by cases e)) (fun e => (by cases e)) (fun e => (by cases e)), ?_⟩
    have : nxt st ⟨7, t.toNat, (opN p s t.toNat).t⟩ = st := by simp [nxt]
    rw [this]
    exact ⟨hT.begun, hT.owner, hT.over⟩
  · intro k a
    refine ⟨fun e => (by cases e), fun e he => ?_⟩
    cases he
    refine ⟨err_ok (isEv_iff.2 ⟨by show (0 : Int) ≤ t.toNat; omega, by show (t.toNat : Int) < 6; omega, o0, a⟩) vb vo (fun e => (by cases e)) (fun e => (by cases e)) (fun e => (by cases e)) (fun e => (by cases e)), ?_⟩
    have : nxt st ⟨8, t.toNat, (opN p s t.toNat).t⟩ = st := by simp [nxt]
    rw [this]
    exact ⟨hT.begun, hT.owner, hT.over⟩
theorem Agree.first (p : List (List Ev)) : Agree p PS.first St.first := ⟨fun _ => rfl, fun _ => rfl, fun t h => by cases h⟩
theorem doOp_at (p : List (List Ev)) (s : PS) (t : Nat) (o : Ev) : (doOp p s t o).1.at_ = s.at_ := by
  unfold doOp
  repeat' split
  all_goals rfl
def sumA (s : PS) : Nat := s.at_ 0 + s.at_ 1 + s.at_ 2 + s.at_ 3 + s.at_ 4 + s.at_ 5
theorem sumA_step (p : List (List Ev)) (s : PS) {t : Nat} (ht : t < 6) : sumA (stepP p s t).1 = sumA s + 1 := by
  unfold stepP sumA
  rw [doOp_at]
  revert t
  apply idx6 <;> simp [tick, upN] <;> omega
theorem sumA_le {p : List (List Ev)} {s : PS} (hp : OkP p) (hI : IP p s) : sumA s ≤ 72 := by
  have h : ∀ t, s.at_ t ≤ 12 := fun t => Nat.le_trans (hI.at_le t) (hp.plen t)
  unfold sumA
  have := h 0; have := h 1; have := h 2; have := h 3; have := h 4; have := h 5
  omega
theorem playL_snoc {l : List Ev} {e : Ev} (h : (playL St.first 0 l).2.2 = 0) (he : err (playL St.first 0 l).1 e = 0) : playL St.first 0 (l ++ [e]) = (nxt (playL St.first 0 l).1 e, 0, 0) := by
  rw [playL_append, if_pos h]
  simp [playL, he]
structure Valid (p : List (List Ev)) (r : PS × List Ev) : Prop where
  ok : (playL St.first 0 r.2).2.2 = 0
  agree : Agree p r.1 (playL St.first 0 r.2).1
  len : r.2.length ≤ sumA r.1
theorem runP_valid {p : List (List Ev)} (hp : OkP p) (picks : List Int) : Valid p (runP p picks) := by
  refine (run_ind hp (Q := Valid p) ⟨rfl, Agree.first p, Nat.zero_le _⟩ ?_ picks).2
  intro r t hI hV hc
  obtain ⟨h1, h2⟩ := hV.agree.step hp hI hc
  obtain ⟨t0, t1, _⟩ := nextB_iff.1 (canB_next hc)
  have h6 := hp.six
  have hs := sumA_step p r.1 (t := t.toNat) (by omega)
  cases he : (stepP p r.1 t.toNat).2 with
  | none =>
    simp only [Option.toList_none, List.append_nil]
    exact ⟨hV.ok, h1 he, by have := hV.len; show r.2.length ≤ sumA (stepP p r.1 t.toNat).1; omega⟩
  | some e =>
    obtain ⟨g1, g2⟩ := h2 e he
    have hq := playL_snoc hV.ok g1
    simp only [Option.toList_some]
    exact ⟨by show (playL St.first 0 (r.2 ++ [e])).2.2 = 0; rw [hq], by show Agree p _ (playL St.first 0 (r.2 ++ [e])).1; rw [hq]; exact g2, by have := hV.len; show (r.2 ++ [e]).length ≤ sumA (stepP p r.1 t.toNat).1; simp; omega⟩
theorem runP_may {p : List (List Ev)} (hp : OkP p) (picks : List Int) : mayB (runP p picks).2 = true := by
  have hV := runP_valid hp picks
  have := sumA_le hp (runP_IP hp picks)
  have := hV.len
  exact mayB_iff.2 ⟨by omega, hV.ok⟩
theorem fold_len (p : List (List Ev)) : ∀ (b : List Int) (r : PS × List Ev), (b.foldl (pickP p) r).2.length ≤ r.2.length + b.length
  | [], r => by simp
  | t :: b, r => by
    have := fold_len p b (pickP p r t)
    have h2 : (pickP p r t).2.length ≤ r.2.length + 1 := by
      cases hc : canB p r.1 t
      · rw [pickP_no hc]; omega
      · rw [pickP_yes hc]
        cases (stepP p r.1 t.toNat).2 <;> simp
    rw [List.foldl_cons, List.length_cons]
    omega
theorem runP_len (p : List (List Ev)) (picks : List Int) : (runP p picks).2.length ≤ picks.length := by simpa [runP] using fold_len p picks (PS.first, [])
end Go.Proofs.Ythfeakfakjecoaa

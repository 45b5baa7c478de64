/- A run, told again by its events: each event is the next op of its thread that tells such a one; what there is in the end hangs on the events alone. No program. -/
import Derived.Test.YthfeakfakjecoaaPgQ
namespace Go.Proofs.Ythfeakfakjecoaa

/-- The kind of event that an op tells. -/
def evK (k : Int) : Int := if k = 1 then 1 else if k = 2 then 2 else if k = 4 then 3 else if k = 5 then 4 else if k = 6 then 5 else if k = 7 then 6 else if k = 8 then 7 else if k = 9 then 8 else 0
def matchB (o x : Ev) : Bool := evK o.k == x.k && o.t == x.o
/-- The first op from i on that tells x. -/
def findF (z : List Ev) (x : Ev) (i : Nat) : Nat := i + (z.drop i).findIdx (matchB · x)
def addsF (z : List Ev) (i j : Nat) : Int := (((z.drop i).take (j - i)).map fun o => if o.k = 3 then o.o else 0).sum
theorem findF_le {z : List Ev} {x : Ev} {i : Nat} (h : i ≤ z.length) : findF z x i ≤ z.length := by
  have := List.findIdx_le_length (xs := z.drop i) (p := (matchB · x))
  unfold findF
  simp at this
  omega
theorem findF_at {z : List Ev} {x : Ev} {i j : Nat} (hij : i ≤ j) (hj : j < z.length) (hm : matchB z[j] x = true) (hn : ∀ k (hk : k < z.length), i ≤ k → k < j → matchB z[k] x = false) : findF z x i = j := by
  unfold findF
  have h : (z.drop i).findIdx (matchB · x) = j - i := by
    rw [List.findIdx_eq (by simp; omega)]
    refine ⟨by simp only [List.getElem_drop]; rw [show z[i + (j - i)]'(by omega) = z[j] by congr 1; omega]; exact hm, fun k hk => ?_⟩
    simp only [List.getElem_drop]
    exact hn (i + k) (by omega) (by omega) (by omega)
  omega
theorem addsF_self (z : List Ev) (i : Nat) : addsF z i i = 0 := by simp [addsF]
theorem addsF_succ {z : List Ev} {i j : Nat} (hij : i ≤ j) (hj : j < z.length) : addsF z i (j + 1) = addsF z i j + if z[j].k = 3 then z[j].o else 0 := by
  unfold addsF
  rw [show j + 1 - i = (j - i) + 1 by omega, List.take_add_one, List.getElem?_drop, show i + (j - i) = j by omega, List.getElem?_eq_getElem hj]
  simp
/-- What is told again. -/
structure RS where
  mem : Nat → Int
  vols : Nat → Int
  has : Nat → Int
  at_ : Nat → Nat
def RS.first : RS := ⟨fun _ => 0, fun _ => 0, fun _ => 0, fun _ => 0⟩
def opsP (p : List (List Ev)) (t : Nat) : List Ev := p.getD t []
theorem opsP_len (p : List (List Ev)) (t : Nat) : (opsP p t).length = plen p t := rfl
theorem opsP_at {p : List (List Ev)} {t i : Nat} (h : i < plen p t) : (opsP p t)[i]'h = opA p t i := by
  unfold opA
  show (p.getD t [])[i]'h = (p.getD t []).getD i ⟨0, 0, 0⟩
  rw [List.getD_eq_getElem?_getD (l := p.getD t []), List.getElem?_eq_getElem h]
  rfl
def rHas (p : List (List Ev)) (r : RS) (x : Ev) : Int := r.has x.t.toNat + addsF (opsP p x.t.toNat) (r.at_ x.t.toNat) (findF (opsP p x.t.toNat) x (r.at_ x.t.toNat))
def rstep (p : List (List Ev)) (r : RS) (x : Ev) : RS where
  mem := if x.k = 2 then upZ r.mem x.o.toNat (rHas p r x) else r.mem
  vols := if x.k = 8 then upZ r.vols x.o.toNat (rHas p r x) else r.vols
  has := upZ r.has x.t.toNat (if x.k = 1 then r.mem x.o.toNat else if x.k = 7 then r.vols x.o.toNat else rHas p r x)
  at_ := upN r.at_ x.t.toNat (findF (opsP p x.t.toNat) x (r.at_ x.t.toNat) + 1)
def replay (p : List (List Ev)) (l : List Ev) : RS := l.foldl (rstep p) RS.first

/-- An op that told nothing. -/
def Gap (p : List (List Ev)) (s : PS) (t : Nat) (o : Ev) : Prop := o.k = 3 ∨ (o.k = 5 ∧ s.owner o.t.toNat ≠ t + 1) ∨ (o.k = 6 ∧ ¬ (o.t < p.length ∧ s.begun o.t.toNat = false))
structure InvR (p : List (List Ev)) (s : PS) (r : RS) : Prop where
  mem : ∀ i, s.mem i = r.mem i
  vols : ∀ i, s.vols i = r.vols i
  le : ∀ t, r.at_ t ≤ s.at_ t
  gap : ∀ t i, r.at_ t ≤ i → i < s.at_ t → Gap p s t (opA p t i)
  has : ∀ t, s.has t = r.has t + addsF (opsP p t) (r.at_ t) (s.at_ t)
theorem upZ_same (f : Nat → Int) (k : Nat) (x : Int) : upZ f k x k = x := by simp [upZ]
theorem upZ_ne {f : Nat → Int} {k i : Nat} {x : Int} (h : i ≠ k) : upZ f k x i = f i := by simp [upZ, h]
theorem upN_same (f : Nat → Nat) (k : Nat) (x : Nat) : upN f k x k = x := by simp [upN]
theorem upN_ne {f : Nat → Nat} {k i : Nat} {x : Nat} (h : i ≠ k) : upN f k x i = f i := by simp [upN, h]
/-- An op that tells nothing. -/
theorem InvR.quiet {p : List (List Ev)} {s s' : PS} {r : RS} {t : Nat} (h : InvR p s r) (hlt : s.at_ t < plen p t) (hb : s'.begun = s.begun) (ho : s'.owner = s.owner) (hm : s'.mem = s.mem) (hv : s'.vols = s.vols)
    (ha : s'.at_ = upN s.at_ t (s.at_ t + 1)) (hg : Gap p s t (opN p s t)) (hh : ∀ u, s'.has u = if u = t then s.has t + (if (opN p s t).k = 3 then (opN p s t).o else 0) else s.has u) : InvR p s' r := by
  refine ⟨fun i => by rw [hm]; exact h.mem i, fun i => by rw [hv]; exact h.vols i, fun u => ?_, fun u i h1 h2 => ?_, fun u => ?_⟩
  · rw [ha]
    by_cases e : u = t
    · subst e; rw [upN_same]; exact Nat.le_succ_of_le (h.le u)
    · rw [upN_ne e]; exact h.le u
  · have hG : ∀ o, Gap p s u o → Gap p s' u o := fun o g => by unfold Gap at *; rw [hb, ho]; exact g
    rw [ha] at h2
    by_cases e : u = t
    · subst e
      rw [upN_same] at h2
      by_cases e2 : i = s.at_ u
      · subst e2; exact hG _ hg
      · exact hG _ (h.gap u i h1 (by omega))
    · rw [upN_ne e] at h2
      exact hG _ (h.gap u i h1 h2)
  · rw [hh u, ha]
    by_cases e : u = t
    · subst e
      rw [if_pos rfl, upN_same, addsF_succ (z := opsP p u) (h.le u) hlt, h.has u, opsP_at hlt]
      unfold opN
      omega
    · rw [if_neg e, upN_ne e]; exact h.has u
/-- An op that tells. -/
theorem InvR.tell {p : List (List Ev)} {s s' : PS} {r : RS} {t : Nat} {x : Ev} (h : InvR p s r) (hlt : s.at_ t < plen p t) (ht : x.t = t) (hx : matchB (opN p s t) x = true)
    (hno : ∀ o, Gap p s t o → matchB o x = false) (hk3 : (opN p s t).k ≠ 3)
    (ha : s'.at_ = upN s.at_ t (s.at_ t + 1)) (hG : ∀ u o, u ≠ t → Gap p s u o → Gap p s' u o)
    (hm : s'.mem = if x.k = 2 then upZ s.mem x.o.toNat (s.has t) else s.mem) (hv : s'.vols = if x.k = 8 then upZ s.vols x.o.toNat (s.has t) else s.vols)
    (hh : s'.has = upZ s.has t (if x.k = 1 then s.mem x.o.toNat else if x.k = 7 then s.vols x.o.toNat else s.has t)) : InvR p s' (rstep p r x) := by
  have e1 : x.t.toNat = t := by omega
  have hf : findF (opsP p t) x (r.at_ t) = s.at_ t := findF_at (h.le t) hlt (by rw [opsP_at hlt]; exact hx) (fun k hk h1 h2 => by
    rw [opsP_at (p := p) (t := t) (i := k) hk]
    exact hno _ (h.gap t k h1 h2))
  have hH : rHas p r x = s.has t := by
    unfold rHas
    rw [e1, hf]
    exact (h.has t).symm
  refine ⟨fun i => ?_, fun i => ?_, fun u => ?_, fun u i h1 h2 => ?_, fun u => ?_⟩
  · rw [hm]
    show _ = (if x.k = 2 then upZ r.mem x.o.toNat (rHas p r x) else r.mem) i
    rw [hH]
    split
    · unfold upZ; split; rfl; exact h.mem i
    · exact h.mem i
  · rw [hv]
    show _ = (if x.k = 8 then upZ r.vols x.o.toNat (rHas p r x) else r.vols) i
    rw [hH]
    split
    · unfold upZ; split; rfl; exact h.vols i
    · exact h.vols i
  · rw [ha]
    show upN r.at_ x.t.toNat _ u ≤ _
    rw [e1, hf]
    by_cases e : u = t
    · subst e; rw [upN_same, upN_same]; exact Nat.le_refl _
    · rw [upN_ne e, upN_ne e]; exact h.le u
  · have h1 : upN r.at_ x.t.toNat (findF (opsP p x.t.toNat) x (r.at_ x.t.toNat) + 1) u ≤ i := h1
    rw [e1, hf] at h1
    rw [ha] at h2
    by_cases e : u = t
    · subst e; rw [upN_same] at h1 h2; omega
    · rw [upN_ne e] at h1 h2
      exact hG u _ e (h.gap u i h1 h2)
  · rw [hh, ha]
    show _ = upZ r.has x.t.toNat (if x.k = 1 then r.mem x.o.toNat else if x.k = 7 then r.vols x.o.toNat else rHas p r x) u + addsF _ (upN r.at_ x.t.toNat (findF (opsP p x.t.toNat) x (r.at_ x.t.toNat) + 1) u) _
    rw [e1, hf, hH]
    by_cases e : u = t
    · subst e
      rw [upZ_same, upZ_same, upN_same, upN_same, addsF_self, h.mem, h.vols]
      omega
    · rw [upZ_ne e, upZ_ne e, upN_ne e, upN_ne e]; exact h.has u
def TellsR (p : List (List Ev)) (r : RS) (q : PS × Option Ev) : Prop := (q.2 = none → InvR p q.1 r) ∧ ∀ e, q.2 = some e → InvR p q.1 (rstep p r e)
theorem InvR.step {p : List (List Ev)} {s : PS} {r : RS} {t : Int} (hp : OkP p) (hI : IP p s) (h : InvR p s r) (hc : canB p s t = true) : TellsR p r (stepP p s t.toNat) := by
  have hn := canB_next hc
  have hlt := nextB_at hI hn
  have hb := nextB_op hp hI hn
  obtain ⟨o0, oM, _, _⟩ := bad_iff.1 hb
  have hK : ∀ o : Ev, Gap p s t.toNat o → (o.k = 3 ∨ o.k = 5 ∨ o.k = 6) := fun o g => by
    rcases g with g | g | g
    · exact .inl g
    · exact .inr (.inl g.1)
    · exact .inr (.inr g.1)
  have hno : ∀ k : Int, k ≠ 0 → k ≠ 4 → k ≠ 5 → ∀ o : Ev, Gap p s t.toNat o → matchB o ⟨k, t.toNat, (opN p s t.toNat).t⟩ = false := by
    intro k h0 h4 h5 o g
    have : evK o.k ≠ k := by rcases hK o g with e | e | e <;> rw [e] <;> first | exact Ne.symm h0 | exact Ne.symm h4 | exact Ne.symm h5
    simp [matchB, this]
  have hmt : ∀ k : Int, evK (opN p s t.toNat).k = k → matchB (opN p s t.toNat) ⟨k, t.toNat, (opN p s t.toNat).t⟩ = true := by
    intro k h; simp [matchB, h]
  have same : ∀ (s' : PS), s'.begun = s.begun → s'.owner = s.owner → ∀ u o, u ≠ t.toNat → Gap p s u o → Gap p s' u o := fun s' hb ho u o _ g => by unfold Gap at *; rw [hb, ho]; exact g
  unfold stepP
  refine op_ways (Q := TellsR p r) hb ?_ ?_ ?_ ?_ ?_ ?_ ?_ ?_ ?_ ?_ ?_
  · intro k a
    refine ⟨fun e => (by cases e), fun e he => ?_⟩
    cases he
    exact h.tell hlt rfl (hmt 1 (by rw [k]; rfl)) (hno 1 (by decide) (by decide) (by decide)) (by omega) rfl (same _ rfl rfl) rfl rfl rfl
  · intro k a
    refine ⟨fun e => (by cases e), fun e he => ?_⟩
    cases he
    refine h.tell hlt rfl (hmt 2 (by rw [k]; rfl)) (hno 2 (by decide) (by decide) (by decide)) (by omega) rfl (same _ rfl rfl) rfl rfl ?_
    funext u; show s.has u = upZ s.has _ (s.has _) u; unfold upZ; split
    · rename_i e; rw [e]
    · rfl
  · intro k _ _
    refine ⟨fun _ => ?_, fun e he => (by cases he)⟩
    exact h.quiet hlt rfl rfl rfl rfl rfl (.inl k) (fun u => by
      show upZ s.has t.toNat (s.has t.toNat + _) u = _
      rw [if_pos k]; unfold upZ; rfl)
  · intro k a
    refine ⟨fun e => (by cases e), fun e he => ?_⟩
    cases he
    refine h.tell hlt rfl (hmt 3 (by rw [k]; rfl)) (hno 3 (by decide) (by decide) (by decide)) (by omega) rfl ?_ rfl rfl ?_
    · intro u o hu g
      rcases g with g | g | g
      · exact .inl g
      · refine .inr (.inl ⟨g.1, ?_⟩)
        show upZ s.owner _ _ _ ≠ _
        unfold upZ
        split
        · omega
        · exact g.2
      · exact .inr (.inr g)
    · funext u; show s.has u = upZ s.has _ (s.has _) u; unfold upZ; split
      · rename_i e; rw [e]
      · rfl
  · intro k a c
    refine ⟨fun e => (by cases e), fun e he => ?_⟩
    cases he
    refine h.tell hlt rfl (hmt 4 (by rw [k]; rfl)) ?_ (by omega) rfl ?_ rfl rfl ?_
    · intro o g
      rcases g with g | g | g
      · simp [matchB, evK, g]
      · have : o.t ≠ (opN p s t.toNat).t := fun e => g.2 (by rw [e]; exact c)
        simp [matchB, this]
      · simp [matchB, evK, g.1]
    · intro u o hu g
      rcases g with g | g | g
      · exact .inl g
      · refine .inr (.inl ⟨g.1, ?_⟩)
        show upZ s.owner _ _ _ ≠ _
        unfold upZ
        split
        · omega
        · exact g.2
      · exact .inr (.inr g)
    · funext u; show s.has u = upZ s.has _ (s.has _) u; unfold upZ; split
      · rename_i e; rw [e]
      · rfl
  · intro k a c
    refine ⟨fun _ => ?_, fun e he => (by cases he)⟩
    exact h.quiet hlt rfl rfl rfl rfl rfl (.inr (.inl ⟨k, c⟩)) (fun u => by
      rw [show (if (opN p s t.toNat).k = 3 then (opN p s t.toNat).o else 0) = 0 from if_neg (by omega)]
      show s.has u = _
      split
      · rename_i e; rw [e]; omega
      · rfl)
  · intro k a a6 c
    refine ⟨fun e => (by cases e), fun e he => ?_⟩
    cases he
    refine h.tell hlt rfl (hmt 5 (by rw [k]; rfl)) ?_ (by omega) rfl ?_ rfl rfl ?_
    · intro o g
      rcases g with g | g | g
      · simp [matchB, evK, g]
      · simp [matchB, evK, g.1]
      · have : o.t ≠ (opN p s t.toNat).t := fun e => g.2 (by rw [e]; exact ⟨a, c⟩)
        simp [matchB, this]
    · intro u o hu g
      rcases g with g | g | g
      · exact .inl g
      · exact .inr (.inl g)
      · refine .inr (.inr ⟨g.1, fun hh => g.2 ⟨hh.1, ?_⟩⟩)
        have hh2 : upT s.begun (opN p s t.toNat).t.toNat o.t.toNat = false := hh.2
        unfold upT at hh2
        split at hh2
        · cases hh2
        · exact hh2
    · funext u; show s.has u = upZ s.has _ (s.has _) u; unfold upZ; split
      · rename_i e; rw [e]
      · rfl
  · intro k c
    refine ⟨fun _ => ?_, fun e he => (by cases he)⟩
    exact h.quiet hlt rfl rfl rfl rfl rfl (.inr (.inr ⟨k, c⟩)) (fun u => by
      rw [show (if (opN p s t.toNat).k = 3 then (opN p s t.toNat).o else 0) = 0 from if_neg (by omega)]
      show s.has u = _
      split
      · rename_i e; rw [e]; omega
      · rfl)
  · intro k a
    refine ⟨fun e => (by cases e), fun e he => ?_⟩
    cases he
    refine h.tell hlt rfl (hmt 6 (by rw [k]; rfl)) (hno 6 (by decide) (by decide) (by decide)) (by omega) rfl (same _ rfl rfl) rfl rfl ?_
    funext u; show s.has u = upZ s.has _ (s.has _) u; unfold upZ; split
    · rename_i e; rw [e]
    · rfl
  · intro k a
    refine ⟨fun e => (by cases e), fun e he => ?_⟩
    cases he
    exact h.tell hlt rfl (hmt 7 (by rw [k]; rfl)) (hno 7 (by decide) (by decide) (by decide)) (by omega) rfl (same _ rfl rfl) rfl rfl rfl
  · intro k a
    refine ⟨fun e => (by cases e), fun e he => ?_⟩
    cases he
    refine h.tell hlt rfl (hmt 8 (by rw [k]; rfl)) (hno 8 (by decide) (by decide) (by decide)) (by omega) rfl (same _ rfl rfl) rfl rfl ?_
    funext u; show s.has u = upZ s.has _ (s.has _) u; unfold upZ; split
    · rename_i e; rw [e]
    · rfl
theorem InvR.first (p : List (List Ev)) : InvR p PS.first RS.first := ⟨fun _ => rfl, fun _ => rfl, fun _ => Nat.le_refl _, fun t i _ h => absurd h (Nat.not_lt_zero _), fun t => by simp [PS.first, RS.first, addsF]⟩
theorem replay_snoc (p : List (List Ev)) (l : List Ev) (e : Ev) : replay p (l ++ [e]) = rstep p (replay p l) e := by simp [replay]
theorem runP_replay {p : List (List Ev)} (hp : OkP p) (picks : List Int) : InvR p (runP p picks).1 (replay p (runP p picks).2) := by
  refine (run_ind hp (Q := fun r => InvR p r.1 (replay p r.2)) (InvR.first p) ?_ picks).2
  intro r t hI h hc
  obtain ⟨h1, h2⟩ := InvR.step hp hI h hc
  cases he : (stepP p r.1 t.toNat).2 with
  | none =>
    simp only [Option.toList_none, List.append_nil]
    exact h1 he
  | some e =>
    simp only [Option.toList_some, replay_snoc]
    exact h2 e he
end Go.Proofs.Ythfeakfakjecoaa

/- ProgAtomic: additions of several threads under one lock result in their sum in every execution, without a race: for every two slices of ints. -/
import Derived.Test.YthfeakfakjecoaaPgQ
import Derived.Test.YthfeakfakjecoaaPgG
import Derived.Test.YthfeakfakjecoaaVal
import Derived.Test.YthfeakfakjecoaaApp
import Derived.Great.BuildSlice
import Derived.Laws.Tables
import Derived.Test.YthfeakfakjecoaaChecked
import Derived.Test.YthfeakfakjecoaaLst
import Derived.IntWalk
import Derived.OneCell
import Derived.Test.YthfeakfakjecoaaRacP
import Derived.Test.YthfeakfakjecoaaRows
import Derived.Test.YthfeakfakjecoaaPgI
import Derived.Test.YthfeakfakjecoaaRacA
import Derived.Test.YthfeakfakjecoaaOpenE
import Derived.Test.YthfeakfakjecoaaOpenI
namespace Go.Proofs.Ythfeakfakjecoaa
section
/-- The kind of event that an op tells. -/
def evK (k : Int) : Int := if k = 1 then 1 else if k = 2 then 2 else if k = 4 then 3 else if k = 5 then 4 else if k = 6 then 5 else if k = 7 then 6 else if k = 8 then 7 else if k = 9 then 8 else 0
def matchB (o x : Ev) : Bool := evK o.k == x.k && o.t == x.o
/-- The first op from i on that tells x. -/
def findF (z : List Ev) (x : Ev) (i : Nat) : Nat := i + (z.drop i).findIdx (matchB · x)
def addsF (z : List Ev) (i j : Nat) : Int := (((z.drop i).take (j - i)).map fun o => if o.k = 3 then o.o else 0).sum
theorem findF_le {z : List Ev} {x : Ev} {i : Nat} (h : i ≤ z.length) : findF z x i ≤ z.length := by
  have := List.findIdx_le_length (xs := z.drop i) (p := (matchB · x))
  unfold findF
  simp at this
  omega
theorem findF_at {z : List Ev} {x : Ev} {i j : Nat} (hij : i ≤ j) (hj : j < z.length) (hm : matchB z[j] x = true) (hn : ∀ k (hk : k < z.length), i ≤ k → k < j → matchB z[k] x = false) : findF z x i = j := by
  unfold findF
  have h : (z.drop i).findIdx (matchB · x) = j - i := by
    rw [List.findIdx_eq (by simp; omega)]
    refine ⟨by simp only [List.getElem_drop]; rw [show z[i + (j - i)]'(by omega) = z[j] by congr 1; omega]; exact hm, fun k hk => ?_⟩
    simp only [List.getElem_drop]
    exact hn (i + k) (by omega) (by omega) (by omega)
  omega
theorem addsF_self (z : List Ev) (i : Nat) : addsF z i i = 0 := by simp [addsF]
theorem addsF_succ {z : List Ev} {i j : Nat} (hij : i ≤ j) (hj : j < z.length) : addsF z i (j + 1) = addsF z i j + if z[j].k = 3 then z[j].o else 0 := by
  unfold addsF
  rw [show j + 1 - i = (j - i) + 1 by omega, List.take_add_one, List.getElem?_drop, show i + (j - i) = j by omega, List.getElem?_eq_getElem hj]
  simp
/-- What is told again. -/
structure RS where
  mem : Nat → Int
  vols : Nat → Int
  has : Nat → Int
  at_ : Nat → Nat
def RS.first : RS := ⟨fun _ => 0, fun _ => 0, fun _ => 0, fun _ => 0⟩
def opsP (p : List (List Ev)) (t : Nat) : List Ev := p.getD t []
theorem opsP_len (p : List (List Ev)) (t : Nat) : (opsP p t).length = plen p t := rfl
theorem opsP_at {p : List (List Ev)} {t i : Nat} (h : i < plen p t) : (opsP p t)[i]'h = opA p t i := by
  unfold opA
  show (p.getD t [])[i]'h = (p.getD t []).getD i ⟨0, 0, 0⟩
  rw [List.getD_eq_getElem?_getD (l := p.getD t []), List.getElem?_eq_getElem h]
  rfl
def rHas (p : List (List Ev)) (r : RS) (x : Ev) : Int := r.has x.t.toNat + addsF (opsP p x.t.toNat) (r.at_ x.t.toNat) (findF (opsP p x.t.toNat) x (r.at_ x.t.toNat))
def rstep (p : List (List Ev)) (r : RS) (x : Ev) : RS where
  mem := if x.k = 2 then upZ r.mem x.o.toNat (rHas p r x) else r.mem
  vols := if x.k = 8 then upZ r.vols x.o.toNat (rHas p r x) else r.vols
  has := upZ r.has x.t.toNat (if x.k = 1 then r.mem x.o.toNat else if x.k = 7 then r.vols x.o.toNat else rHas p r x)
  at_ := upN r.at_ x.t.toNat (findF (opsP p x.t.toNat) x (r.at_ x.t.toNat) + 1)
def replay (p : List (List Ev)) (l : List Ev) : RS := l.foldl (rstep p) RS.first

/-- An op that told nothing. -/
def Gap (p : List (List Ev)) (s : PS) (t : Nat) (o : Ev) : Prop := o.k = 3 ∨ (o.k = 5 ∧ s.owner o.t.toNat ≠ t + 1) ∨ (o.k = 6 ∧ ¬ (o.t < p.length ∧ s.begun o.t.toNat = false))
structure InvR (p : List (List Ev)) (s : PS) (r : RS) : Prop where
  mem : ∀ i, s.mem i = r.mem i
  vols : ∀ i, s.vols i = r.vols i
  le : ∀ t, r.at_ t ≤ s.at_ t
  gap : ∀ t i, r.at_ t ≤ i → i < s.at_ t → Gap p s t (opA p t i)
  has : ∀ t, s.has t = r.has t + addsF (opsP p t) (r.at_ t) (s.at_ t)
theorem upZ_same (f : Nat → Int) (k : Nat) (x : Int) : upZ f k x k = x := by simp [upZ]
theorem upZ_ne {f : Nat → Int} {k i : Nat} {x : Int} (h : i ≠ k) : upZ f k x i = f i := by simp [upZ, h]
theorem upN_same (f : Nat → Nat) (k : Nat) (x : Nat) : upN f k x k = x := by simp [upN]
theorem upN_ne {f : Nat → Nat} {k i : Nat} {x : Nat} (h : i ≠ k) : upN f k x i = f i := by simp [upN, h]
/-- An op that tells nothing. -/
theorem InvR.quiet {p : List (List Ev)} {s s' : PS} {r : RS} {t : Nat} (h : InvR p s r) (hlt : s.at_ t < plen p t) (hb : s'.begun = s.begun) (ho : s'.owner = s.owner) (hm : s'.mem = s.mem) (hv : s'.vols = s.vols)
    (ha : s'.at_ = upN s.at_ t (s.at_ t + 1)) (hg : Gap p s t (opN p s t)) (hh : ∀ u, s'.has u = if u = t then s.has t + (if (opN p s t).k = 3 then (opN p s t).o else 0) else s.has u) : InvR p s' r := by
  refine ⟨fun i => by rw [hm]; exact h.mem i, fun i => by rw [hv]; exact h.vols i, fun u => ?_, fun u i h1 h2 => ?_, fun u => ?_⟩
  · rw [ha]
    by_cases e : u = t
    · subst e; rw [upN_same]; exact Nat.le_succ_of_le (h.le u)
    · rw [upN_ne e]; exact h.le u
  · have hG : ∀ o, Gap p s u o → Gap p s' u o := fun o g => by unfold Gap at *; rw [hb, ho]; exact g
    rw [ha] at h2
    by_cases e : u = t
    · subst e
      rw [upN_same] at h2
      by_cases e2 : i = s.at_ u
      · subst e2; exact hG _ hg
      · exact hG _ (h.gap u i h1 (by omega))
    · rw [upN_ne e] at h2
      exact hG _ (h.gap u i h1 h2)
  · rw [hh u, ha]
    by_cases e : u = t
    · subst e
      rw [if_pos rfl, upN_same, addsF_succ (z := opsP p u) (h.le u) hlt, h.has u, opsP_at hlt]
      unfold opN
      omega
    · rw [if_neg e, upN_ne e]; exact h.has u
/-- An op that tells. -/
theorem InvR.tell {p : List (List Ev)} {s s' : PS} {r : RS} {t : Nat} {x : Ev} (h : InvR p s r) (hlt : s.at_ t < plen p t) (ht : x.t = t) (hx : matchB (opN p s t) x = true)
    (hno : ∀ o, Gap p s t o → matchB o x = false) (hk3 : (opN p s t).k ≠ 3)
    (ha : s'.at_ = upN s.at_ t (s.at_ t + 1)) (hG : ∀ u o, u ≠ t → Gap p s u o → Gap p s' u o)
    (hm : s'.mem = if x.k = 2 then upZ s.mem x.o.toNat (s.has t) else s.mem) (hv : s'.vols = if x.k = 8 then upZ s.vols x.o.toNat (s.has t) else s.vols)
    (hh : s'.has = upZ s.has t (if x.k = 1 then s.mem x.o.toNat else if x.k = 7 then s.vols x.o.toNat else s.has t)) : InvR p s' (rstep p r x) := by
  have e1 : x.t.toNat = t := by omega
  have hf : findF (opsP p t) x (r.at_ t) = s.at_ t := findF_at (h.le t) hlt (by rw [opsP_at hlt]; exact hx) (fun k hk h1 h2 => by
    rw [opsP_at (p := p) (t := t) (i := k) hk]
    exact hno _ (h.gap t k h1 h2))
  have hH : rHas p r x = s.has t := by
    unfold rHas
    rw [e1, hf]
    exact (h.has t).symm
  refine ⟨fun i => ?_, fun i => ?_, fun u => ?_, fun u i h1 h2 => ?_, fun u => ?_⟩
  · rw [hm]
    show _ = (if x.k = 2 then upZ r.mem x.o.toNat (rHas p r x) else r.mem) i
    rw [hH]
    split
    · unfold upZ; split; rfl; exact h.mem i
    · exact h.mem i
  · rw [hv]
    show _ = (if x.k = 8 then upZ r.vols x.o.toNat (rHas p r x) else r.vols) i
    rw [hH]
    split
    · unfold upZ; split; rfl; exact h.vols i
    · exact h.vols i
  · rw [ha]
    show upN r.at_ x.t.toNat _ u ≤ _
    rw [e1, hf]
    by_cases e : u = t
    · subst e; rw [upN_same, upN_same]; exact Nat.le_refl _
    · rw [upN_ne e, upN_ne e]; exact h.le u
  · have h1 : upN r.at_ x.t.toNat (findF (opsP p x.t.toNat) x (r.at_ x.t.toNat) + 1) u ≤ i := h1
    rw [e1, hf] at h1
    rw [ha] at h2
    by_cases e : u = t
    · subst e; rw [upN_same] at h1 h2; omega
    · rw [upN_ne e] at h1 h2
      exact hG u _ e (h.gap u i h1 h2)
  · rw [hh, ha]
    show _ = upZ r.has x.t.toNat (if x.k = 1 then r.mem x.o.toNat else if x.k = 7 then r.vols x.o.toNat else rHas p r x) u + addsF _ (upN r.at_ x.t.toNat (findF (opsP p x.t.toNat) x (r.at_ x.t.toNat) + 1) u) _
    rw [e1, hf, hH]
    by_cases e : u = t
    · subst e
      rw [upZ_same, upZ_same, upN_same, upN_same, addsF_self, h.mem, h.vols]
      omega
    · rw [upZ_ne e, upZ_ne e, upN_ne e, upN_ne e]; exact h.has u
def TellsR (p : List (List Ev)) (r : RS) (q : PS × Option Ev) : Prop := (q.2 = none → InvR p q.1 r) ∧ ∀ e, q.2 = some e → InvR p q.1 (rstep p r e)
theorem InvR.step {p : List (List Ev)} {s : PS} {r : RS} {t : Int} (hp : OkP p) (hI : IP p s) (h : InvR p s r) (hc : canB p s t = true) : TellsR p r (stepP p s t.toNat) := by
  have hn := canB_next hc
  have hlt := nextB_at hI hn
  have hb := nextB_op hp hI hn
  obtain ⟨o0, oM, _, _⟩ := bad_iff.1 hb
  have hK : ∀ o : Ev, Gap p s t.toNat o → (o.k = 3 ∨ o.k = 5 ∨ o.k = 6) := fun o g => by
    rcases g with g | g | g
    · exact .inl g
    · exact .inr (.inl g.1)
    · exact .inr (.inr g.1)
  have hno : ∀ k : Int, k ≠ 0 → k ≠ 4 → k ≠ 5 → ∀ o : Ev, Gap p s t.toNat o → matchB o ⟨k, t.toNat, (opN p s t.toNat).t⟩ = false := by
    intro k h0 h4 h5 o g
    have : evK o.k ≠ k := by rcases hK o g with e | e | e <;> rw [e] <;> first | exact Ne.symm h0 | exact Ne.symm h4 | exact Ne.symm h5
    simp [matchB, this]
  have hmt : ∀ k : Int, evK (opN p s t.toNat).k = k → matchB (opN p s t.toNat) ⟨k, t.toNat, (opN p s t.toNat).t⟩ = true := by
    intro k h; simp [matchB, h]
  have same : ∀ (s' : PS), s'.begun = s.begun → s'.owner = s.owner → ∀ u o, u ≠ t.toNat → Gap p s u o → Gap p s' u o := fun s' hb ho u o _ g => by unfold Gap at *; rw [hb, ho]; exact g
  unfold stepP
  refine op_ways (Q := TellsR p r) hb ?_ ?_ ?_ ?_ ?_ ?_ ?_ ?_ ?_ ?_ ?_
  · intro k a
    refine ⟨fun e => (by cases e), fun e he => ?_⟩
    cases he
    exact h.tell hlt rfl (hmt 1 (by rw [k]; rfl)) (hno 1 (by decide) (by decide) (by decide)) (by omega) rfl (same _ rfl rfl) rfl rfl rfl
  · intro k a
    refine ⟨fun e => (by cases e), fun e he => ?_⟩
    cases he
    refine h.tell hlt rfl (hmt 2 (by rw [k]; rfl)) (hno 2 (by decide) (by decide) (by decide)) (by omega) rfl (same _ rfl rfl) rfl rfl ?_
    funext u; show s.has u = upZ s.has _ (s.has _) u; unfold upZ; split
    · rename_i e; rw [e]
    · rfl
  · intro k _ _
    refine ⟨fun _ => ?_, fun e he => (by cases he)⟩
    exact h.quiet hlt rfl rfl rfl rfl rfl (.inl k) (fun u => by
      show upZ s.has t.toNat (s.has t.toNat + _) u = _
      rw [if_pos k]; unfold upZ; rfl)
  · intro k a
    refine ⟨fun e => (by cases e), fun e he => ?_⟩
    cases he
    refine h.tell hlt rfl (hmt 3 (by rw [k]; rfl)) (hno 3 (by decide) (by decide) (by decide)) (by omega) rfl ?_ rfl rfl ?_
    · intro u o hu g
      rcases g with g | g | g
      · exact .inl g
      · refine .inr (.inl ⟨g.1, ?_⟩)
        show upZ s.owner _ _ _ ≠ _
        unfold upZ
        split
        · omega
        · exact g.2
      · exact .inr (.inr g)
    · funext u; show s.has u = upZ s.has _ (s.has _) u; unfold upZ; split
      · rename_i e; rw [e]
      · rfl
  · intro k a c
    refine ⟨fun e => (by cases e), fun e he => ?_⟩
    cases he
    refine h.tell hlt rfl (hmt 4 (by rw [k]; rfl)) ?_ (by omega) rfl ?_ rfl rfl ?_
    · intro o g
      rcases g with g | g | g
      · simp [matchB, evK, g]
      · have : o.t ≠ (opN p s t.toNat).t := fun e => g.2 (by rw [e]; exact c)
        simp [matchB, this]
      · simp [matchB, evK, g.1]
    · intro u o hu g
      rcases g with g | g | g
      · exact .inl g
      · refine .inr (.inl ⟨g.1, ?_⟩)
        show upZ s.owner _ _ _ ≠ _
        unfold upZ
        split
        · omega
        · exact g.2
      · exact .inr (.inr g)
    · funext u; show s.has u = upZ s.has _ (s.has _) u; unfold upZ; split
      · rename_i e; rw [e]
      · rfl
  · intro k a c
    refine ⟨fun _ => ?_, fun e he => (by cases he)⟩
    exact h.quiet hlt rfl rfl rfl rfl rfl (.inr (.inl ⟨k, c⟩)) (fun u => by
      rw [show (if (opN p s t.toNat).k = 3 then (opN p s t.toNat).o else 0) = 0 from if_neg (by omega)]
      show s.has u = _
      split
      · rename_i e; rw [e]; omega
      · rfl)
  · intro k a a6 c
    refine ⟨fun e => (by cases e), fun e he => ?_⟩
    cases he
    refine h.tell hlt rfl (hmt 5 (by rw [k]; rfl)) ?_ (by omega) rfl ?_ rfl rfl ?_
    · intro o g
      rcases g with g | g | g
      · simp [matchB, evK, g]
      · simp [matchB, evK, g.1]
      · have : o.t ≠ (opN p s t.toNat).t := fun e => g.2 (by rw [e]; exact ⟨a, c⟩)
        simp [matchB, this]
    · intro u o hu g
      rcases g with g | g | g
      · exact .inl g
      · exact .inr (.inl g)
      · refine .inr (.inr ⟨g.1, fun hh => g.2 ⟨hh.1, ?_⟩⟩)
        have hh2 : upT s.begun (opN p s t.toNat).t.toNat o.t.toNat = false := hh.2
        unfold upT at hh2
        split at hh2
        · cases hh2
        · exact hh2
    · funext u; show s.has u = upZ s.has _ (s.has _) u; unfold upZ; split
      · rename_i e; rw [e]
      · rfl
  · intro k c
    refine ⟨fun _ => ?_, fun e he => (by cases he)⟩
    exact h.quiet hlt rfl rfl rfl rfl rfl (.inr (.inr ⟨k, c⟩)) (fun u => by
      rw [show (if (opN p s t.toNat).k = 3 then (opN p s t.toNat).o else 0) = 0 from if_neg (by omega)]
      show s.has u = _
      split
      · rename_i e; rw [e]; omega
      · rfl)
  · intro k a
    refine ⟨fun e => (by cases e), fun e he => ?_⟩
    cases he
    refine h.tell hlt rfl (hmt 6 (by rw [k]; rfl)) (hno 6 (by decide) (by decide) (by decide)) (by omega) rfl (same _ rfl rfl) rfl rfl ?_
    funext u; show s.has u = upZ s.has _ (s.has _) u; unfold upZ; split
    · rename_i e; rw [e]
    · rfl
  · intro k a
    refine ⟨fun e => (by cases e), fun e he => ?_⟩
    cases he
    exact h.tell hlt rfl (hmt 7 (by rw [k]; rfl)) (hno 7 (by decide) (by decide) (by decide)) (by omega) rfl (same _ rfl rfl) rfl rfl rfl
  · intro k a
    refine ⟨fun e => (by cases e), fun e he => ?_⟩
    cases he
    refine h.tell hlt rfl (hmt 8 (by rw [k]; rfl)) (hno 8 (by decide) (by decide) (by decide)) (by omega) rfl (same _ rfl rfl) rfl rfl ?_
    funext u; show s.has u = upZ s.has _ (s.has _) u; unfold upZ; split
    · rename_i e; rw [e]
    · rfl
theorem InvR.first (p : List (List Ev)) : InvR p PS.first RS.first := ⟨fun _ => rfl, fun _ => rfl, fun _ => Nat.le_refl _, fun t i _ h => absurd h (Nat.not_lt_zero _), fun t => by simp [PS.first, RS.first, addsF]⟩
theorem replay_snoc (p : List (List Ev)) (l : List Ev) (e : Ev) : replay p (l ++ [e]) = rstep p (replay p l) e := by simp [replay]
theorem runP_replay {p : List (List Ev)} (hp : OkP p) (picks : List Int) : InvR p (runP p picks).1 (replay p (runP p picks).2) := by
  refine (run_ind hp (Q := fun r => InvR p r.1 (replay p r.2)) (InvR.first p) ?_ picks).2
  intro r t hI h hc
  obtain ⟨h1, h2⟩ := InvR.step hp hI h hc
  cases he : (stepP p r.1 t.toNat).2 with
  | none =>
    simp only [Option.toList_none, List.append_nil]
    exact h1 he
  | some e =>
    simp only [Option.toList_some, replay_snoc]
    exact h2 e he
end

section
theorem doOp_thread {p : List (List Ev)} {s : PS} {t : Nat} {o e : Ev} (h : (doOp p s t o).2 = some e) : e.t = t := by
  unfold doOp at h
  (repeat' split at h) <;> first | (cases h; done) | (simp only [Option.some.injEq] at h; subst h; rfl)
/-- What the law asks of each event. -/
def OrdR (p : List (List Ev)) (l : List Ev) : Prop :=
  ∀ j (h : j < l.length), 0 ≤ l[j].t ∧ l[j].t < p.length ∧ findF (opsP p l[j].t.toNat) l[j] ((replay p (l.take j)).at_ l[j].t.toNat) < plen p l[j].t.toNat
theorem runP_order {p : List (List Ev)} (hp : OkP p) (picks : List Int) : OrdR p (runP p picks).2 := by
  refine (run_ind hp (Q := fun r => InvR p r.1 (replay p r.2) ∧ OrdR p r.2) ⟨InvR.first p, fun j h => absurd h (Nat.not_lt_zero _)⟩ ?_ picks).2.2
  intro r t hI ⟨h, hO⟩ hc
  obtain ⟨h1, h2⟩ := InvR.step hp hI h hc
  have hn := canB_next hc
  have hI' := hI.step hp hn
  obtain ⟨t0, t1, _, _⟩ := nextB_iff.1 hn
  cases he : (stepP p r.1 t.toNat).2 with
  | none =>
    simp only [Option.toList_none, List.append_nil]
    exact ⟨h1 he, hO⟩
  | some e =>
    simp only [Option.toList_some, replay_snoc]
    refine ⟨h2 e he, fun j hj => ?_⟩
    by_cases hlt : j < r.2.length
    · have := hO j hlt
      rw [List.getElem_append_left hlt, List.take_append_of_le_length (Nat.le_of_lt hlt)]
      exact this
    · have hje : j = r.2.length := by simp at hj; omega
      subst hje
      have ht : e.t = (t.toNat : Int) := doOp_thread he
      have e1 : e.t.toNat = t.toNat := by omega
      simp only [List.getElem_concat_length, List.take_left']
      refine ⟨by omega, by omega, ?_⟩
      have hle := (h2 e he).le e.t.toNat
      have hat : (rstep p (replay p r.2) e).at_ e.t.toNat = findF (opsP p e.t.toNat) e ((replay p r.2).at_ e.t.toNat) + 1 := by
        show upN _ _ _ _ = _
        rw [upN_same]
      rw [hat] at hle
      have := hI'.at_le e.t.toNat
      omega
theorem rstep_at (p : List (List Ev)) (r : RS) (x : Ev) : (rstep p r x).at_ = upN r.at_ x.t.toNat (findF (opsP p x.t.toNat) x (r.at_ x.t.toNat) + 1) := rfl
theorem replay_le {p : List (List Ev)} {l : List Ev} (h : OrdR p l) : ∀ j, j ≤ l.length → ∀ t, (replay p (l.take j)).at_ t ≤ plen p t := by
  intro j
  induction j with
  | zero => intro _ t; simp [replay, RS.first]
  | succ j ih =>
    intro hj t
    have hlt : j < l.length := by omega
    rw [List.take_succ_eq_append_getElem hlt, replay_snoc, rstep_at]
    obtain ⟨_, _, h3⟩ := h j hlt
    by_cases e : t = l[j].t.toNat
    · subst e; rw [upN_same]; omega
    · rw [upN_ne e]; exact ih (by omega) t
theorem findF_ge (z : List Ev) (x : Ev) (i : Nat) : i ≤ findF z x i := Nat.le_add_right _ _
theorem findF_lo {z : List Ev} {x : Ev} {i m : Nat} (h1 : i ≤ m) (h2 : m < findF z x i) (hm : m < z.length) : matchB z[m] x = false := by
  unfold findF at h2
  have h3 : m - i < (z.drop i).findIdx (matchB · x) := by omega
  have := List.not_of_lt_findIdx h3
  have e : (z.drop i)[m - i]'(by simp; omega) = z[m] := by rw [List.getElem_drop]; congr 1; omega
  rw [e] at this
  simpa using this
theorem findF_hi {z : List Ev} {x : Ev} {i : Nat} (h : findF z x i < z.length) : matchB z[findF z x i] x = true := by
  have hlt : (z.drop i).findIdx (matchB · x) < (z.drop i).length := by unfold findF at h; simp; omega
  have := List.findIdx_getElem (w := hlt)
  rw [List.getElem_drop] at this
  exact this
end

section
def heldU (f : Int → Bool) (k : Int) (b : Bool) : Int → Bool := fun i => if i = k then b else f i
def oneW (f : (Int → Bool) × Bool) (o : Ev) : Bool := f.2 || (o.k == 7) || ((o.k == 4) && f.1 o.t)
def oneH (f : (Int → Bool) × Bool) (o : Ev) : Int → Bool := if o.k = 4 ∨ o.k = 5 then heldU f.1 o.t (o.k == 4) else f.1
def oneS (f : (Int → Bool) × Bool) (o : Ev) : (Int → Bool) × Bool := (oneH f o, oneW f o)
def oneF (z : List Ev) : (Int → Bool) × Bool := z.foldl oneS (fun _ => false, false)
theorem oneF_snoc (z : List Ev) (o : Ev) : oneF (z ++ [o]) = oneS (oneF z) o := by simp [oneF]
structure OneI (z : List Ev) (i : Nat) (s : PS) (f : (Int → Bool) × Bool) : Prop where
  go : f.2 = false → s.at_ 0 = i ∧ (∀ u, s.begun u = (u == 0)) ∧ ∀ o : Nat, s.owner o = if f.1 (o : Int) = true then 1 else 0
  no : f.2 = true → nextB [z] s 0 = true ∧ canB [z] s 0 = false
theorem plen_one (z : List Ev) : plen [z] 0 = z.length := rfl
theorem opA_one {z : List Ev} {i : Nat} (h : i < z.length) : opA [z] 0 i = z[i] := by
  show z.getD i _ = _
  rw [List.getD_eq_getElem?_getD, List.getElem?_eq_getElem h]; rfl
theorem OneI.pick {z : List Ev} {i : Nat} {r : PS × List Ev} {f : (Int → Bool) × Bool} (hp : OkP [z]) (hi : i < z.length) (h : OneI z i r.1 f) : OneI z (i + 1) (pickP [z] r 0).1 (oneS f z[i]) := by
  cases hf : f.2
  · obtain ⟨ha, hbg, hown⟩ := h.go hf
    have hn : nextB [z] r.1 0 = true := nextB_iff.2 ⟨by omega, by simp, by rw [hbg]; rfl, by show r.1.at_ 0 ≠ plen [z] 0; rw [ha, plen_one]; omega⟩
    have hop : opN [z] r.1 (0 : Int).toNat = z[i] := by
      show opA [z] 0 (r.1.at_ 0) = _
      rw [ha]; exact opA_one hi
    have hb : badOp z[i] = false := hp.op z (by simp) _ (List.getElem_mem hi)
    obtain ⟨b1, b2, _, _⟩ := bad_iff.1 hb
    by_cases k7 : z[i].k = 7
    · have hc : canB [z] r.1 0 = false := by
        unfold canB
        rw [hn, hop, if_neg (by omega), if_pos k7]
        by_cases e : z[i].t = 0
        · simp [e]
        · have : ¬ z[i].t < (([z] : List (List Ev)).length : Int) := by simp; omega
          rw [decide_eq_false this]; rfl
      rw [pickP_no hc]
      have hw : oneW f z[i] = true := by simp [oneW, k7]
      exact ⟨fun h => (by rw [show (oneS f z[i]).2 = oneW f z[i] from rfl, hw] at h; cases h), fun _ => ⟨hn, hc⟩⟩
    by_cases k4 : z[i].k = 4
    · obtain ⟨q, hq⟩ := Int.eq_ofNat_of_zero_le b1
      have hoq : r.1.owner z[i].t.toNat = if f.1 z[i].t = true then 1 else 0 := by rw [hq, Int.toNat_natCast]; exact hown q
      have hcan : canB [z] r.1 0 = !(f.1 z[i].t) := by
        unfold canB
        rw [hn, hop, if_pos k4, hoq]
        cases f.1 z[i].t <;> rfl
      cases hh : f.1 z[i].t
      · have hc : canB [z] r.1 0 = true := by rw [hcan, hh]; rfl
        rw [pickP_yes hc]
        have hw : oneW f z[i] = false := by simp [oneW, hf, k4, hh]
        refine ⟨fun _ => ?_, fun h => (by rw [show (oneS f z[i]).2 = oneW f z[i] from rfl, hw] at h; cases h)⟩
        unfold stepP
        rw [hop, do4 k4]
        refine ⟨by show upN r.1.at_ 0 (r.1.at_ 0 + 1) 0 = _; simp [upN, ha], hbg, fun o => ?_⟩
        show upZ r.1.owner z[i].t.toNat _ o = if oneH f z[i] o = true then 1 else 0
        unfold upZ oneH heldU
        rw [if_pos (Or.inl k4)]
        by_cases e : o = z[i].t.toNat
        · rw [if_pos e, if_pos (show (o : Int) = z[i].t by omega), k4]; rfl
        · rw [if_neg e, if_neg (show ¬ (o : Int) = z[i].t by omega)]; exact hown o
      · have hc : canB [z] r.1 0 = false := by rw [hcan, hh]; rfl
        rw [pickP_no hc]
        have hw : oneW f z[i] = true := by simp [oneW, k4, hh]
        exact ⟨fun h => (by rw [show (oneS f z[i]).2 = oneW f z[i] from rfl, hw] at h; cases h), fun _ => ⟨hn, hc⟩⟩
    have hc : canB [z] r.1 0 = true := by
      unfold canB
      rw [hn, hop, if_neg k4, if_neg k7]; rfl
    rw [pickP_yes hc]
    have hw : oneW f z[i] = false := by simp [oneW, hf, k4, k7]
    refine ⟨fun _ => ?_, fun h => (by rw [show (oneS f z[i]).2 = oneW f z[i] from rfl, hw] at h; cases h)⟩
    have hat : upN r.1.at_ 0 (r.1.at_ 0 + 1) 0 = i + 1 := by simp [upN, ha]
    unfold stepP
    rw [hop]
    by_cases k5 : z[i].k = 5
    · have hH : oneH f z[i] = heldU f.1 z[i].t false := by unfold oneH; rw [if_pos (Or.inr k5), k5]; rfl
      by_cases c : (tick r.1 (0 : Int).toNat).owner z[i].t.toNat = ((0 : Int).toNat : Int) + 1
      · rw [do5y k5 c]
        refine ⟨hat, hbg, fun o => ?_⟩
        show upZ r.1.owner z[i].t.toNat 0 o = if oneH f z[i] o = true then 1 else 0
        rw [hH]
        unfold upZ heldU
        by_cases e : o = z[i].t.toNat
        · rw [if_pos e, if_pos (show (o : Int) = z[i].t by omega)]; rfl
        · rw [if_neg e, if_neg (show ¬ (o : Int) = z[i].t by omega)]; exact hown o
      · rw [do5n k5 c]
        refine ⟨hat, hbg, fun o => ?_⟩
        show r.1.owner o = if oneH f z[i] o = true then 1 else 0
        rw [hH]
        unfold heldU
        by_cases e : o = z[i].t.toNat
        · rw [if_pos (show (o : Int) = z[i].t by omega)]
          have c' : ¬ r.1.owner z[i].t.toNat = 1 := c
          have := hown o
          rw [e] at this ⊢
          rw [this] at c' ⊢
          split at c'
          · exact absurd rfl c'
          · rename_i h; rw [if_neg h]; rfl
        · rw [if_neg (show ¬ (o : Int) = z[i].t by omega)]; exact hown o
    · have hH : oneH f z[i] = f.1 := by unfold oneH; rw [if_neg (by omega)]
      have same : ∀ (s' : PS), s'.at_ = upN r.1.at_ 0 (r.1.at_ 0 + 1) → s'.begun = r.1.begun → s'.owner = r.1.owner → s'.at_ 0 = i + 1 ∧ (∀ u, s'.begun u = (u == 0)) ∧ ∀ o : Nat, s'.owner o = if (oneS f z[i]).1 (o : Int) = true then 1 else 0 := by
        intro s' e1 e2 e3
        refine ⟨by rw [e1]; exact hat, fun u => by rw [e2]; exact hbg u, fun o => ?_⟩
        rw [e3]
        show _ = if oneH f z[i] o = true then 1 else 0
        rw [hH]; exact hown o
      refine op_ways (p := [z]) (s := tick r.1 (0 : Int).toNat) (t := (0 : Int).toNat) (Q := fun q => q.1.at_ 0 = i + 1 ∧ (∀ u, q.1.begun u = (u == 0)) ∧ ∀ o : Nat, q.1.owner o = if (oneS f z[i]).1 (o : Int) = true then 1 else 0) hb ?_ ?_ ?_ ?_ ?_ ?_ ?_ ?_ ?_ ?_ ?_
      · intro _ _; exact same _ rfl rfl rfl
      · intro _ _; exact same _ rfl rfl rfl
      · intro _ _ _; exact same _ rfl rfl rfl
      · intro k; exact absurd k k4
      · intro k; exact absurd k k5
      · intro k; exact absurd k k5
      · intro k c1 _ c2
        exfalso
        have hz : z[i].t < 1 := by simpa using c1
        have e0 : z[i].t = 0 := by omega
        have : (tick r.1 (0 : Int).toNat).begun z[i].t.toNat = true := by rw [e0]; show r.1.begun 0 = true; rw [hbg]; rfl
        rw [this] at c2; cases c2
      · intro _ _; exact same _ rfl rfl rfl
      · intro k; exact absurd k k7
      · intro _ _; exact same _ rfl rfl rfl
      · intro _ _; exact same _ rfl rfl rfl
  · obtain ⟨hn, hc⟩ := h.no hf
    rw [pickP_no hc]
    have hw : oneW f z[i] = true := by simp [oneW, hf]
    exact ⟨fun h => (by rw [show (oneS f z[i]).2 = oneW f z[i] from rfl, hw] at h; cases h), fun _ => ⟨hn, hc⟩⟩
theorem one_all {z : List Ev} (hp : OkP [z]) : ∀ i, i ≤ z.length → OneI z i (runP [z] (List.replicate i 0)).1 (oneF (z.take i))
  | 0, _ => ⟨fun _ => ⟨rfl, fun _ => rfl, fun _ => rfl⟩, fun h => by simp [oneF] at h⟩
  | i + 1, h => by
    rw [List.replicate_succ', runP_snoc, List.take_succ_eq_append_getElem (by omega), oneF_snoc]
    exact (one_all hp i (by omega)).pick hp (by omega)
theorem one_end {z : List Ev} (hp : OkP [z]) : doneB [z] (runP [z] (List.replicate z.length 0)).1 = !(oneF z).2 ∧ stuckB [z] (runP [z] (List.replicate z.length 0)).1 = (oneF z).2 := by
  have h := one_all hp z.length (Nat.le_refl _)
  rw [List.take_length] at h
  generalize (runP [z] (List.replicate z.length 0)).1 = s at *
  have hd : doneB [z] s = !(nextB [z] s 0) := by simp [doneB, List.range_succ]
  have hs : stuckB [z] s = (!(canB [z] s 0) && !(doneB [z] s)) := by simp [stuckB, List.range_succ]
  rw [hs, hd]
  cases hf : (oneF z).2
  · obtain ⟨ha, _, _⟩ := h.go hf
    have hn : nextB [z] s 0 = false := by
      cases c : nextB [z] s 0
      · rfl
      · have := (nextB_iff.1 c).2.2.2
        exact absurd ha this
    have hc : canB [z] s 0 = false := by
      cases c : canB [z] s 0
      · rfl
      · rw [canB_next c] at hn; cases hn
    simp [hn, hc]
  · obtain ⟨hn, hc⟩ := h.no hf
    simp [hn, hc]
end

section
def opsF (ns : List Int) (i : Nat) : Ev := if i % 2 = 0 then ⟨3, 0, ns.getD (i / 2) 0⟩ else ⟨2, (i / 2 : Nat), 0⟩
def opsK (ns : List Int) (k : Nat) : List Ev := (List.range (2 * k)).map (opsF ns)
theorem opsK_len (ns : List Int) (k : Nat) : (opsK ns k).length = 2 * k := by simp [opsK]
theorem opsK_succ (ns : List Int) (k : Nat) : opsK ns (k + 1) = opsK ns k ++ [⟨3, 0, ns.getD k 0⟩, ⟨2, (k : Nat), 0⟩] := by
  unfold opsK
  rw [show 2 * (k + 1) = 2 * k + 1 + 1 by omega, List.range_succ, List.range_succ, List.map_append, List.map_append, List.append_assoc]
  congr 1
  simp only [List.map_cons, List.map_nil, List.cons_append, List.nil_append]
  have h1 : opsF ns (2 * k) = ⟨3, 0, ns.getD k 0⟩ := by unfold opsF; rw [if_pos (by omega), show 2 * k / 2 = k by omega]
  have h2 : opsF ns (2 * k + 1) = ⟨2, (k : Nat), 0⟩ := by unfold opsF; rw [if_neg (by omega), show (2 * k + 1) / 2 = k by omega]
  rw [h1, h2]
theorem opsK_at (ns : List Int) {k i : Nat} (h : i < 2 * k) : (opsK ns k)[i]'(by rw [opsK_len]; exact h) = opsF ns i := by simp [opsK]
/-- The sum of the first k. -/
def sumK (ns : List Int) : Nat → Int
  | 0 => 0
  | k + 1 => sumK ns k + ns.getD k 0
def wantK (ns : List Int) (k i : Nat) : Int := if i < k then sumK ns (i + 1) else 0
theorem wantK_succ (ns : List Int) (k i : Nat) : wantK ns (k + 1) i = if i = k then sumK ns (k + 1) else wantK ns k i := by
  unfold wantK
  by_cases e : i = k
  · subst e; rw [if_pos (by omega), if_pos rfl]
  · rw [if_neg e]
    by_cases h : i < k
    · rw [if_pos (by omega), if_pos h]
    · rw [if_neg (by omega), if_neg h]
def SmallL (ns : List Int) : Prop := ∀ k, -1000 ≤ ns.getD k 0 ∧ ns.getD k 0 ≤ 1000
theorem sumK_le {ns : List Int} (h : SmallL ns) : ∀ k : Nat, -(1000 * (k : Int)) ≤ sumK ns k ∧ sumK ns k ≤ 1000 * (k : Int)
  | 0 => by simp [sumK]
  | k + 1 => by have := sumK_le h k; have := h k; simp only [sumK]; omega
theorem opsK_ok {ns : List Int} (h : SmallL ns) {m : Nat} (hm : m ≤ 6) : OkP [opsK ns m] := by
  refine ⟨by simp, by simp, fun z hz => ?_, fun z hz e he => ?_⟩
  · obtain rfl : z = opsK ns m := by simpa using hz
    rw [opsK_len]; omega
  · obtain rfl : z = opsK ns m := by simpa using hz
    obtain ⟨i, hi, rfl⟩ := List.mem_map.1 he
    have hi : i < 2 * m := List.mem_range.1 hi
    unfold opsF
    have := h (i / 2)
    split
    · exact bad_iff.2 ⟨Int.le_refl _, (show (0 : Int) < boundK 3 by decide), (show -(1000 : Int) ≤ ns.getD (i / 2) 0 from this.1), (show ns.getD (i / 2) 0 ≤ (1000 : Int) from this.2)⟩
    · exact bad_iff.2 ⟨Int.natCast_nonneg _, (show ((i / 2 : Nat) : Int) < 8 by omega), (show -mostK 2 ≤ 0 by decide), (show (0 : Int) ≤ mostK 2 by decide)⟩
theorem ok_chk {p : List (List Ev)} (h : OkP p) : chkP p = 0 := by
  unfold chkP
  rw [if_neg (by have := h.pos; have := h.six; omega), if_neg, if_neg]
  · rw [List.any_eq_true]
    rintro ⟨z, hz, hb⟩
    obtain ⟨e, he, hb⟩ := List.any_eq_true.1 hb
    rw [h.op z hz e he] at hb; cases hb
  · rw [List.any_eq_true]
    rintro ⟨z, hz, hb⟩
    have := h.len z hz
    have := of_decide_eq_true hb
    omega
structure SumI (ns : List Int) (m j : Nat) (r : PS × List Ev) : Prop where
  at_ : r.1.at_ 0 = 2 * j
  begun : r.1.begun 0 = true
  has : r.1.has 0 = sumK ns j
  mem : ∀ i, r.1.mem i = wantK ns j i
  len : r.2.length = j
theorem SumI.step {ns : List Int} {m j : Nat} {r : PS × List Ev} (h : SumI ns m j r) (hj : j < m) : SumI ns m (j + 1) (pickP [opsK ns m] (pickP [opsK ns m] r 0) 0) := by
  have l1 : 2 * j < (opsK ns m).length := by rw [opsK_len]; omega
  have l2 : 2 * j + 1 < (opsK ns m).length := by rw [opsK_len]; omega
  have o1 : opN [opsK ns m] r.1 (0 : Int).toNat = ⟨3, 0, ns.getD j 0⟩ := by
    show opA _ 0 (r.1.at_ 0) = _
    rw [h.at_, opA_one l1, opsK_at ns (by omega)]
    unfold opsF; rw [if_pos (by omega), show 2 * j / 2 = j by omega]
  have c1 : canB [opsK ns m] r.1 0 = true := by
    have hn : nextB [opsK ns m] r.1 0 = true := nextB_iff.2 ⟨by omega, by simp, h.begun, by show r.1.at_ 0 ≠ plen _ 0; rw [h.at_, plen_one, opsK_len]; omega⟩
    unfold canB
    rw [hn, o1, if_neg (by simp), if_neg (by simp)]; rfl
  have s1 : stepP [opsK ns m] r.1 (0 : Int).toNat = ({ tick r.1 0 with has := upZ r.1.has 0 (r.1.has 0 + ns.getD j 0) }, none) := by
    unfold stepP; rw [o1]; exact do3 rfl
  rw [pickP_yes c1, s1]
  generalize hr1 : (({ tick r.1 0 with has := upZ r.1.has 0 (r.1.has 0 + ns.getD j 0) } : PS), r.2 ++ (none : Option Ev).toList) = r1
  have a1 : r1.1.at_ 0 = 2 * j + 1 := by rw [← hr1]; show upN r.1.at_ 0 (r.1.at_ 0 + 1) 0 = _; simp [upN, h.at_]
  have b1 : r1.1.begun 0 = true := by rw [← hr1]; exact h.begun
  have h1 : r1.1.has 0 = sumK ns (j + 1) := by rw [← hr1]; show upZ r.1.has 0 _ 0 = _; simp [upZ, h.has, sumK]
  have m1 : ∀ i, r1.1.mem i = wantK ns j i := by rw [← hr1]; exact h.mem
  have n1 : r1.2.length = j := by rw [← hr1]; simp [h.len]
  have o2 : opN [opsK ns m] r1.1 (0 : Int).toNat = ⟨2, (j : Nat), 0⟩ := by
    show opA _ 0 (r1.1.at_ 0) = _
    rw [a1, opA_one l2, opsK_at ns (by omega)]
    unfold opsF; rw [if_neg (by omega), show (2 * j + 1) / 2 = j by omega]
  have c2 : canB [opsK ns m] r1.1 0 = true := by
    have hn : nextB [opsK ns m] r1.1 0 = true := nextB_iff.2 ⟨by omega, by simp, b1, by show r1.1.at_ 0 ≠ plen _ 0; rw [a1, plen_one, opsK_len]; omega⟩
    unfold canB
    rw [hn, o2, if_neg (by simp), if_neg (by simp)]; rfl
  have s2 : stepP [opsK ns m] r1.1 (0 : Int).toNat = ({ tick r1.1 0 with mem := upZ r1.1.mem j (r1.1.has 0) }, some ⟨2, 0, j⟩) := by
    unfold stepP; rw [o2, do2 rfl]; rfl
  rw [pickP_yes c2, s2]
  refine ⟨?_, b1, h1, fun i => ?_, ?_⟩
  · show upN r1.1.at_ 0 (r1.1.at_ 0 + 1) 0 = _; simp [upN, a1]; omega
  · show upZ r1.1.mem j (r1.1.has 0) i = _
    rw [wantK_succ, h1]
    unfold upZ
    split
    · rfl
    · exact m1 i
  · simp [n1]
theorem sums_run {ns : List Int} {m : Nat} : ∀ j, j ≤ m → SumI ns m j (runP [opsK ns m] (List.replicate (2 * j) 0))
  | 0, _ => ⟨rfl, rfl, rfl, fun i => by simp [wantK, runP, PS.first], rfl⟩
  | j + 1, h => by
    rw [show 2 * (j + 1) = 2 * j + 1 + 1 by omega, List.replicate_succ', runP_snoc, List.replicate_succ', runP_snoc]
    exact (sums_run j (by omega)).step (by omega)
/-- What Run says of it. -/
theorem sums_end {ns : List Int} (hs : SmallL ns) {m : Nat} (hm : m ≤ 6) :
    errR [opsK ns m] (2 * m) = 0 ∧ (evR [opsK ns m] (List.replicate (2 * m) 0)).length = m ∧ (∀ i, i < 8 → (endR [opsK ns m] (List.replicate (2 * m) 0))[i]? = some (.int .i64 (wantK ns m i))) ∧
    (endR [opsK ns m] (List.replicate (2 * m) 0))[12]? = some (.int .i64 (sumK ns m)) ∧ (endR [opsK ns m] (List.replicate (2 * m) 0))[18]? = some (.bool true) := by
  have hp := opsK_ok hs hm
  have he : errR [opsK ns m] (2 * m) = 0 := by unfold errR; rw [if_pos (ok_chk hp), if_neg (by omega)]
  have h := sums_run (ns := ns) (m := m) m (Nat.le_refl _)
  have hE : endR [opsK ns m] (List.replicate (2 * m) 0) = endC (runP [opsK ns m] (List.replicate (2 * m) 0)).1 (doneB [opsK ns m] (runP [opsK ns m] (List.replicate (2 * m) 0)).1) (stuckB [opsK ns m] (runP [opsK ns m] (List.replicate (2 * m) 0)).1) := by
    unfold endR; rw [List.length_replicate, if_pos he]
  have hV : evR [opsK ns m] (List.replicate (2 * m) 0) = (runP [opsK ns m] (List.replicate (2 * m) 0)).2 := by unfold evR; rw [List.length_replicate, if_pos he]
  have hd : doneB [opsK ns m] (runP [opsK ns m] (List.replicate (2 * m) 0)).1 = true := by
    have e1 : doneB [opsK ns m] (runP [opsK ns m] (List.replicate (2 * m) 0)).1 = !(nextB [opsK ns m] (runP [opsK ns m] (List.replicate (2 * m) 0)).1 0) := by simp [doneB, List.range_succ]
    rw [e1]
    cases c : nextB [opsK ns m] (runP [opsK ns m] (List.replicate (2 * m) 0)).1 0
    · rfl
    · have h2 : (runP [opsK ns m] (List.replicate (2 * m) 0)).1.at_ 0 ≠ plen [opsK ns m] 0 := (nextB_iff.1 c).2.2.2
      rw [plen_one, opsK_len] at h2
      exact absurd h.at_ h2
  rw [hE, hV]
  refine ⟨he, h.len, fun i hi => ?_, ?_, ?_⟩
  · rw [endC_get _ _ _ (by omega)]; unfold psF; rw [if_pos hi, h.mem]
  · rw [endC_get _ _ _ (by omega)]
    show some (Value.int .i64 ((runP [opsK ns m] (List.replicate (2 * m) 0)).1.has 0)) = _
    rw [h.has]
  · rw [endC_get _ _ _ (by omega), hd]; rfl
end

section
theorem doOp_owner (p : List (List Ev)) (s : PS) (t : Nat) (o : Ev) (L : Nat) :
    (doOp p s t o).1.owner L = if o.k = 4 ∧ L = o.t.toNat then (t : Int) + 1 else if o.k = 5 ∧ L = o.t.toNat ∧ s.owner L = t + 1 then 0 else s.owner L := by
  by_cases k4 : o.k = 4
  · rw [do4 k4]
    show upZ s.owner o.t.toNat _ L = _
    unfold upZ
    by_cases e : L = o.t.toNat
    · rw [if_pos e, if_pos ⟨k4, e⟩]
    · rw [if_neg e, if_neg (fun h => e h.2), if_neg (fun h => e h.2.1)]
  · rw [if_neg (fun h => k4 h.1)]
    by_cases k5 : o.k = 5
    · by_cases c : s.owner o.t.toNat = t + 1
      · rw [do5y k5 c]
        show upZ s.owner o.t.toNat _ L = _
        unfold upZ
        by_cases e : L = o.t.toNat
        · rw [if_pos e, if_pos ⟨k5, e, by rw [e]; exact c⟩]
        · rw [if_neg e, if_neg (fun h => e h.2.1)]
      · rw [do5n k5 c, if_neg (fun h => c (by rw [← h.2.1]; exact h.2.2))]
    · rw [if_neg (fun h => k5 h.1)]
      unfold doOp
      rw [if_neg k4, if_neg k5]
      (repeat' split) <;> rfl
theorem doOp_acc {p : List (List Ev)} {s : PS} {t : Nat} {o e : Ev} (h : (doOp p s t o).2 = some e) (hk : e.k = 1 ∨ e.k = 2) : o.k = 1 ∨ o.k = 2 := by
  unfold doOp at h
  by_cases k1 : o.k = 1
  · exact .inl k1
  by_cases k2 : o.k = 2
  · exact .inr k2
  exfalso
  rw [if_neg k1, if_neg k2] at h
  (repeat' split at h) <;> first | (cases h; done) | (simp only [Option.some.injEq] at h; subst h; rcases hk with hk | hk <;> simp at hk)
/-- By its text a thread has a lock ahead of its op i. -/
def HeldOp (p : List (List Ev)) (t i L : Nat) : Prop := ∃ j, j < i ∧ (opA p t j).k = 4 ∧ (opA p t j).t.toNat = L ∧ ∀ k, j < k → k < i → ¬ ((opA p t k).k = 5 ∧ (opA p t k).t.toNat = L)
def LockH (p : List (List Ev)) (s : PS) : Prop := ∀ t L, HeldOp p t (s.at_ t) L → s.owner L = (t : Int) + 1
theorem LockH.first (p : List (List Ev)) : LockH p PS.first := fun t L h => by
  obtain ⟨j, hj, _⟩ := h
  exact absurd hj (Nat.not_lt_zero _)
theorem LockH.step {p : List (List Ev)} {s : PS} {t : Int} (h : LockH p s) (hc : canB p s t = true) : LockH p (stepP p s t.toNat).1 := by
  intro v L hv
  unfold stepP at hv ⊢
  rw [doOp_at] at hv
  rw [doOp_owner]
  have hv : HeldOp p v (upN s.at_ t.toNat (s.at_ t.toNat + 1) v) L := hv
  show (if (opN p s t.toNat).k = 4 ∧ L = (opN p s t.toNat).t.toNat then (t.toNat : Int) + 1 else if (opN p s t.toNat).k = 5 ∧ L = (opN p s t.toNat).t.toNat ∧ s.owner L = t.toNat + 1 then 0 else s.owner L) = _
  by_cases e : v = t.toNat
  · subst e
    rw [upN_same] at hv
    by_cases c : (opN p s t.toNat).k = 4 ∧ L = (opN p s t.toNat).t.toNat
    · rw [if_pos c]
    · rw [if_neg c]
      obtain ⟨j, hj, h4, hL, hno⟩ := hv
      have hji : j < s.at_ t.toNat := by
        by_cases e2 : j = s.at_ t.toNat
        · subst e2; exact absurd ⟨h4, hL.symm⟩ c
        · omega
      have hn : ¬ ((opN p s t.toNat).k = 5 ∧ L = (opN p s t.toNat).t.toNat ∧ s.owner L = t.toNat + 1) := fun c2 => hno (s.at_ t.toNat) hji (Nat.lt_succ_self _) ⟨c2.1, c2.2.1.symm⟩
      rw [if_neg hn]
      exact h _ _ ⟨j, hji, h4, hL, fun k h1 h2 => hno k h1 (by omega)⟩
  · rw [upN_ne e] at hv
    have ho := h _ _ hv
    by_cases c : (opN p s t.toNat).k = 4 ∧ L = (opN p s t.toNat).t.toNat
    · have := canB_lock hc c.1
      rw [← c.2, ho] at this
      omega
    · rw [if_neg c, if_neg (fun c2 => by have := c2.2.2; rw [ho] at this; omega)]
      exact ho
/-- It has the lock at each access. -/
def GAcc (p : List (List Ev)) (L : Nat) : Prop := ∀ t i, i < plen p t → (opA p t i).k = 1 ∨ (opA p t i).k = 2 → HeldOp p t i L
def HasL (l : List Ev) (L : Nat) : Prop := ∀ j, j < l.length → (evAt l j).k = 1 ∨ (evAt l j).k = 2 → (stAt l j).owner L = (evAt l j).t + 1
theorem stAt_front (l m : List Ev) {j : Nat} (h : j ≤ l.length) : stAt (l ++ m) j = stAt l j := by
  unfold stAt stFrom
  rw [List.take_append_of_le_length h]
theorem runP_held {p : List (List Ev)} (hp : OkP p) {L : Nat} (hg : GAcc p L) (picks : List Int) : HasL (runP p picks).2 L := by
  refine (run_ind hp (Q := fun r => Valid p r ∧ LockH p r.1 ∧ HasL r.2 L) ⟨⟨rfl, Agree.first p, Nat.zero_le _⟩, LockH.first p, fun j h => absurd h (Nat.not_lt_zero _)⟩ ?_ picks).2.2.2
  intro r t hI ⟨hV, hLk, hH⟩ hc
  have hn := canB_next hc
  obtain ⟨t0, t1, _, _⟩ := nextB_iff.1 hn
  have hat := nextB_at hI hn
  obtain ⟨h1, h2⟩ := hV.agree.step hp hI hc
  have h6 := hp.six
  have hs := sumA_step p r.1 (t := t.toNat) (by omega)
  cases he : (stepP p r.1 t.toNat).2 with
  | none =>
    simp only [Option.toList_none, List.append_nil]
    exact ⟨⟨hV.ok, h1 he, by have := hV.len; show r.2.length ≤ sumA (stepP p r.1 t.toNat).1; omega⟩, hLk.step hc, hH⟩
  | some e =>
    obtain ⟨g1, g2⟩ := h2 e he
    have hq := playL_snoc hV.ok g1
    simp only [Option.toList_some]
    refine ⟨⟨by show (playL St.first 0 (r.2 ++ [e])).2.2 = 0; rw [hq], by show Agree p _ (playL St.first 0 (r.2 ++ [e])).1; rw [hq]; exact g2, by have := hV.len; show (r.2 ++ [e]).length ≤ sumA (stepP p r.1 t.toNat).1; simp; omega⟩, hLk.step hc, ?_⟩
    intro j hj hk
    by_cases hlt : j < r.2.length
    · have e1 : evAt (r.2 ++ [e]) j = evAt r.2 j := by rw [evAt_lt hj, evAt_lt hlt, List.getElem_append_left hlt]
      rw [e1] at hk ⊢
      rw [stAt_front _ _ (Nat.le_of_lt hlt)]
      exact hH j hlt hk
    · have hje : j = r.2.length := by simp at hj; omega
      subst hje
      have e1 : evAt (r.2 ++ [e]) r.2.length = e := by rw [evAt_lt hj]; simp
      rw [e1] at hk ⊢
      rw [stAt_front _ _ (Nat.le_refl _)]
      show (stFrom St.first r.2 r.2.length).owner L = _
      rw [← (playL_at r.2 St.first 0 hV.ok).2, hV.agree.owner]
      have ht : e.t = (t.toNat : Int) := doOp_thread he
      rw [ht]
      exact hLk _ _ (hg _ _ hat (doOp_acc he hk))
end

section
/-- The ops of one that adds n; the forks. -/
def addT (n : Int) : List Ev := [⟨4, 2, 0⟩, ⟨1, 0, 0⟩, ⟨3, 0, n⟩, ⟨2, 0, 0⟩, ⟨5, 2, 0⟩]
def frkT (m : Nat) : List Ev := (List.range m).map fun i => ⟨6, ((i + 1 : Nat) : Int), 0⟩
def adP (ns : List Int) : List (List Ev) := frkT ns.length :: ns.map addT
theorem adP_len (ns : List Int) : (adP ns).length = ns.length + 1 := by simp [adP]
theorem adP_zero (ns : List Int) : opsP (adP ns) 0 = frkT ns.length := rfl
theorem adP_succ {ns : List Int} {t : Nat} (h : t < ns.length) : opsP (adP ns) (t + 1) = addT (ns.getD t 0) := by
  unfold opsP adP
  rw [List.getD_eq_getElem?_getD, List.getElem?_cons_succ, List.getElem?_map, List.getElem?_eq_getElem h]
  simp [List.getD_eq_getElem?_getD, h]
theorem plen_zero (ns : List Int) : plen (adP ns) 0 = ns.length := by rw [← opsP_len, adP_zero]; simp [frkT]
theorem plen_succ {ns : List Int} {t : Nat} (h : t < ns.length) : plen (adP ns) (t + 1) = 5 := by rw [← opsP_len, adP_succ h]; rfl
theorem op_zero {ns : List Int} {i : Nat} (h : i < ns.length) : opA (adP ns) 0 i = ⟨6, ((i + 1 : Nat) : Int), 0⟩ := by
  show (opsP (adP ns) 0).getD i _ = _
  rw [adP_zero]
  simp [frkT, List.getD_eq_getElem?_getD, h]
theorem op_succ {ns : List Int} {t : Nat} (h : t < ns.length) (i : Nat) : opA (adP ns) (t + 1) i = (addT (ns.getD t 0)).getD i ⟨0, 0, 0⟩ := by
  show (opsP (adP ns) (t + 1)).getD i _ = _
  rw [adP_succ h]
theorem thread_ways {ns : List Int} {t : Nat} (h : t < (adP ns).length) : t = 0 ∨ ∃ u, u < ns.length ∧ t = u + 1 := by
  rw [adP_len] at h
  cases t with
  | zero => exact .inl rfl
  | succ u => exact .inr ⟨u, by omega, rfl⟩
def Small100 (ns : List Int) : Prop := ∀ t, t < ns.length → 1 ≤ ns.getD t 0 ∧ ns.getD t 0 ≤ 100
theorem adP_ok {ns : List Int} (h : Small100 ns) (hl : ns.length ≤ 5) : OkP (adP ns) := by
  refine ⟨by rw [adP_len]; omega, by rw [adP_len]; omega, fun z hz => ?_, fun z hz e he => ?_⟩
  · rcases List.mem_cons.1 hz with rfl | hz
    · simp [frkT]; omega
    · obtain ⟨n, _, rfl⟩ := List.mem_map.1 hz
      show 5 ≤ 12
      decide
  · rcases List.mem_cons.1 hz with rfl | hz
    · obtain ⟨i, hi, rfl⟩ := List.mem_map.1 he
      have hi := List.mem_range.1 hi
      exact bad_iff.2 ⟨(show (0 : Int) ≤ ((i + 1 : Nat) : Int) by omega), (show ((i + 1 : Nat) : Int) < 6 by omega), (show -mostK 6 ≤ 0 by decide), (show (0 : Int) ≤ mostK 6 by decide)⟩
    · obtain ⟨n, hn, rfl⟩ := List.mem_map.1 hz
      obtain ⟨t, ht, rfl⟩ := List.mem_iff_getElem.1 hn
      have := h t ht
      rw [List.getD_eq_getElem?_getD, List.getElem?_eq_getElem ht] at this
      simp only [Option.getD_some] at this
      simp only [addT, List.mem_cons, List.not_mem_nil, or_false] at he
      rcases he with rfl | rfl | rfl | rfl | rfl
      · decide
      · decide
      · exact bad_iff.2 ⟨Int.le_refl _, (show (0 : Int) < boundK 3 by decide), (show -(1000 : Int) ≤ ns[t] by omega), (show ns[t] ≤ (1000 : Int) by omega)⟩
      · decide
      · decide
/-- Lock 2 is had at each access. -/
theorem adP_held {ns : List Int} {t i : Nat} (ht : t < ns.length) (h1 : 1 ≤ i) (h2 : i ≤ 4) : HeldOp (adP ns) (t + 1) i 2 := by
  refine ⟨0, by omega, ?_, ?_, ?_⟩
  · rw [op_succ ht]; rfl
  · rw [op_succ ht]; rfl
  · intro k hk hki
    rw [op_succ ht]
    rcases (by omega : k = 1 ∨ k = 2 ∨ k = 3) with rfl | rfl | rfl
    · rintro ⟨c, _⟩; exact absurd c (by show ¬ (1 : Int) = 5; decide)
    · rintro ⟨c, _⟩; exact absurd c (by show ¬ (3 : Int) = 5; decide)
    · rintro ⟨c, _⟩; exact absurd c (by show ¬ (2 : Int) = 5; decide)
theorem adP_acc {ns : List Int} : GAcc (adP ns) 2 := by
  intro t i hi hk
  have htl : t < (adP ns).length := (opA_mem hi).1
  rcases thread_ways htl with rfl | ⟨u, hu, rfl⟩
  · rw [plen_zero] at hi
    rw [op_zero hi] at hk
    rcases hk with hk | hk <;> exact absurd hk (by show ¬ (6 : Int) = _; decide)
  · rw [plen_succ hu] at hi
    rw [op_succ hu] at hk
    rcases (by omega : i = 0 ∨ i = 1 ∨ i = 2 ∨ i = 3 ∨ i = 4) with rfl | rfl | rfl | rfl | rfl
    · exact absurd hk (by show ¬ ((4 : Int) = 1 ∨ (4 : Int) = 2); decide)
    · exact adP_held hu (by omega) (by omega)
    · exact absurd hk (by show ¬ ((3 : Int) = 1 ∨ (3 : Int) = 2); decide)
    · exact adP_held hu (by omega) (by omega)
    · exact absurd hk (by show ¬ ((5 : Int) = 1 ∨ (5 : Int) = 2); decide)
/-! The numbers. -/
def sumF (f : Nat → Int) : Nat → Int
  | 0 => 0
  | m + 1 => sumF f m + f m
theorem sumF_congr {f g : Nat → Int} : ∀ {m : Nat}, (∀ i, i < m → f i = g i) → sumF f m = sumF g m
  | 0, _ => rfl
  | m + 1, h => by simp only [sumF]; rw [sumF_congr (fun i hi => h i (by omega)), h m (by omega)]
theorem sumF_upd {f g : Nat → Int} {t : Nat} : ∀ {m : Nat}, t < m → (∀ i, i ≠ t → f i = g i) → sumF f m = sumF g m - g t + f t
  | 0, h, _ => absurd h (Nat.not_lt_zero _)
  | m + 1, h, hh => by
    simp only [sumF]
    by_cases e : t = m
    · subst e
      rw [sumF_congr (f := f) (g := g) (fun i hi => hh i (by omega))]; omega
    · rw [sumF_upd (by omega) hh, hh m (fun h => e h.symm)]; omega
/-- What thread t has given so far. -/
def gaveF (ns : List Int) (s : PS) (t : Nat) : Int := if 4 ≤ s.at_ (t + 1) then ns.getD t 0 else 0
structure AtI (ns : List Int) (s : PS) : Prop where
  mem : s.mem 0 = sumF (gaveF ns s) ns.length
  two : ∀ t, t < ns.length → s.at_ (t + 1) = 2 → s.has (t + 1) = s.mem 0
  three : ∀ t, t < ns.length → s.at_ (t + 1) = 3 → s.has (t + 1) = s.mem 0 + ns.getD t 0
  begun : ∀ t, t < ns.length → t < s.at_ 0 → s.begun (t + 1) = true
  own : s.owner 2 ≠ 0 → ∃ t, t < ns.length ∧ s.begun (t + 1) = true ∧ 1 ≤ s.at_ (t + 1) ∧ s.at_ (t + 1) ≤ 4
  zero : s.begun 0 = true
theorem AtI.first (ns : List Int) : AtI ns PS.first := by
  refine ⟨?_, fun t _ h => (by cases h), fun t _ h => (by cases h), fun t _ h => absurd h (Nat.not_lt_zero _), fun h => absurd rfl h, rfl⟩
  have : ∀ m, sumF (gaveF ns PS.first) m = 0 := by
    intro m
    induction m with
    | zero => rfl
    | succ m ih => simp only [sumF]; rw [ih]; rfl
  rw [this]; rfl
/-- What changes nothing but the place of thread u + 1. -/
theorem gave_same {ns : List Int} {s s' : PS} {u : Nat} (h : ∀ t, t ≠ u + 1 → s'.at_ t = s.at_ t) (hu : 4 ≤ s'.at_ (u + 1) ↔ 4 ≤ s.at_ (u + 1)) : ∀ t, gaveF ns s' t = gaveF ns s t := by
  intro t
  unfold gaveF
  by_cases e : t = u
  · subst e
    by_cases c : 4 ≤ s.at_ (t + 1)
    · rw [if_pos c, if_pos (hu.2 c)]
    · rw [if_neg c, if_neg (fun h => c (hu.1 h))]
  · rw [h (t + 1) (by omega)]
theorem AtI.step {ns : List Int} {s : PS} {t : Int} (hI : IP (adP ns) s) (hLk : LockH (adP ns) s) (h : AtI ns s) (hc : canB (adP ns) s t = true) : AtI ns (stepP (adP ns) s t.toNat).1 := by
  have hn := canB_next hc
  have hat := nextB_at hI hn
  obtain ⟨t0, t1, hbg, _⟩ := nextB_iff.1 hn
  rcases thread_ways (ns := ns) (t := t.toNat) (by omega) with e | ⟨u, hu, e⟩
  · rw [e] at hat hbg ⊢
    rw [plen_zero] at hat
    have hop : opN (adP ns) s 0 = ⟨6, ((s.at_ 0 + 1 : Nat) : Int), 0⟩ := op_zero hat
    have key : ∀ s' : PS, s'.mem = s.mem → s'.has = s.has → s'.owner = s.owner → s'.at_ = upN s.at_ 0 (s.at_ 0 + 1) → (∀ i, s.begun i = true → s'.begun i = true) → s'.begun (s.at_ 0 + 1) = true → AtI ns s' := by
      intro s' e1 e2 e3 e4 e5 e6
      have ha : ∀ i, s'.at_ (i + 1) = s.at_ (i + 1) := fun i => by rw [e4, upN_ne (by omega)]
      refine ⟨?_, fun t ht h2 => ?_, fun t ht h3 => ?_, fun t ht hlt => ?_, fun h0 => ?_, e5 0 h.zero⟩
      · rw [e1, h.mem]
        exact sumF_congr fun i _ => by unfold gaveF; rw [ha]
      · rw [ha] at h2; rw [e1, e2]; exact h.two t ht h2
      · rw [ha] at h3; rw [e1, e2]; exact h.three t ht h3
      · rw [e4, upN_same] at hlt
        by_cases e7 : t = s.at_ 0
        · subst e7; exact e6
        · exact e5 _ (h.begun t ht (by omega))
      · rw [e3] at h0
        obtain ⟨v, h1, h2, h3, h4⟩ := h.own h0
        exact ⟨v, h1, e5 _ h2, by rw [ha]; exact h3, by rw [ha]; exact h4⟩
    unfold stepP
    rw [hop]
    by_cases c : ((s.at_ 0 + 1 : Nat) : Int) < (adP ns).length ∧ (tick s 0).begun ((s.at_ 0 + 1 : Nat) : Int).toNat = false
    · rw [do6y rfl c]
      refine key _ rfl rfl rfl rfl (fun i hi => ?_) ?_
      · show upT s.begun _ i = true; unfold upT; split <;> first | rfl | exact hi
      · show upT s.begun ((s.at_ 0 + 1 : Nat) : Int).toNat (s.at_ 0 + 1) = true
        rw [Int.toNat_natCast]; simp [upT]
    · rw [do6n rfl c]
      refine key _ rfl rfl rfl rfl (fun i hi => hi) ?_
      have hlt : ((s.at_ 0 + 1 : Nat) : Int) < (adP ns).length := by rw [adP_len]; omega
      show s.begun (s.at_ 0 + 1) = true
      cases hb : s.begun (s.at_ 0 + 1)
      · exact absurd ⟨hlt, by rw [Int.toNat_natCast]; exact hb⟩ c
      · rfl
  · rw [e] at hat hbg ⊢
    rw [plen_succ hu] at hat
    have hop : opN (adP ns) s (u + 1) = (addT (ns.getD u 0)).getD (s.at_ (u + 1)) ⟨0, 0, 0⟩ := op_succ hu _
    have hne : ∀ i, i ≠ u + 1 → upN s.at_ (u + 1) (s.at_ (u + 1) + 1) i = s.at_ i := fun i hi => upN_ne hi
    have hme : upN s.at_ (u + 1) (s.at_ (u + 1) + 1) (u + 1) = s.at_ (u + 1) + 1 := upN_same _ _ _
    have hown : ∀ v, v < ns.length → 1 ≤ s.at_ (v + 1) → s.at_ (v + 1) ≤ 4 → s.owner 2 = ((v + 1 : Nat) : Int) + 1 := fun v hv h1 h2 => hLk _ _ (adP_held hv h1 h2)
    have key : ∀ s' : PS, s'.at_ = upN s.at_ (u + 1) (s.at_ (u + 1) + 1) → s'.begun = s.begun → (∀ i, i ≠ u + 1 → s'.has i = s.has i) →
        (s'.mem 0 = sumF (gaveF ns s') ns.length) → (∀ v, v < ns.length → v ≠ u → s.at_ (v + 1) = 2 ∨ s.at_ (v + 1) = 3 → s'.mem 0 = s.mem 0) →
        (s.at_ (u + 1) + 1 = 2 → s'.has (u + 1) = s'.mem 0) → (s.at_ (u + 1) + 1 = 3 → s'.has (u + 1) = s'.mem 0 + ns.getD u 0) →
        (s'.owner 2 ≠ 0 → (s'.owner 2 = s.owner 2 ∧ s.at_ (u + 1) + 1 ≤ 4) ∨ (1 ≤ s.at_ (u + 1) + 1 ∧ s.at_ (u + 1) + 1 ≤ 4)) → AtI ns s' := by
      intro s' e1 e2 e3 e4 e5 e6 e7 e8
      have ha : ∀ i, i ≠ u + 1 → s'.at_ i = s.at_ i := fun i hi => by rw [e1]; exact hne i hi
      have hb : s'.at_ (u + 1) = s.at_ (u + 1) + 1 := by rw [e1]; exact hme
      refine ⟨e4, fun v hv h2 => ?_, fun v hv h3 => ?_, fun v hv hlt => ?_, fun h0 => ?_, by rw [e2]; exact h.zero⟩
      · by_cases c : v = u
        · subst c; rw [hb] at h2; exact e6 h2
        · rw [ha _ (by omega)] at h2; rw [e3 _ (by omega), e5 v hv c (.inl h2)]; exact h.two v hv h2
      · by_cases c : v = u
        · subst c; rw [hb] at h3; exact e7 h3
        · rw [ha _ (by omega)] at h3; rw [e3 _ (by omega), e5 v hv c (.inr h3)]; exact h.three v hv h3
      · rw [e2]; rw [ha 0 (by omega)] at hlt; exact h.begun v hv hlt
      · rcases e8 h0 with ⟨c1, c2⟩ | ⟨c1, c2⟩
        · rw [c1] at h0
          obtain ⟨v, h1, h2, h3, h4⟩ := h.own h0
          refine ⟨v, h1, by rw [e2]; exact h2, ?_⟩
          by_cases c : v = u
          · subst c; rw [hb]; omega
          · rw [ha _ (by omega)]; exact ⟨h3, h4⟩
        · exact ⟨u, hu, by rw [e2]; exact hbg, by rw [hb]; exact c1, by rw [hb]; exact c2⟩
    have hsum : ∀ s' : PS, s'.at_ = upN s.at_ (u + 1) (s.at_ (u + 1) + 1) → s.at_ (u + 1) ≠ 3 → s'.mem 0 = s.mem 0 → s'.mem 0 = sumF (gaveF ns s') ns.length := by
      intro s' e1 e2 e3
      rw [e3, h.mem]
      refine sumF_congr fun i _ => (gave_same (u := u) (fun t ht => by rw [e1]; exact hne t ht) ?_ i).symm
      rw [e1, hme]; omega
    unfold stepP
    rw [hop]
    rcases (by omega : s.at_ (u + 1) = 0 ∨ s.at_ (u + 1) = 1 ∨ s.at_ (u + 1) = 2 ∨ s.at_ (u + 1) = 3 ∨ s.at_ (u + 1) = 4) with c | c | c | c | c
    · rw [c]
      show AtI ns (doOp (adP ns) (tick s (u + 1)) (u + 1) ⟨4, 2, 0⟩).1
      rw [do4 rfl]
      exact key _ rfl rfl (fun _ _ => rfl) (hsum _ rfl (by omega) rfl) (fun _ _ _ _ => rfl) (by omega) (by omega) (fun _ => .inr (by omega))
    · rw [c]
      show AtI ns (doOp (adP ns) (tick s (u + 1)) (u + 1) ⟨1, 0, 0⟩).1
      rw [do1 rfl]
      exact key _ rfl rfl (fun i hi => upZ_ne hi) (hsum _ rfl (by omega) rfl) (fun _ _ _ _ => rfl) (fun _ => upZ_same _ _ _) (by omega) (fun _ => .inr (by omega))
    · rw [c]
      show AtI ns (doOp (adP ns) (tick s (u + 1)) (u + 1) ⟨3, 0, ns.getD u 0⟩).1
      rw [do3 rfl]
      refine key _ rfl rfl (fun i hi => upZ_ne hi) (hsum _ rfl (by omega) rfl) (fun _ _ _ _ => rfl) (by omega) (fun _ => ?_) (fun _ => .inr (by omega))
      show upZ s.has (u + 1) (s.has (u + 1) + ns.getD u 0) (u + 1) = s.mem 0 + _
      rw [upZ_same, h.two u hu c]
    · rw [c]
      show AtI ns (doOp (adP ns) (tick s (u + 1)) (u + 1) ⟨2, 0, 0⟩).1
      rw [do2 rfl]
      have hm : upZ s.mem 0 (s.has (u + 1)) 0 = s.mem 0 + ns.getD u 0 := by rw [upZ_same, h.three u hu c]
      refine key _ rfl rfl (fun _ _ => rfl) ?_ (fun v hv hvu h23 => ?_) (by omega) (by omega) (fun _ => .inr (by omega))
      · generalize hs' : (doOp (adP ns) (tick s (u + 1)) (u + 1) ⟨2, 0, 0⟩).1 = s'
        rw [do2 rfl] at hs'
        have ea : s'.at_ = upN s.at_ (u + 1) (s.at_ (u + 1) + 1) := by rw [← hs']; rfl
        show upZ s.mem 0 (s.has (u + 1)) 0 = sumF (gaveF ns _) ns.length
        rw [hs', hm, h.mem, sumF_upd (f := gaveF ns s') (g := gaveF ns s) (t := u) hu (fun i hi => by
          unfold gaveF
          rw [ea, hne _ (by omega)])]
        have g1 : gaveF ns s u = 0 := by unfold gaveF; rw [if_neg (by omega)]
        have g2 : gaveF ns s' u = ns.getD u 0 := by
          unfold gaveF
          rw [ea, hme, if_pos (by omega)]
        rw [g1, g2]; omega
      · exfalso
        have o1 := hown u hu (by omega) (by omega)
        have o2 := hown v hv (by omega) (by omega)
        rw [o1] at o2
        omega
    · rw [c]
      show AtI ns (doOp (adP ns) (tick s (u + 1)) (u + 1) ⟨5, 2, 0⟩).1
      have o1 := hown u hu (by omega) (by omega)
      rw [do5y rfl o1]
      refine key _ rfl rfl (fun _ _ => rfl) (hsum _ rfl (by omega) rfl) (fun _ _ _ _ => rfl) (by omega) (by omega) (fun h0 => absurd ?_ h0)
      show upZ s.owner 2 0 2 = 0
      exact upZ_same _ _ _
theorem ad_run {ns : List Int} (hs : Small100 ns) (hl : ns.length ≤ 5) (picks : List Int) : AtI ns (runP (adP ns) picks).1 := by
  refine (run_ind (adP_ok hs hl) (Q := fun r => LockH (adP ns) r.1 ∧ AtI ns r.1) ⟨LockH.first _, AtI.first ns⟩ ?_ picks).2.2
  intro r t hI ⟨hLk, h⟩ hc
  exact ⟨hLk.step hc, h.step hI hLk hc⟩
theorem next_mk {ns : List Int} {s : PS} {t : Nat} (h1 : t < (adP ns).length) (h2 : s.begun t = true) (h3 : s.at_ t ≠ plen (adP ns) t) : nextB (adP ns) s (t : Int) = true :=
  nextB_iff.2 ⟨by omega, by omega, by rw [Int.toNat_natCast]; exact h2, by rw [Int.toNat_natCast]; exact h3⟩
theorem can_mid {ns : List Int} {s : PS} {u : Nat} (hu : u < ns.length) (hb : s.begun (u + 1) = true) (h1 : 1 ≤ s.at_ (u + 1)) (h4 : s.at_ (u + 1) ≤ 4) : canB (adP ns) s ((u + 1 : Nat) : Int) = true := by
  have hn := next_mk (ns := ns) (s := s) (t := u + 1) (by rw [adP_len]; omega) hb (by rw [plen_succ hu]; omega)
  have hop : opN (adP ns) s (u + 1) = (addT (ns.getD u 0)).getD (s.at_ (u + 1)) ⟨0, 0, 0⟩ := op_succ hu _
  unfold canB
  rw [hn, Int.toNat_natCast, hop]
  rcases (by omega : s.at_ (u + 1) = 1 ∨ s.at_ (u + 1) = 2 ∨ s.at_ (u + 1) = 3 ∨ s.at_ (u + 1) = 4) with c | c | c | c <;> (rw [c]; rfl)
theorem zero_all {ns : List Int} {s : PS} (hI : IP (adP ns) s) (h : AtI ns s) (hn : s.at_ 0 < ns.length → canB (adP ns) s ((0 : Nat) : Int) = false) : s.at_ 0 = ns.length := by
  have hle := hI.at_le 0
  rw [plen_zero] at hle
  by_cases hlt : s.at_ 0 < ns.length
  · have hx := next_mk (ns := ns) (s := s) (t := 0) (by rw [adP_len]; omega) h.zero (by rw [plen_zero]; omega)
    have hop : opN (adP ns) s 0 = ⟨6, ((s.at_ 0 + 1 : Nat) : Int), 0⟩ := op_zero hlt
    have : canB (adP ns) s ((0 : Nat) : Int) = true := by
      unfold canB
      rw [hx, Int.toNat_natCast, hop]; rfl
    rw [hn hlt] at this; cases this
  · omega
theorem ad_end {ns : List Int} {s : PS} (hI : IP (adP ns) s) (h : AtI ns s) : stuckB (adP ns) s = false ∧ (doneB (adP ns) s = true → s.mem 0 = sumF (fun t => ns.getD t 0) ns.length) := by
  constructor
  · cases hst : stuckB (adP ns) s
    · rfl
    · exfalso
      have hno := fun t => stuck_stop hst t
      have hz := zero_all hI h (fun _ => hno _)
      have hd : doneB (adP ns) s = true := by
        unfold doneB
        rw [List.all_eq_true]
        intro t ht
        have ht := List.mem_range.1 ht
        have hnx : nextB (adP ns) s (t : Int) = false := by
          cases hx : nextB (adP ns) s (t : Int)
          · rfl
          · exfalso
            obtain ⟨_, _, hb, ha⟩ := nextB_iff.1 hx
            rw [Int.toNat_natCast] at hb ha
            rcases thread_ways ht with rfl | ⟨u, hu, rfl⟩
            · rw [plen_zero] at ha; exact ha hz
            · have hle := hI.at_le (u + 1)
              rw [plen_succ hu] at hle ha
              by_cases c : 1 ≤ s.at_ (u + 1)
              · have := can_mid hu hb c (by omega)
                rw [hno] at this; cases this
              · have c0 : s.at_ (u + 1) = 0 := by omega
                have hop : opN (adP ns) s (u + 1) = ⟨4, 2, 0⟩ := by
                  show opA (adP ns) (u + 1) (s.at_ (u + 1)) = _
                  rw [op_succ hu, c0]; rfl
                have hcan := hno ((u + 1 : Nat) : Int)
                unfold canB at hcan
                rw [hx, Int.toNat_natCast, hop] at hcan
                have hcan : (s.owner 2 == 0) = false := hcan
                obtain ⟨v, h1, h2, h3, h4⟩ := h.own (by simpa using hcan)
                have := can_mid h1 h2 h3 h4
                rw [hno] at this; cases this
        rw [hnx]; rfl
      have := stuck_done (adP ns) s
      rw [hd, hst] at this; cases this
  · intro hd
    have hno := fun t => done_stop hd t
    have hz := zero_all hI h (fun _ => hno _)
    rw [h.mem]
    refine sumF_congr fun u hu => ?_
    unfold gaveF
    have hb := h.begun u hu (by omega)
    have ha : s.at_ (u + 1) = 5 := by
      by_cases c : s.at_ (u + 1) = 5
      · exact c
      · have := next_mk (ns := ns) (s := s) (t := u + 1) (by rw [adP_len]; omega) hb (by rw [plen_succ hu]; exact c)
        rw [done_next hd] at this; cases this
    rw [if_pos (by omega)]
end

section
open Go.RowKit

section
variable {P : Program} (w : World)
theorem alloc_step {ops : Array Oper} {o : Oper} {a : Act} {K : Act → World → Prop} {Q : Exit → Act → World → Prop} {E : Prop} (hgd : o.guard = none) (ty : TypeId) (ho : o.op = .alloc ty)
    {i : TypeInfo} {z : Value} (hi : P.info? ty = some i) (hz : i.zero = some z)
    (h : ∀ w', w' = w.alloc (.cells z.cells ty) → K (a.put o.dst (.pointer (some ⟨w.heap.size, 0, none⟩))) w') :
    if Region.wanted o (yielded ops a.tmps) = true then Oper.wp P o a w K Q else E := by
  have hw : Region.wanted o (yielded ops a.tmps) = true := by simp [Region.wanted, hgd]
  rw [if_pos hw]
  have hrun : (execOp a.eval o).run P w = .ok (.value (.pointer (some ⟨w.heap.size, 0, none⟩))) (w.alloc (.cells z.cells ty)) := by
    unfold execOp
    simp [ho, Instr.alloc, zeroValue, typeInfo, hi, hz, newVar, go_sem]
  unfold Oper.wp
  rw [hrun, Oper.upon_value]
  exact h _ rfl
theorem build_step {ops : Array Oper} {o : Oper} {a : Act} {K : Act → World → Prop} {Q : Exit → Act → World → Prop} {E : Prop} (hgd : o.guard = none) (t e : TypeId) (x : Operand) (ho : o.op = .buildSlice t 1 #[(0, x)])
    {ie : TypeInfo} (hu : P.underlying t = some (.slice e)) (hie : P.info? e = some ie) (hz : ie.zero = some (.int .i64 0)) (hs : ie.size = 1) {n : Int} (hx : a.eval x = .int .i64 n)
    (h : ∀ w', w' = w.alloc (.cells #[.int .i64 n] e) → K (a.put o.dst (.slice (some ⟨w.heap.size, 0, none⟩) 1 1)) w') :
    if Region.wanted o (yielded ops a.tmps) = true then Oper.wp P o a w K Q else E := by
  have hw : Region.wanted o (yielded ops a.tmps) = true := by simp [Region.wanted, hgd]
  rw [if_pos hw]
  refine wp_buildSlice t e 1 _ ho #[.int .i64 n] ie (.int .i64 0) hu hie hz (by rw [hs]; decide) (by rw [hs]; decide) ?_ (h _ rfl)
  rw [hs]
  rw [show 1 * 1 = 1 from rfl, show Array.range 1 = #[0] from by decide]
  simp [hx, Instr.fill, Value.cells]
theorem store_row_step {ops : Array Oper} {o : Oper} {a : Act} {K : Act → World → Prop} {Q : Exit → Act → World → Prop} {E : Prop} (hgd : o.guard = none) (ty : TypeId) (x y : Operand) (ho : o.op = .store ty x y)
    {g : Nat} {cells : Array Value} (hx : a.eval x = .pointer (some ⟨g, 0, none⟩)) (hy : a.eval y = .agg cells)
    {t : TypeId} {old : Array Value} (hg : Has w g old t) (hi : (P.info? ty).map (·.size) = some cells.size) (hold : old.size = cells.size) (h1 : cells.all (·.oneCell') = true)
    (h : ∀ w', w' = w.setRow g cells → K (a.put o.dst undef) w') :
    if Region.wanted o (yielded ops a.tmps) = true then Oper.wp P o a w K Q else E := by
  have hw : Region.wanted o (yielded ops a.tmps) = true := by simp [Region.wanted, hgd]
  rw [if_pos hw]
  exact wp_store_row ty x y ho g cells hx hy t old hg.out hi hold h1 (h _ rfl)
theorem of_alloc {w w' : World} {o : Obj} (h : w' = w.alloc o) : Below w.heap.size w w' := by rw [h]; exact (Below.refl _ _).alloc (Nat.le_refl _) _
theorem has_of_alloc {w w' : World} {cs : Array Value} {t : TypeId} (h : w' = w.alloc (.cells cs t)) : Has w' w.heap.size cs t := by rw [h]; exact Has.new w cs t
/-- A block of another type is no row's own. -/
theorem Has.not_own {w : World} {b : Nat} {cs : Array Value} {t : TypeId} (h : Has w b cs t) {base e size n : Nat} {v : Value} {xs : List Value} (ho : w.ownsRow base e size v n xs) (hte : t ≠ e) : some b ≠ v.ownBlock := by
  intro hb
  rcases ho.2 with ⟨rfl, _⟩ | ⟨g, cap, cur, rfl, _, hh, _⟩
  · cases hb
  · simp only [Value.ownBlock, Option.some.injEq] at hb
    subst hb
    rw [h.out] at hh
    injection hh with hh
    injection hh with h1 h2
    exact hte h2
end
end

section
open Go.RowKit

set_option maxHeartbeats 400000 in
theorem rest_any (n m : Int) (w : World) (hm : 0 < m) (hm2 : m ≤ 4611686018427387904) :
    Calls Try.prog 16 #[.int .i64 n, .int .i64 m] w fun e w' => e = .returned (.int .i64 (n % m)) ∧ w' = w := by
  have h0 := Int.emod_nonneg n (show m ≠ 0 by omega)
  have h1 := Int.emod_lt_of_pos n hm
  have h2 : n.tmod m = n % m ∨ (n.tmod m < 0 ∧ n.tmod m + m = n % m) := by
    by_cases hn : 0 ≤ n
    · exact .inl (Int.tmod_eq_emod_of_nonneg hn)
    · by_cases hd : m ∣ n
      · exact .inl (by rw [Int.emod_eq_zero_of_dvd hd, Int.tmod_eq_zero_of_dvd hd])
      · right
        have := Int.tmod_eq_emod (a := n) (b := m)
        rw [this]
        have e : ¬ (0 ≤ n ∨ m ∣ n) := by simp [hn, hd]
        rw [if_neg e]
        omega
  have hz : (m == 0) = false := by simp; omega
  have h3 : -4611686018427387904 ≤ n.tmod m ∧ n.tmod m ≤ 4611686018427387904 := by omega
  have h4 : ¬ (m = -1) := by omega
  have h5 := IntWalk.i64_in (n.tmod m) (by omega)
  generalize hq : n.tmod m = q at *
  rcases h2 with h2 | ⟨h2, h6⟩
  · have d : decide (q < 0) = false := by simp; omega
    have H2 := Lib.hid h2
    have HQ := Lib.hid hq
    clear h2 
    go_enter Try.func16, Try.ntmps16
    go_wp2
    go_ret
    exact ⟨ret_int H2.out, rfl⟩
  · have d : decide (q < 0) = true := by simp; omega
    have h7 := IntWalk.i64_in (q + m) (by omega)
    have H6 := Lib.hid h6
    clear h6
    go_enter Try.func16, Try.ntmps16
    go_wp2
    go_ret
    exact ⟨ret_int H6.out, rfl⟩
end

section
open Go.RowKit

section
variable {w w' : World} {base e size n : Nat} {v : Value} {xs : List Value}
theorem own_types {b2 e2 s2 n2 : Nat} {v2 : Value} {x2 : List Value} (h : w.ownsRow base e size v n xs) (h2 : w.ownsRow b2 e2 s2 v2 n2 x2) (ht : e ≠ e2) : v.ownBlock = none ∨ v.ownBlock ≠ v2.ownBlock := by
  rcases h.2 with ⟨rfl, _⟩ | ⟨g, cap, cur, rfl, _, hg, _⟩
  · exact .inl rfl
  · right
    intro e1
    rcases h2.2 with ⟨rfl, _⟩ | ⟨g2, cap2, cur2, rfl, _, hg2, _⟩
    · simp [Value.ownBlock] at e1
    · simp only [Value.ownBlock, Option.some.injEq] at e1
      subst e1
      rw [hg] at hg2
      simp only [Option.some.injEq, Obj.cells.injEq] at hg2
      exact ht hg2.2.1
theorem own_base {b2 : Nat} (h : w.ownsRow base e size v n xs) (hb : b2 ≤ base) : w.ownsRow b2 e size v n xs := by
  refine ⟨h.1, ?_⟩
  rcases h.2 with h0 | ⟨g, cap, cur, hv, hg, r⟩
  · exact .inl h0
  · exact .inr ⟨g, cap, cur, hv, Nat.le_trans hb hg, r⟩
/-- A row that is not empty lies in a block. -/
theorem own_at (h : w.ownsRow base e size v (n + 1) xs) : ∃ g cap, v = .slice (some ⟨g, 0, none⟩) (n + 1) cap ∧ n + 1 ≤ cap ∧ base ≤ g ∧ g < w.heap.size := by
  have hl := h.lt
  rcases h.2 with ⟨_, h0⟩ | ⟨g, cap, cur, rfl, hg, hh, hnc, _⟩
  · cases h0
  · exact ⟨g, cap, rfl, hnc, hg, (hl g rfl).2⟩
end
/-- The rows of a program under way: v6 the slice, v0 the forks, the others. -/
structure AddI (w : World) (base k : Nat) (ns : List Int) (v6 v0 : Value) (rest : List Value) : Prop where
  len : rest.length = k
  p : w.ownsRow base 40 1 v6 (k + 1) (v0 :: rest)
  f : w.ownsRow base 42 3 v0 k (evL (frkT k))
  r : ∀ i (h : i < rest.length), w.ownsRow base 42 3 rest[i] 5 (evL (addT (ns.getD i 0))) ∧ rest[i].ownBlock ≠ v0.ownBlock
theorem AddI.below {w w' : World} {base k : Nat} {ns : List Int} {v6 v0 : Value} {rest : List Value} (h : AddI w base k ns v6 v0 rest) (b : Below w.heap.size w w') : AddI w' base k ns v6 v0 rest :=
  ⟨h.len, own_below h.p b, own_below h.f b, fun i hi => ⟨own_below (h.r i hi).1 b, (h.r i hi).2⟩⟩
/-- A fork more, a row more. -/
theorem AddI.step {w5 w6 w7 w8 w9 w10 : World} {base k : Nat} {ns : List Int} {v6 v0 v37 v46 v51 : Value} {rest : List Value} {g cap m : Nat}
    (h : AddI w5 base k ns v6 v0 rest) (hv6 : v6 = .slice (some ⟨g, 0, none⟩) (k + 1) cap) (hnew : w5.ownsRow m 42 3 v37 5 (evL (addT (ns.getD k 0)))) (hm : base ≤ m)
    (hfar : ∀ b, v0.ownBlock = some b → b < m) (hsome : v37.ownBlock ≠ none)
    (h6 : w5.grownBy w6 none) (hA : Appended w6 w7 base 42 3 v0 v46 (k + 1) (evL (frkT (k + 1)))) (h8 : w8 = w7.setCell ⟨g, 0, none⟩ v46) (h9 : w8.grownBy w9 none)
    (hB : Appended w9 w10 base 40 1 v6 v51 (k + 2) ((v46 :: rest) ++ [v37])) : AddI w10 base (k + 1) ns v51 v46 (rest ++ [v37]) := by
  have hno : ∀ {w w' : World}, w.grownBy w' none → ∀ {b e s n : Nat} {v : Value} {xs : List Value}, w.ownsRow b e s v n xs → w'.ownsRow b e s v n xs := fun hg _ _ _ _ v _ ho => ho.kept hg (by cases hv : v.ownBlock <;> simp)
  have p6 := hno h6 h.p
  have f6 := hno h6 h.f
  have n6 := hno h6 hnew
  have p7 := p6.kept hA.grown (own_types p6 f6 (by decide))
  have n7 : w7.ownsRow m 42 3 v37 5 (evL (addT (ns.getD k 0))) := n6.kept hA.grown (by
    right
    intro e
    cases hv : v37.ownBlock with
    | none => exact hsome hv
    | some b =>
      have h1 := (n6.lt b hv).1
      have h2 := hfar b (by rw [← e]; exact hv)
      omega)
  have f7 := hA.own
  have hb46 : ∀ x : Value, (∀ b, x.ownBlock = some b → b < w6.heap.size) → x.ownBlock ≠ none → x.ownBlock ≠ v0.ownBlock → x.ownBlock ≠ v46.ownBlock := by
    intro x hx hn hne e
    rcases hA.lies with l | l
    · exact hne (e.trans l)
    · rw [l] at e
      have := hx _ e
      omega
  have ne37 : v37.ownBlock ≠ v46.ownBlock := hb46 v37 (fun b hb => (n6.lt b hb).2) hsome (by
    intro e
    cases hv : v37.ownBlock with
    | none => exact hsome hv
    | some b =>
      have h1 := (n6.lt b hv).1
      have h2 := hfar b (by rw [← e]; exact hv)
      omega)
  have r7 : ∀ i (hi : i < rest.length), w7.ownsRow base 42 3 rest[i] 5 (evL (addT (ns.getD i 0))) ∧ rest[i].ownBlock ≠ v46.ownBlock := fun i hi => by
    obtain ⟨o, hne⟩ := h.r i hi
    have o6 := hno h6 o
    refine ⟨o6.kept hA.grown (.inr hne), hb46 _ (fun b hb => (o6.lt b hb).2) ?_ hne⟩
    intro e0
    rcases o6.2 with ⟨_, h0⟩ | ⟨g', cap', cur', hv', _⟩
    · cases h0
    · rw [hv'] at e0; cases e0
  -- the store
  subst hv6
  obtain ⟨p8, hg8⟩ := p7.stored 0 v46
  rw [← h8] at p8 hg8
  have s8 : ∀ {b s n : Nat} {v : Value} {xs : List Value}, w7.ownsRow b 42 s v n xs → w8.ownsRow b 42 s v n xs := fun ho => ho.kept hg8 (by
    have := own_types ho p7 (by decide)
    simpa [Value.ownBlock] using this)
  have t10 : ∀ {b s n : Nat} {v : Value} {xs : List Value}, w7.ownsRow b 42 s v n xs → w10.ownsRow b 42 s v n xs := fun ho =>
    (hno h9 (s8 ho)).kept hB.grown (own_types (hno h9 (s8 ho)) (hno h9 p8) (by decide))
  refine ⟨by simp [h.len], ?_, t10 f7, fun i hi => ?_⟩
  · have := hB.own
    simpa using this
  · by_cases c : i < rest.length
    · rw [List.getElem_append_left c]
      exact ⟨t10 (r7 i c).1, (r7 i c).2⟩
    · have e : i = rest.length := by simp at hi; omega
      subst e
      have e2 : (rest ++ [v37])[rest.length]'hi = v37 := by simp
      rw [e2, h.len]
      exact ⟨own_base (t10 n7) hm, ne37⟩
theorem frkT_succ (k : Nat) : frkT (k + 1) = frkT k ++ [⟨6, ((k + 1 : Nat) : Int), 0⟩] := by simp [frkT, List.range_succ]
theorem frkT_len (k : Nat) : (frkT k).length = k := by simp [frkT]
/-- The program as it is read. -/
theorem AddI.pgS {w : World} {base : Nat} {ns : List Int} {v6 v0 : Value} {rest : List Value} (h : AddI w base ns.length ns v6 v0 rest) (hn : ns.length ≤ 1000) : ∃ a c, v6 = .slice a (adP ns).length c ∧ PgS w a (adP ns) := by
  obtain ⟨g, cap, hv, _⟩ := own_at h.p
  have hp := h.p
  rw [hv] at hp
  refine ⟨_, cap, by rw [hv, adP_len], ⟨by rw [adP_len]; omega, .inr ⟨g, 0, rfl, fun t ht => ?_⟩⟩⟩
  have hcell := hp.cellAt t (by rw [adP_len] at ht; omega)
  rw [Nat.zero_add, hcell]
  cases t with
  | zero =>
    obtain ⟨a, c, h1, h2, _⟩ := evS_own (l := frkT ns.length) (by rw [frkT_len]; exact h.f) (by rw [frkT_len]; omega)
    refine ⟨a, c, ?_, h2⟩
    show some v0 = _
    rw [h1]; rfl
  | succ i =>
    have hi : i < ns.length := by rw [adP_len] at ht; omega
    have hir : i < rest.length := by rw [h.len]; exact hi
    obtain ⟨a, c, h1, h2, _⟩ := evS_own (l := addT (ns.getD i 0)) (h.r i hir).1 (by show 5 < 4611686018427387904; decide)
    have e : (adP ns)[i + 1] = addT (ns.getD i 0) := by
      simp [adP, List.getD_eq_getElem?_getD, hi]
    rw [e]
    refine ⟨a, c, ?_, h2⟩
    rw [List.getElem?_cons_succ, List.getElem?_eq_getElem hir, h1]
end

section
open Go.RowKit

theorem infoOp2 : (Try.prog.info? 42).map (fun i => (i.zero, i.size, i.bytes)) = some (some (evV ⟨0, 0, 0⟩), 3, 24) := by kernel_rfl
theorem infoOps : (Try.prog.info? 40).map (fun i => (i.zero, i.size, i.bytes)) = some (some (.slice none 0 0), 1, 24) := by kernel_rfl
/-- The numbers that are added. -/
def addM (l : List Int) : List Int := l.map fun n => n % 100 + 1
theorem addM_len (l : List Int) : (addM l).length = l.length := by simp [addM]
theorem addM_get (l : List Int) {k : Nat} (h : k < l.length) : (addM l).getD k 0 = l[k] % 100 + 1 := by
  unfold addM
  rw [List.getD_eq_getElem?_getD, List.getElem?_map, List.getElem?_eq_getElem h]
  rfl
theorem addM_small (l : List Int) : Small100 (addM l) := fun k hk => by
  rw [addM_len] at hk
  rw [addM_get l hk]
  have := Int.emod_nonneg l[k] (show (100 : Int) ≠ 0 by omega)
  have := Int.emod_lt_of_pos l[k] (show (0 : Int) < 100 by omega)
  omega
theorem sumF_le {f : Nat → Int} {m : Nat} (h : ∀ i, i < m → 0 ≤ f i ∧ f i ≤ 100) : 0 ≤ sumF f m ∧ sumF f m ≤ 100 * (m : Int) := by
  induction m with
  | zero => simp [sumF]
  | succ m ih =>
    have := ih (fun i hi => h i (by omega))
    have := h m (by omega)
    simp only [sumF]
    omega
def AddPost (ns : List Int) (w : World) (r : Ending) (w' : World) : Prop :=
  ∃ a c, r = .returned (.tuple #[.slice a (adP ns).length c, .int .i64 (sumF (fun t => ns.getD t 0) ns.length)]) ∧ PgS w' a (adP ns) ∧ Below w.heap.size w w'
def AddR (w : World) (l ns : List Int) (v6 s i : Value) (wr : World) : Prop :=
  ∃ (k : Nat) (v0 : Value) (rest : List Value), k ≤ l.length ∧ i = .int .i64 k ∧ s = .int .i64 (sumF (fun t => ns.getD t 0) k) ∧ AddI wr w.heap.size k ns v6 v0 rest ∧ Below w.heap.size w wr

set_option maxRecDepth 100000 in
set_option maxHeartbeats 8000000 in
theorem adders_lock (l : List Int) (n : Nat) (hn : l.length = n) (h5 : l.length ≤ 5) (a : Option Addr) (c : Nat) (w : World) (h : IntS w a l) :
    Calls Try.prog 22 #[.slice a n c, .bool true] w (AddPost (addM l) w) := by
  subst hn
  obtain ⟨i0, hi, hz0, hz1, hz2⟩ := info_parts infoOp2
  obtain ⟨j0, hj, jz0, jz1, jz2⟩ := info_parts infoOps
  have hlen := addM_len l
  have hsm := addM_small l
  have hget := fun k (h : k < l.length) => addM_get l h
  generalize addM l = ns at *
  have HLEN := Lib.hid hlen
  have hsu : ∀ k, k ≤ 5 → k ≤ l.length → 0 ≤ sumF (fun t => ns.getD t 0) k ∧ sumF (fun t => ns.getD t 0) k ≤ 500 := fun k hk hkl => by
    have := sumF_le (f := fun t => ns.getD t 0) (m := k) (fun i hi => by have := hsm i (by omega); omega)
    omega
  have HSU := Lib.hid hsu
  have HGET := Lib.hid hget
  clear hlen hsm hget hsu
  have hI0 : AddI (w.alloc (.cells #[.slice none 0 0] 40)) w.heap.size 0 ns (.slice (some ⟨w.heap.size, 0, none⟩) 1 1) (.slice none 0 0) [] :=
    ⟨rfl, World.ownsRow_lit w #[.slice none 0 0] 1 (Nat.le_refl _) (by unfold maxLen; omega) rfl, World.ownsRow_nil _ _ _ _, fun i hi => absurd hi (Nat.not_lt_zero _)⟩
  have hb0 := (Below.refl w.heap.size w).alloc (Nat.le_refl _) (.cells #[.slice none 0 0] 40)
  go_enter Try.func22, Try.ntmps22
  go_wp2
  go_loopw [6, 7, 14] (AddR w l ns) (fun _ _ i _ => l.length - (intOf i).toNat)
  case atStart => exact ⟨0, _, [], Nat.zero_le _, rfl, rfl, hI0, hb0⟩
  case round =>
    clear hI0 hb0
    obtain ⟨k, v0, rest, hk, rfl, rfl, hA, hb⟩ := hrel
    by_cases hlt : k < l.length
    · obtain ⟨b, o, rfl, d0⟩ := (h.below hb).at hlt
      obtain ⟨g, cap, rfl, hkc, hgb, hgl⟩ := own_at hA.p
      obtain ⟨a0, c0, hv0, _, _⟩ := evS_own (l := frkT k) (by rw [frkT_len]; exact hA.f) (by rw [frkT_len]; omega)
      rw [frkT_len] at hv0
      subst hv0
      have hg := HGET.out k hlt
      have hsu := HSU.out k (by omega) (by omega)
      have hss : sumF (fun t => ns.getD t 0) (k + 1) = sumF (fun t => ns.getD t 0) k + ns.getD k 0 := rfl
      generalize l[k] = x at *
      have q0 := Int.emod_nonneg x (show (100 : Int) ≠ 0 by omega)
      have q1 := Int.emod_lt_of_pos x (show (0 : Int) < 100 by omega)
      have k0 : (0 : Int) ≤ k := by omega
      have k1 : (k : Int) < l.length := by omega
      have k5 : (k : Int) < 5 := by omega
      have HG := Lib.hid hg
      have HSS := Lib.hid hss
      clear hg hss
      go_wp2_with fail
      refine (rest_any x 100 _ (by omega) (by omega)).mono ?_
      rintro r wq ⟨rfl, hw⟩
      rw [hw]
      clear hw
      generalize x % 100 = y at *
      generalize sumF (fun t => ns.getD t 0) k = S at *
      obtain ⟨b0, b1⟩ := hsu
      have hT1 := Has.new wr (evL [⟨1, 0, 0⟩, ⟨3, 0, y + 1⟩, ⟨2, 0, 0⟩]).toArray 42
      have hT1' := hT1.alloc (.cells (evL [⟨4, 2, 0⟩]).toArray 42)
      have hL2 : ((wr.alloc (.cells (evL [⟨1, 0, 0⟩, ⟨3, 0, y + 1⟩, ⟨2, 0, 0⟩]).toArray 42)).alloc (.cells (evL [⟨4, 2, 0⟩]).toArray 42)).ownsRow wr.heap.size 42 3 (.slice (some ⟨wr.heap.size + 1, 0, none⟩) 1 1) 1 (evL [⟨4, 2, 0⟩]) :=
        own_full ((Has.new (wr.alloc _) _ _).at (by simp)) (by simp) rfl (by unfold maxLen; omega)
      have hbA := ((Below.refl wr.heap.size wr).alloc (Nat.le_refl _) (.cells (evL [⟨1, 0, 0⟩, ⟨3, 0, y + 1⟩, ⟨2, 0, 0⟩]).toArray 42)).alloc (by simp) (.cells (evL [⟨4, 2, 0⟩]).toArray 42)
      clear d0
      go_wp2_with (at_builtin; refine app_list _ rfl (.tmp 32) (.tmp 33) 40 rfl Try.underlying40 hi hz0 hz1 hz2 rfl (by decide) rfl hL2 rfl (m := 3) (news := evL [⟨1, 0, 0⟩, ⟨3, 0, y + 1⟩, ⟨2, 0, 0⟩]) ⟨rfl, .inr ⟨_, rfl, fun j u hu => hT1'.cell_add (by simpa using hu)⟩⟩ (evL_one _) (by unfold maxLen; omega) (by omega) (by simp; omega) ?_)
      intro v34 w3 hA1
      have hO3 := hA1.own
      have hb3 := hA1.below hL2 hbA (by simp; omega)
      have hs3 := hb3.size
      clear hA1 hL2 hbA hT1 hT1'
      have hT4 := Has.new w3 (evL [⟨5, 2, 0⟩]).toArray 42
      go_wp2_with (at_builtin; refine app_list _ rfl (.tmp 34) (.tmp 36) 40 rfl Try.underlying40 hi hz0 hz1 hz2 rfl (by decide) rfl (hO3.alloc _) rfl (m := 1) (news := evL [⟨5, 2, 0⟩]) ⟨rfl, .inr ⟨_, rfl, fun j u hu => hT4.cell_add (by simpa using hu)⟩⟩ (evL_one _) (by unfold maxLen; omega) (by omega) (by simp; omega) ?_)
      intro v37 w5 hA2
      have hO5 : w5.ownsRow wr.heap.size 42 3 v37 5 (evL (addT (ns.getD k 0))) := by
        rw [HG.out]; exact hA2.own
      have hb5 := hA2.below (hO3.alloc _) (hb3.alloc hs3 (.cells (evL [⟨5, 2, 0⟩]).toArray 42)) (by simp; omega)
      have hI5 := hA.below hb5
      have HFAR := Lib.hid (fun b hb => (hA.f.lt b hb).2)
      have hs5 := hb5.size
      have hbb5 := hb.trans (hb5.mono hb.size)
      have hwr := hb.size
      clear hA2 hO3 hb3 hs3 hT4 hA hb
      obtain ⟨g37, c37, rfl, _, hg37, _⟩ := own_at hO5
      have x0 : w5.cell? ⟨g, 0, none⟩ = some (.slice a0 k c0) := by rw [hI5.p.cellAt 0 (by omega)]; rfl
      have hgw5 : g < w5.heap.size := by omega
      have n0 : (0 : Int) < ((k + 1 : Nat) : Int) := by omega
      have n1 : (0 : Int) < (k : Int) + 1 := by omega
      have n2 : 0 < k + 1 := by omega
      have hT6 := Has.new w5 (evL [⟨6, ((k + 1 : Nat) : Int), 0⟩]).toArray 42
      have x6 : (w5.alloc (.cells (evL [⟨6, ((k + 1 : Nat) : Int), 0⟩]).toArray 42)).cell? ⟨g, 0, none⟩ = some (.slice a0 k c0) := (((Below.refl _ _).alloc (Nat.le_refl _) _).cell hgw5).trans x0
      have hf6 := hI5.f.alloc (.cells (evL [⟨6, ((k + 1 : Nat) : Int), 0⟩]).toArray 42)
      have hp6 := hI5.p.alloc (.cells (evL [⟨6, ((k + 1 : Nat) : Int), 0⟩]).toArray 42)
      have hb6 := hbb5.alloc (by omega) (.cells (evL [⟨6, ((k + 1 : Nat) : Int), 0⟩]).toArray 42)
      go_wp2_with (at_builtin; refine app_list _ rfl (.tmp 41) (.tmp 45) 40 rfl Try.underlying40 hi hz0 hz1 hz2 rfl (by decide) rfl hf6 rfl (m := 1) (news := evL [⟨6, ((k + 1 : Nat) : Int), 0⟩]) ⟨rfl, .inr ⟨_, rfl, fun j u hu => hT6.cell_add (by simpa using hu)⟩⟩ (evL_one _) (by unfold maxLen; omega) (by omega) (by simp; omega) ?_)
      intro v46 w7 hA3
      have hA3' : Appended (w5.alloc (.cells (evL [⟨6, ((k + 1 : Nat) : Int), 0⟩]).toArray 42)) w7 w.heap.size 42 3 (.slice a0 k c0) v46 (k + 1) (evL (frkT (k + 1))) := by
        rw [frkT_succ, evL_append]; exact hA3
      have hp7 := hp6.kept hA3'.grown (own_types hp6 hf6 (by decide))
      have hb7 := hA3'.below hf6 hb6 (by simp; omega)
      obtain ⟨a46, c46, rfl⟩ : ∃ a c, v46 = .slice a (k + 1) c := by
        obtain ⟨g', cap', h', _⟩ := own_at hA3'.own
        exact ⟨_, _, h'⟩
      have x7 : w7.cell? ⟨g, 0, none⟩ = some (.slice a0 k c0) := by rw [hp7.cellAt 0 (by omega)]; rfl
      have f7 := hp7.frozenAt 0
      obtain ⟨p8, hg8⟩ := hp7.stored 0 (.slice a46 (k + 1) c46)
      have hb8 := hb7.setCell (show w.heap.size ≤ (⟨g, 0, none⟩ : Addr).block from hgb) (.slice a46 (k + 1) c46)
      have hgr6 := World.grownBy_alloc w5 (.cells (evL [⟨6, ((k + 1 : Nat) : Int), 0⟩]).toArray 42) none
      clear hA3 hp6 hf6 hb6 x0 x6 hT6 hp7
      generalize hW8 : w7.setCell ⟨g, 0, none⟩ (.slice a46 (k + 1) c46) = w8 at *
      have hT9 := Has.new w8 #[.slice (some ⟨g37, 0, none⟩) 5 c37] 40
      have hgr9 := World.grownBy_alloc w8 (.cells #[.slice (some ⟨g37, 0, none⟩) 5 c37] 40) none
      have hs8 := hb8.size
      have hb9 := hb8.alloc hs8 (.cells #[.slice (some ⟨g37, 0, none⟩) 5 c37] 40)
      have p9 := p8.alloc (.cells #[.slice (some ⟨g37, 0, none⟩) 5 c37] 40)
      have HW8 := Lib.hid hW8
      go_upto_region 12 with fail
      try rw [hW8]
      clear hW8 x7 f7 hg8 hb7
      go_wp2_with (at_builtin; refine app_list _ rfl (.tmp 48) (.tmp 50) 22 rfl Try.underlying22 hj jz0 jz1 jz2 rfl (by decide) rfl p9 rfl (m := 1) (news := [.slice (some ⟨g37, 0, none⟩) 5 c37]) ⟨rfl, .inr ⟨_, rfl, fun j u hu => hT9.cell_add (by simpa using hu)⟩⟩ (by intro u hu; simp at hu; subst hu; rfl) (by unfold maxLen; omega) (by omega) (by simp; omega) ?_)
      intro v51 w10 hB
      have hAI := hI5.step rfl hO5 (by omega) HFAR.out (by simp [Value.ownBlock]) hgr6 hA3' HW8.out.symm hgr9 hB
      have hb10 := hB.below p9 hb9 (by simp; omega)
      clear hB hA3' p8 p9 hb9 hb8 hI5 hO5 hT9 hgr6 hgr9
      go_wp2
      go_roundw
      case rel => exact ⟨k + 1, _, _, by omega, by go_num, by rw [HSS.out, HG.out], hAI, hb10⟩
      case measure => (simp [intOf]; try omega)
    · obtain rfl : k = l.length := by omega
      rw [← HLEN.out] at hA ⊢
      obtain ⟨a9, c9, rfl, hP⟩ := hA.pgS (by rw [HLEN.out]; omega)
      clear hA
      go_wp2
      go_ret2
      exact ⟨_, _, rfl, hP, hb⟩
end

section
theorem held_races {l : List Ev} {L : Nat} (hp : (played l).2.2 = 0) (h : HasL l L) : raceL l = [] := by
  refine raceL_nil fun i j hij hj => ?_
  cases hr : raceB l i j
  · rfl
  · obtain ⟨ai, aj, _, hR, _⟩ := raceB_iff.1 hr
    have := held_ordered hp hij hj (h i (by omega) (isAccR_iff.1 ai)) (h j hj (isAccR_iff.1 aj))
    rw [this] at hR; cases hR
end

section
open Go.RowKit

/-- n zeros. -/
def zI (n : Nat) : Array Value := ((List.replicate n (Value.int .i64 0))).toArray
set_option maxRecDepth 100000 in
theorem make_zeros (n : Nat) (hn : n ≤ 12) (W : World) : (Instr.makeSlice 23 (.int .i64 (n : Int)) (.int .i64 (n : Int))).run Try.prog W = .ok (.slice (some ⟨W.heap.size, 0, none⟩) n n) (W.alloc (.cells (zI n) 3)) := by
  rcases (by omega : n = 0 ∨ n = 1 ∨ n = 2 ∨ n = 3 ∨ n = 4 ∨ n = 5 ∨ n = 6 ∨ n = 7 ∨ n = 8 ∨ n = 9 ∨ n = 10 ∨ n = 11 ∨ n = 12) with rfl | rfl | rfl | rfl | rfl | rfl | rfl | rfl | rfl | rfl | rfl | rfl | rfl <;> kernel_rfl
theorem zI_ints {w : World} {g n : Nat} (h : Has w g (zI n) 3) (hn : n ≤ 1000) : IntS w (some ⟨g, 0, none⟩) (List.replicate n 0) :=
  ⟨by simp; omega, .inr ⟨g, 0, rfl, fun i hi => by rw [Nat.zero_add]; exact h.cell (by unfold zI; simp at hi; simp [hi])⟩⟩
theorem pgS_one {w : World} {g : Nat} {a : Option Addr} {z : List Ev} {c : Nat} {T : TypeId} (h : Has w g #[.slice a z.length c] T) (hz : EvS w a z) : PgS w (some ⟨g, 0, none⟩) [z] :=
  ⟨by simp, .inr ⟨g, 0, rfl, fun t ht => by
    obtain rfl : t = 0 := by simpa using ht
    exact ⟨a, c, h.cell rfl, hz⟩⟩⟩
theorem run_one (z : List Ev) (n : Nat) (hn : n = z.length) (a ap : Option Addr) (c cp : Nat) (w : World) (h : PgS w a [z]) (hq : IntS w ap (List.replicate n 0)) :
    Calls Try.prog 17 #[.slice a 1 c, .slice ap n cp] w (RunPost [z] (List.replicate z.length 0) w) := by
  subst hn
  have := run_any [z] (List.replicate z.length 0) a ap c cp w h hq
  rw [List.length_replicate] at this
  exact this
theorem IntS.takeN {w : World} {a : Option Addr} {l : List Int} (h : IntS w a l) (n : Nat) : IntS w a (l.take n) := by
  refine ⟨by have := h.big; simp; omega, ?_⟩
  rcases h.ok with h0 | ⟨b, o, ha, hc⟩
  · left; simp [h0]
  · right
    refine ⟨b, o, ha, fun i hi => ?_⟩
    rw [List.getElem_take]
    exact hc i (by simp at hi; omega)
end
open Go.ChangeShapes Go.WideShapes Go.ChangeAt Go.RowKit

/-- What a run of the adders leaves. -/
theorem atomic_end {ns : List Int} (hs : Small100 ns) (hl : ns.length ≤ 5) (picks : List Int) (hp : picks.length ≤ 100) :
    errR (adP ns) picks.length = 0 ∧ (played (evR (adP ns) picks)).2.2 = 0 ∧ raceL (evR (adP ns) picks) = [] ∧
    ∃ d m, (endR (adP ns) picks)[18]? = some (.bool d) ∧ (endR (adP ns) picks)[19]? = some (.bool false) ∧ (endR (adP ns) picks)[0]? = some (.int .i64 m) ∧ (d = true → m = sumF (fun t => ns.getD t 0) ns.length) := by
  have hO := adP_ok hs hl
  have he : errR (adP ns) picks.length = 0 := by unfold errR; rw [if_pos (ok_chk hO), if_neg (by omega)]
  have hV : evR (adP ns) picks = (runP (adP ns) picks).2 := by unfold evR; rw [if_pos he]
  have hE : endR (adP ns) picks = endC (runP (adP ns) picks).1 (doneB (adP ns) (runP (adP ns) picks).1) (stuckB (adP ns) (runP (adP ns) picks).1) := by unfold endR; rw [if_pos he]
  have hP : (played (runP (adP ns) picks).2).2.2 = 0 := by have := runP_may hO picks; rwa [mayB, beq_iff_eq] at this
  obtain ⟨h1, h2⟩ := ad_end (runP_IP hO picks) (ad_run hs hl picks)
  rw [hV, hE, h1]
  refine ⟨he, hP, held_races hP (runP_held hO adP_acc picks), _, _, ?_, ?_, ?_, h2⟩
  · rw [endC_get _ _ _ (by omega)]; rfl
  · rw [endC_get _ _ _ (by omega)]; rfl
  · rw [endC_get _ _ _ (by omega)]; rfl
theorem run_p (p : List (List Ev)) (picks : List Int) (np n : Nat) (hnp : p.length = np) (hn : picks.length = n) (a ap : Option Addr) (c cp : Nat) (w : World) (h : PgS w a p) (hq : IntS w ap picks) :
    Calls Try.prog 17 #[.slice a np c, .slice ap n cp] w (RunPost p picks w) := by
  subst hn; subst hnp; exact run_any p picks a ap c cp w h hq
theorem all_n (l : List Ev) (n : Nat) (hn : l.length = n) (a : Option Addr) (c : Nat) (w : World) (h : EvS w a l) (he : (played l).2.2 = 0) :
    Calls Try.prog 23 #[.slice a n c] w (RacPost (raceL l) w) := by
  subst hn; exact all_ok l a c w h he

set_option maxRecDepth 100000 in
set_option maxHeartbeats 8000000 in
theorem progAtomic_walk (a : Option Addr) (l0 : List Int) (c : Nat) (ap : Option Addr) (q0 : List Int) (cp : Nat) (w : World) (hl : IntS w a l0 ∧ l0.length ≤ c ∧ l0.length * 8 ≤ 140737488351232 ∧ ∀ n ∈ l0, I64 n) (hq : IntS w ap q0 ∧ q0.length ≤ cp ∧ q0.length * 8 ≤ 140737488351232 ∧ ∀ n ∈ q0, I64 n) :
    Calls Try.prog 8 #[.slice a l0.length c, .slice ap q0.length cp] w fun e w' => e = .returned (.bool true) ∧ Below w.heap.size w w' := by
  have hl5 := hl.1.takeN 5
  have hq5 := hq.1.takeN 100
  have hbl := hl.1.big
  have hbq := hq.1.big
  have hlc := hl.2.1
  have hqc := hq.2.1
  have h5 : (l0.take 5).length ≤ 5 := by simp; omega
  have h100 : (q0.take 100).length ≤ 100 := by simp; omega
  have HL := Lib.hid (show (l0.take 5).length = min 5 l0.length by simp)
  have HQ := Lib.hid (show (q0.take 100).length = min 100 q0.length by simp)
  generalize l0.take 5 = l at *
  generalize q0.take 100 = q at *
  clear hl hq
  go_enter Try.func8, Try.ntmps8
  go_wp2_with fail
  refine (ran_any _).mono ?_
  rintro r w1 ⟨rfl, hb1⟩
  go_wp2_with fail
  all_goals
    refine (adders_lock l _ (by have := HL.out; omega) h5 a c w1 (hl5.below hb1)).mono ?_
    rintro r w2 ⟨a2, c2, rfl, hP, hk⟩
    have hb2 := hb1.trans (hk.mono hb1.size)
    obtain ⟨e1, e2, e3, d, m, c18, c19, c0, hd⟩ := atomic_end (addM_small l) (by rw [addM_len]; exact h5) q h100
    have HS := Lib.hid (endR_size (adP (addM l)) q)
    have H1 := Lib.hid (endR_one (adP (addM l)) q)
    have E1 := Lib.hid e1
    have E2 := Lib.hid e2
    have E3 := Lib.hid e3
    have C18 := Lib.hid c18
    have C19 := Lib.hid c19
    have C0 := Lib.hid c0
    have HD := Lib.hid hd
    clear e1 e2 e3 c18 c19 c0 hd hk hb1 hl5
    generalize sumF (fun t => (addM l).getD t 0) (addM l).length = S at *
    generalize adP (addM l) = p at *
    go_wp2_with fail
    all_goals
      refine (run_p p q _ _ rfl (by have := HQ.out; omega) a2 ap c2 cp _ hP (hq5.below hb2)).mono ?_
      rintro r w3 ⟨a3, c3, _, rfl, hL, hk⟩
      have hb3 := hb2.trans (hk.mono hb2.size)
      rw [E1.out]
      clear hk hb2 hP
      generalize endR p q = Y at *
      generalize evR p q = L at *
      go_wp2_with (refine wpList_store_row rfl endT _ _ rfl w3.heap.size Y rfl rfl endT _ ((Has.new w3 (endC PS.zero false false) endT)).out (by rw [HS.out]; rfl) (by rw [HS.out, endC_size]) H1.out ?_
                   generalize hWx : World.setRow _ _ _ = W4
                   have hZ4 : Has W4 w3.heap.size Y endT := by rw [← hWx]; exact (Has.new w3 (endC PS.zero false false) endT).setRow
                   have hk4 : Below w3.heap.size w3 W4 := by rw [← hWx]; exact below_setRow ((Below.refl _ _).alloc (Nat.le_refl _) _) (Nat.le_refl _)
                   have hb4 := hb3.trans (hk4.mono hb3.size)
                   have hL4 := hL.below (hk4.mono (Nat.le_refl _))
                   clear hWx hk4 hL hb3)
      refine (all_n L _ rfl a3 c3 _ hL4 E2.out).mono ?_
      rintro r w5 ⟨v, rfl, hown, hk5⟩
      rw [E3.out] at hown
      obtain ⟨av, cv, rfl⟩ : ∃ a c, v = .slice a 0 c := by
        rcases hown.2 with ⟨hv, _⟩ | ⟨g, cap, _, hv, _⟩
        · exact ⟨_, _, hv⟩
        · exact ⟨_, _, hv⟩
      have hb5 := hb4.trans (hk5.mono hb4.size)
      have hZ5 := hZ4.below hk5 hZ4.lt
      have x0 := hZ5.cell C0.out
      have x18 := hZ5.cell C18.out
      have x19 := hZ5.cell C19.out
      clear hown hk5 hb4 hL4 hZ4
      cases d
      · go_wp2
        go_ret
        exact ⟨rfl, hb5⟩
      · have hm := HD.out rfl
        subst hm
        go_wp2
        go_ret
        exact ⟨rfl, hb5⟩

/-! The frame of the law ProgAtomic, by program. -/
set_option maxRecDepth 100000 in
theorem progAtomic_lifted (os : Os) (started : os.Started) (H : Type) (enc : TypeId × Value → H) :
    ReturnsInHanded {} Try.checked os 8 .any (Rows.progAtomicSpec.pre6 enc Try.prog Try.f8 Rows.progAtomicRow.domain false) (Rows.progAtomicSpec.post enc Try.prog Try.f8 false true false false) := by
  refine returnsInHanded_of_change_shaped (C := Try.checked) frame_own started (by kernel_rfl) Try.func8
    (ChangeSpec.witness6 (enc := enc) (C := Try.checked) false ⟨#[], #[.slice none 0 0, .slice none 0 0], []⟩ 8 (by kernel_rfl) (by kernel_rfl) (by kernel_rfl) (by kernel_rfl)) ?_
  intro W base args ds gs before hval0 hW hcnd hsz hshaped hroom
  clear hcnd hshaped
  have hval : ∀ (j : Nat) t v, Try.f8.params[j]? = some t → args[j]? = some v → Value.okWide Try.prog W .any base t v := hval0
  have hW' := hW
  obtain ⟨p, q, hA0, hV, rfl, hfz, hnd⟩ := hW
  have hA : DataW.TrodAll enc Try.prog W 0 (fun _ => true) true Try.f8.params.toList args.toList ds p := hA0
  rw [Try.params8] at hA hval
  obtain ⟨v0, vs0, d0, ds0, p0, q0, hargs, rfl, rfl, h0, r0⟩ := trodAll_cons hA
  obtain ⟨v1, vs1, d1, ds1, p1, q1, rfl, rfl, rfl, h1, r1⟩ := trodAll_cons r0
  obtain ⟨rfl, rfl, rfl⟩ := trodAll_nil r1
  obtain rfl : args = #[v0, v1] := by cases args; simp_all
  obtain ⟨rfl, rfl⟩ := trodVars_none hV
  have k0 := h0
  have lt0 : ∀ x ∈ p0, x.block < W.heap.size := by obtain ⟨m, hm⟩ := k0; exact DataW.trod_lt m _ _ _ hm
  obtain ⟨a0, z0, c0, rfl, w0⟩ := open_ints (hval 0 23 v0 rfl rfl) h0 (fun els sp hd => sized_slice hsz (j := 0) rfl (by rw [hd]; rfl) Try.underlying23)
  have k1 := h1
  have lt1 : ∀ x ∈ p1, x.block < W.heap.size := by obtain ⟨m, hm⟩ := k1; exact DataW.trod_lt m _ _ _ hm
  obtain ⟨a1, z1, c1, rfl, w1⟩ := open_ints (hval 1 23 v1 rfl rfl) h1 (fun els sp hd => sized_slice hsz (j := 1) rfl (by rw [hd]; rfl) Try.underlying23)
  clear hA0 hval0
  refine (progAtomic_walk a0 z0 c0 a1 z1 c1 W w0 w1).mono fun e W' ⟨he, bel⟩ => ?_
  subst he
  exact ⟨_, rfl, _, _, _, [], _, [], hW', trodAll_mk1 (shut_bool Try.underlying4 _), (trodAll_cons_mk (Below.trod frame_laid (by kernel_rfl) (of_decide_eq_true (by kernel_rfl)) k0 bel lt0) (trodAll_cons_mk (Below.trod frame_laid (by kernel_rfl) (of_decide_eq_true (by kernel_rfl)) k1 bel lt1) trodAll_mk0)), rfl, bel.frame _, fun h => by cases h⟩

theorem progAtomic_over : Rows.progAtomicRow.holds Try.pinned (OpenSpec.ofChange Rows.progAtomicSpec) :=
  OpenClaim.holds_of_wide 8 Try.f8 rfl rfl rfl rfl rfl rfl rfl ⟨rfl, rfl, rfl, rfl, rfl⟩ rfl rfl rfl rfl rfl (by kernel_rfl) Try.func8 (by kernel_rfl)
    (of_decide_eq_true (by kernel_rfl)) (by unfold Func.isWrapper; first | (rw [if_pos (by decide +kernel)]; kernel_rfl) | (rw [if_neg (by decide +kernel)]; exact ⟨rfl, rfl⟩))
    (fun os started H enc _ => progAtomic_lifted os started H enc)

/-- The statement. -/
theorem progAtomic_holds : Rows.ProgAtomicSaid := progAtomic_over

end Go.Proofs.Ythfeakfakjecoaa

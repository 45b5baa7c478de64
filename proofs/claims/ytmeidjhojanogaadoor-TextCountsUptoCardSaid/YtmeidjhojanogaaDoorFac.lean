/- Regions that draw their order, walked once in the order of the text: of each operation's value a fact is told that stands whatever runs between; some operations may turn what others of the region made. No program. -/
import Derived.Test.YtmeidjhojanogaaDoorQuT
namespace Go.Proofs.YtmeidjhojanogaaDoor
open Go.RowKit

/-- What is told of a value: what it is, or what holds of it. -/
inductive Fct where
  | one (x : Value)
  | rel (F : Value → World → Prop)
def Fct.so (f : Fct) (v : Value) (w : World) : Prop := match f with
  | .one x => v = x
  | .rel F => F v w
def depB (o : Oper) (j : Nat) : Bool := o.after.any fun e => Region.binds .any e && e.on == j
def updF {α : Type} (G : Nat → α) (i : Nat) (x : α) : Nat → α := fun j => if j = i then x else G j

/-! Acts in which some of the operations have run. -/
def runO (a : Act) (o : Oper) (x : Option Value) : Act := match x with
  | some v => a.put o.dst v
  | none => a
def actN (a : Act) : List Oper → Nat → (Nat → Option Value) → Act
  | [], _, _ => a
  | o :: l, i, ν => actN (runO a o (ν i)) l (i + 1) ν
theorem put_size (a : Act) (d : Option Tmp) (v : Value) : (a.put d v).tmps.size = a.tmps.size := by cases d <;> simp [Act.put]
theorem runO_size (a : Act) (o : Oper) (x : Option Value) : (runO a o x).tmps.size = a.tmps.size := by
  cases x
  · rfl
  · exact put_size _ _ _
theorem actN_size : ∀ (l : List Oper) (i : Nat) (ν : Nat → Option Value) (a : Act), (actN a l i ν).tmps.size = a.tmps.size
  | [], _, _, _ => rfl
  | o :: l, i, ν, a => by
    unfold actN
    rw [actN_size l, runO_size]
theorem put_get {a a' : Act} {d : Option Tmp} {v : Value} {t : Tmp} (hs : a.tmps.size = a'.tmps.size) (h : a.tmps[t]? = a'.tmps[t]?) : (a.put d v).tmps[t]? = (a'.put d v).tmps[t]? := by
  cases d with
  | none => exact h
  | some d =>
    simp only [Act.put, Array.getElem?_setIfInBounds]
    by_cases e : d = t
    · subst e; simp [hs]
    · simp [e, h]
theorem put_off {a : Act} {d : Option Tmp} {v : Value} {t : Tmp} (h : d ≠ some t) : (a.put d v).tmps[t]? = a.tmps[t]? := by
  cases d with
  | none => rfl
  | some d =>
    simp only [Act.put, Array.getElem?_setIfInBounds]
    rw [if_neg (fun e => h (by rw [e]))]
theorem runO_off {a : Act} {o : Oper} {x : Option Value} {t : Tmp} (h : o.dst = some t → x = none) : (runO a o x).tmps[t]? = a.tmps[t]? := by
  cases x with
  | none => rfl
  | some v => exact put_off fun e => by cases h e
theorem actN_off {t : Tmp} : ∀ (l : List Oper) (i : Nat) (ν : Nat → Option Value) (a : Act), (∀ k o, l[k]? = some o → o.dst = some t → ν (i + k) = none) → (actN a l i ν).tmps[t]? = a.tmps[t]?
  | [], _, _, _, _ => rfl
  | o :: l, i, ν, a, h => by
    unfold actN
    rw [actN_off l (i + 1) ν _ fun k o' hk hd => by
      have := h (k + 1) o' (by simpa using hk) hd
      rwa [show i + (k + 1) = i + 1 + k by omega] at this]
    exact runO_off fun hd => h 0 o rfl hd
theorem actN_get {t : Tmp} : ∀ (l m : List Oper) (i : Nat) (ν μ : Nat → Option Value) (a a' : Act), a.tmps.size = a'.tmps.size → a.tmps[t]? = a'.tmps[t]? →
    (∀ k o, l[k]? = some o → o.dst = some t → ν (i + k) ≠ none → m[k]? = some o ∧ μ (i + k) = ν (i + k)) → (∀ k o, m[k]? = some o → o.dst = some t → μ (i + k) ≠ none → l[k]? = some o ∧ ν (i + k) = μ (i + k)) →
    (actN a l i ν).tmps[t]? = (actN a' m i μ).tmps[t]?
  | [], m, i, ν, μ, a, a', _, h, _, h2 => by
    rw [actN_off m i μ a' fun k o hk hd => by
      apply Classical.byContradiction
      intro hn
      have := (h2 k o hk hd hn).1
      simp at this]
    exact h
  | o :: l, [], i, ν, μ, a, a', _, h, h1, _ => by
    rw [actN_off (o :: l) i ν a fun k o' hk hd => by
      apply Classical.byContradiction
      intro hn
      have := (h1 k o' hk hd hn).1
      simp at this]
    exact h
  | o :: l, o' :: m, i, ν, μ, a, a', hs, h, h1, h2 => by
    unfold actN
    refine actN_get l m (i + 1) ν μ _ _ (by rw [runO_size, runO_size, hs]) ?_ (fun k o'' hk hd hn => ?_) (fun k o'' hk hd hn => ?_)
    · by_cases c : o.dst = some t ∧ ν i ≠ none
      · obtain ⟨e1, e2⟩ := h1 0 o rfl c.1 (by rw [Nat.add_zero]; exact c.2)
        rw [Nat.add_zero] at e2
        obtain rfl : o' = o := by simpa using e1
        rw [e2]
        cases hv : ν i with
        | none => exact absurd hv c.2
        | some v => exact put_get hs h
      · by_cases c' : o'.dst = some t ∧ μ i ≠ none
        · obtain ⟨e1, e2⟩ := h2 0 o' rfl c'.1 (by rw [Nat.add_zero]; exact c'.2)
          rw [Nat.add_zero] at e2
          obtain rfl : o = o' := by simpa using e1
          exact absurd ⟨c'.1, by rw [e2]; exact c'.2⟩ c
        · rw [runO_off fun hd => by
            apply Classical.byContradiction
            exact fun hn => c ⟨hd, hn⟩, runO_off fun hd => by
            apply Classical.byContradiction
            exact fun hn => c' ⟨hd, hn⟩]
          exact h
    · have := h1 (k + 1) o'' (by simpa using hk) hd (by rw [show i + (k + 1) = i + 1 + k by omega]; exact hn)
      rw [show i + (k + 1) = i + 1 + k by omega] at this
      exact ⟨by simpa using this.1, this.2⟩
    · have := h2 (k + 1) o'' (by simpa using hk) hd (by rw [show i + (k + 1) = i + 1 + k by omega]; exact hn)
      rw [show i + (k + 1) = i + 1 + k by omega] at this
      exact ⟨by simpa using this.1, this.2⟩
theorem actN_eval {x : Operand} (hx : ∀ t, x ≠ .tmp t) : ∀ (l : List Oper) (i : Nat) (ν : Nat → Option Value) (a : Act), (actN a l i ν).eval x = a.eval x
  | [], _, _, _ => rfl
  | o :: l, i, ν, a => by
    unfold actN
    rw [actN_eval hx l]
    cases ν i
    · rfl
    · exact Act.eval_put fun d _ => hx d
theorem eval_tmp {a a' : Act} {t : Tmp} (h : a.tmps[t]? = a'.tmps[t]?) : a.eval (.tmp t) = a'.eval (.tmp t) := by simp [Act.eval, h]
theorem actN_put_out {d : Tmp} {v : Value} : ∀ (l : List Oper) (i : Nat) (ν : Nat → Option Value) (a : Act), (∀ o ∈ l, o.dst ≠ some d) → (actN a l i ν).put (some d) v = actN (a.put (some d) v) l i ν
  | [], _, _, _, _ => rfl
  | o :: l, i, ν, a, h => by
    unfold actN
    rw [actN_put_out l _ _ _ fun o' ho' => h o' (by simp [ho'])]
    cases ν i
    · rfl
    · show actN ((a.put o.dst _).put (some d) v) l (i + 1) ν = actN ((a.put (some d) v).put o.dst _) l (i + 1) ν
      rw [Act.put_comm]
      intro d' hd' hd
      exact h o (by simp) (by rw [hd', hd])
theorem actN_ext : ∀ (l : List Oper) (i : Nat) (ν μ : Nat → Option Value) (a : Act), (∀ k, k < l.length → ν (i + k) = μ (i + k)) → actN a l i ν = actN a l i μ
  | [], _, _, _, _, _ => rfl
  | o :: l, i, ν, μ, a, h => by
    unfold actN
    rw [show ν i = μ i from h 0 (by simp), actN_ext l (i + 1) ν μ _ fun k hk => by
      have := h (k + 1) (by simpa using hk)
      rwa [show i + (k + 1) = i + 1 + k by omega] at this]
theorem actN_put {o : Oper} {v : Value} : ∀ (l : List Oper) (i k : Nat) (ν : Nat → Option Value) (a : Act), l[k]? = some o → ν (i + k) = none → (∀ m o', l[m]? = some o' → m ≠ k → ∀ d, o.dst = some d → o'.dst ≠ some d) →
    (actN a l i ν).put o.dst v = actN a l i (updF ν (i + k) (some v)) := by
  intro l
  induction l with
  | nil => intro i k ν a h; simp at h
  | cons o' l ih =>
    intro i k ν a h hn hd
    cases k with
    | zero =>
      obtain rfl : o' = o := by simpa using h
      show (actN (runO a o' (ν i)) l (i + 1) ν).put o'.dst v = actN (runO a o' (updF ν (i + 0) (some v) i)) l (i + 1) (updF ν (i + 0) (some v))
      rw [show ν i = none from hn, show updF ν (i + 0) (some v) i = some v by simp [updF]]
      have hx : actN (a.put o'.dst v) l (i + 1) (updF ν (i + 0) (some v)) = actN (a.put o'.dst v) l (i + 1) ν := actN_ext _ _ _ _ _ fun k _ => by unfold updF; rw [if_neg (by omega)]
      show (actN a l (i + 1) ν).put o'.dst v = actN (a.put o'.dst v) l (i + 1) (updF ν (i + 0) (some v))
      rw [hx]
      cases hdst : o'.dst with
      | none => rfl
      | some d =>
        refine actN_put_out l _ _ _ fun o'' ho'' => ?_
        · obtain ⟨m, hm⟩ := List.mem_iff_getElem?.1 ho''
          exact hd (m + 1) o'' (by simpa using hm) (by omega) d hdst
    | succ k =>
      have e : i + (k + 1) = i + 1 + k := by omega
      show (actN (runO a o' (ν i)) l (i + 1) ν).put o.dst v = actN (runO a o' (updF ν (i + (k + 1)) (some v) i)) l (i + 1) (updF ν (i + (k + 1)) (some v))
      rw [show updF ν (i + (k + 1)) (some v) i = ν i by unfold updF; rw [if_neg (by omega)], e]
      exact ih (i + 1) k ν _ (by simpa using h) (by rw [← e]; exact hn) fun m o'' hm hne => hd (m + 1) o'' (by simpa using hm) (by omega)

/-! Who waits for whom. -/
def maskO (M : List Nat) (o : Oper) : Nat := o.after.toList.foldl (fun m e => if Region.binds .any e then m ||| (2 ^ e.on ||| M.getD e.on 0) else m) 0
def maskL : List Oper → List Nat → List Nat
  | [], acc => acc
  | o :: l, acc => maskL l (acc ++ [maskO acc o])
theorem mask_fold {M : List Nat} {k : Nat} : ∀ (es : List Edge) (m : Nat), (es.foldl (fun m e => if Region.binds .any e then m ||| (2 ^ e.on ||| M.getD e.on 0) else m) m).testBit k = true → m.testBit k = true ∨ ∃ e ∈ es, Region.binds .any e = true ∧ (e.on = k ∨ (M.getD e.on 0).testBit k = true)
  | [], m, h => .inl h
  | e :: es, m, h => by
    rw [List.foldl_cons] at h
    rcases mask_fold es _ h with h1 | ⟨e', he', h2⟩
    · by_cases hb : Region.binds .any e = true
      · rw [if_pos hb, Nat.testBit_or, Nat.testBit_or, Nat.testBit_two_pow, Bool.or_eq_true, Bool.or_eq_true, decide_eq_true_iff] at h1
        rcases h1 with h1 | h1 | h1
        · exact .inl h1
        · exact .inr ⟨e, by simp, hb, .inl h1⟩
        · exact .inr ⟨e, by simp, hb, .inr h1⟩
      · rw [if_neg hb] at h1; exact .inl h1
    · exact .inr ⟨e', by simp [he'], h2⟩
theorem maskO_spec {M : List Nat} {o : Oper} {k : Nat} (h : (maskO M o).testBit k = true) : ∃ e ∈ o.after, Region.binds .any e = true ∧ (e.on = k ∨ (M.getD e.on 0).testBit k = true) := by
  rcases mask_fold o.after.toList 0 h with h | ⟨e, he, h⟩
  · simp at h
  · exact ⟨e, by simpa using he, h⟩
structure FacOk (ops : List Oper) (n : Nat) (wk hd : Nat → Bool) (M : List Nat) : Prop where
  sel : Region.noSelect ops.toArray = true
  nd : noDefer ops.toArray = true
  le : n ≤ ops.length
  tail : n = ops.length ∨ (Region.sinkB .any ops.toArray n = true ∧ Region.chainB .any ops.toArray n = true)
  seq : Region.seqB .any ops.toArray (ops.length - n) n (Array.replicate n true ++ Array.replicate (ops.length - n) false) = true
  before : ∀ i o, i < n → ops[i]? = some o → ∀ e ∈ o.after, Region.binds .any e = true → e.on < i
  mask : ∀ i o, i < n → ops[i]? = some o → M.getD i 0 = maskO M o
  apart : ∀ i j oi oj, i < n → j < n → i ≠ j → ops[i]? = some oi → ops[j]? = some oj → ∀ d, oi.dst = some d → oj.dst ≠ some d
  looks : ∀ i j oi oj, i < n → j < n → ops[i]? = some oi → ops[j]? = some oj → ∀ d, oj.dst = some d → d ∈ oi.looksAt ops.toArray → depB oi j = true ∨ depB oj i = true
  weak : ∀ i j k ok, i < n → j < n → k < n → wk i = true → hd j = false → i ≠ j → (M.getD j 0).testBit i = false → ops[k]? = some ok → depB ok j = true → k = i ∨ (M.getD i 0).testBit k = true
def facB (ops : List Oper) (n : Nat) (wk hd : Nat → Bool) (M : List Nat) : Bool :=
  Region.noSelect ops.toArray && noDefer ops.toArray && decide (n ≤ ops.length) && (n == ops.length || (Region.sinkB .any ops.toArray n && Region.chainB .any ops.toArray n)) &&
  Region.seqB .any ops.toArray (ops.length - n) n (Array.replicate n true ++ Array.replicate (ops.length - n) false) &&
  ((List.range n).all fun i => (ops[i]?).all fun oi => (oi.after.toList.all fun e => !Region.binds .any e || decide (e.on < i)) && M.getD i 0 == maskO M oi &&
    (List.range n).all fun j => (ops[j]?).all fun oj => (i == j || oi.dst == none || oi.dst != oj.dst) && (match oj.dst with | some d => !(oi.looksAt ops.toArray).contains d || depB oi j || depB oj i | none => true)) &&
  ((List.range n).all fun i => !wk i || (List.range n).all fun j => hd j || i == j || (M.getD j 0).testBit i || (List.range n).all fun k => (ops[k]?).all fun ok => !depB ok j || k == i || (M.getD i 0).testBit k)
theorem facB_ok {ops : List Oper} {n : Nat} {wk hd : Nat → Bool} {M : List Nat} (h : facB ops n wk hd M = true) : FacOk ops n wk hd M := by
  simp only [facB, Bool.and_eq_true, Bool.or_eq_true, decide_eq_true_eq, beq_iff_eq, List.all_eq_true, List.mem_range, Option.all_eq_true, Bool.not_eq_true', bne_iff_ne] at h
  obtain ⟨⟨⟨⟨⟨⟨h1, h2⟩, h3⟩, h4⟩, h5⟩, h6⟩, h7⟩ := h
  refine ⟨h1, h2, h3, h4, h5, fun i o hi ho e he hb => ?_, fun i o hi ho => ((h6 i hi o ho).1).2, fun i j oi oj hi hj hne hoi hoj d hd hd' => ?_, fun i j oi oj hi hj hoi hoj d hd hl => ?_, fun i j k ok hi hj hk hw hhd hne hm hok hdep => ?_⟩
  · have := ((h6 i hi o ho).1).1 e (by simpa using he)
    rcases this with h | h
    · rw [hb] at h; cases h
    · exact h
  · have := (((h6 i hi oi hoi).2) j hj oj hoj).1
    rcases this with (h | h) | h
    · exact hne h
    · rw [hd] at h; cases h
    · exact h (by rw [hd, hd'])
  · have := (((h6 i hi oi hoi).2) j hj oj hoj).2
    rw [hd] at this
    simp only [Bool.or_eq_true, Bool.not_eq_true'] at this
    rcases this with (h | h) | h
    · rw [List.contains_eq_mem] at h
      simp [hl] at h
    · exact .inl h
    · exact .inr h
  · rcases h7 i hi with h | h
    · rw [hw] at h; cases h
    · rcases h j hj with ((h | h) | h) | h
      · rw [hhd] at h; cases h
      · exact absurd h hne
      · rw [hm] at h; cases h
      · rcases h k hk ok hok with (h | h) | h
        · rw [hdep] at h; cases h
        · exact .inl h
        · exact .inr h
end Go.Proofs.YtmeidjhojanogaaDoor

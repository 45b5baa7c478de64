/- A set of pairs in memory: a map[api.Pair]bool that the call makes. -/
import Derived.Test.YtmeidjhojanogaaPrs
import Derived.Test.YtmeidjhojanogaaKeyP
namespace Go.Proofs.Ytmeidjhojanogaa
open Go.RowKit Go.Maps

theorem map_laid : laidOutB Try.prog = true := by kernel_rfl
set_option maxRecDepth 100000 in
theorem pr_keyType : Try.prog.keyType 74 = true := by kernel_rfl
set_option maxRecDepth 100000 in
theorem pr_cells : Try.prog.cellsOf 74 = 2 := by kernel_rfl
set_option maxRecDepth 100000 in
theorem int_cells : Try.prog.cellsOf 3 = 1 := by kernel_rfl
set_option maxRecDepth 100000 in
theorem pr_row : (74 : TypeId) < Try.prog.types.size := of_decide_eq_true (by kernel_rfl)
set_option maxRecDepth 100000 in
theorem pr_deep : Try.prog.keyTypeAt 2 74 = true := by kernel_rfl
set_option maxRecDepth 100000 in
theorem pr_wide : (match Try.prog.underlying 74 with | some (.array _ _) | some (.struct _) => true | _ => false) = true := by rw [Try.underlying74]
set_option maxRecDepth 100000 in
theorem pr_keyed : Keyed Try.prog 74 := Keyed.of_law (deep_law_laid map_laid (m := 2) (by omega) pr_row pr_deep pr_wide)
set_option maxRecDepth 100000 in
theorem zero_bool (w : World) : (zeroValue 4).run Try.prog w = .ok (.bool false) w := by kernel_rfl
set_option maxRecDepth 100000 in
theorem keyOf_pr (p : Int × Int) (h1 : I64 p.1) (h2 : I64 p.2) : keyOf Try.prog 74 (prV p) = some (prKey p) := by
  have w1 : (Lit.int .i64 p.1).wf = true := WalkArith.wf_i64 h1
  have w2 : (Lit.int .i64 p.2).wf = true := WalkArith.wf_i64 h2
  exact keyOf_pair Try.underlying74 rfl rfl rfl rfl (by decide) (by decide) Try.underlying3 pr_cells int_cells pr_keyType (Nat.succ_pred_eq_of_pos (Nat.lt_of_le_of_lt (Nat.zero_le _) pr_row)).symm p w1 w2

/-- Block b is a map whose keys are the pairs of S, all at true. -/
def prD (S : List (Int × Int)) : DataW Unit := setOf (.lit (.bool true)) (S.map prKey)
abbrev MapP (w : World) (b n : Nat) (S : List (Int × Int)) : Prop := w.ownsMap Try.prog 74 (plainElem Try.prog 4) b n (prD S)
theorem prD_snoc (S : List (Int × Int)) (p : Int × Int) : prD (S ++ [p]) = (prD S).put (prKey p) (.lit (.bool true)) := by
  simp only [prD, List.map_append, List.map_cons, List.map_nil, setOf_snoc]
theorem prKey_inj {p q : Int × Int} (p1 : I64 p.1) (p2 : I64 p.2) (q1 : I64 q.1) (q2 : I64 q.2) (h : prKey p = prKey q) : p = q := by
  have e := pr_keyed.inj (keyOf_pr p p1 p2) (by rw [h]; exact keyOf_pr q q1 q2)
  simp only [prV, prC, Value.agg.injEq] at e
  have := congrArg Array.toList e
  simp at this
  exact Prod.ext this.1 this.2
theorem isKey_pr (p : Int × Int) : WideAt.IsKeyLit (prKey p) := trivial
theorem isMap_prD (S : List (Int × Int)) : IsMap (prD S) := (tidy_setOf _ _ (by intro x hx; obtain ⟨p, _, rfl⟩ := List.mem_map.1 hx; exact isKey_pr p)).isMap
def I64P (p : Int × Int) : Prop := I64 p.1 ∧ I64 p.2
def inB (S : List (Int × Int)) (p : Int × Int) : Bool := decide (p ∈ S)
theorem snoc_ind {α : Type} {C : List α → Prop} (h0 : C []) (h1 : ∀ l x, C l → C (l ++ [x])) (l : List α) : C l := by
  have h : ∀ m : List α, C m.reverse := by
    intro m
    induction m with
    | nil => exact h0
    | cons x m ih => rw [List.reverse_cons]; exact h1 _ _ ih
  have h2 := h l.reverse
  rwa [List.reverse_reverse] at h2
theorem prD_at (p : Int × Int) (hp : I64P p) (S : List (Int × Int)) (hS : ∀ q ∈ S, I64P q) : (prD S).atKey (prKey p) (.lit (.bool false)) = .lit (.bool (inB S p)) := by
  revert hS
  refine snoc_ind (C := fun S => (∀ q ∈ S, I64P q) → (prD S).atKey (prKey p) (.lit (.bool false)) = .lit (.bool (inB S p))) (fun _ => rfl) ?_ S
  · intro S q ih hS
    have hq := hS q (by simp)
    rw [prD_snoc]
    by_cases e : p = q
    · subst e
      rw [atKey_put_same (isMap_prD S) (isKey_pr p)]
      simp [inB]
    · have hne : prKey p ≠ prKey q := fun h => e (prKey_inj hp.1 hp.2 hq.1 hq.2 h)
      rw [atKey_put_other hne, ih fun q hq => hS q (by simp [hq])]
      simp [inB, e]
theorem plainElem_bool_inv {P : Program} {e : TypeId} (he : P.underlying e = some .bool) {v : Value} {z : DataW Unit × List MemPlace} (h : plainElem P e v = some z) : ∃ x, v = .bool x ∧ z = (.lit (.bool x), []) := by
  unfold plainElem at h
  rw [he] at h
  cases v <;> simp at h
  exact ⟨_, rfl, h.symm⟩
/-- 'm[p]'. -/
theorem MapP.look {w : World} {b n : Nat} {S : List (Int × Int)} (h : MapP w b n S) (hS : ∀ q ∈ S, I64P q) (p : Int × Int) (hp : I64P p) : (Instr.lookup 72 (.map (some b)) (prV p) false).run Try.prog w = .ok (.bool (inB S p)) w := by
  obtain ⟨v, ps, hrun, hv⟩ := h.lookup pr_keyed Try.underlying72 (zero_bool w) (plainElem_bool Try.underlying4 false) (keyOf_pr p hp.1 hp.2)
  obtain ⟨x, rfl, hx⟩ := plainElem_bool_inv Try.underlying4 hv
  rw [prD_at p hp S hS] at hx
  simp at hx
  rw [hrun, hx.1]
/-- 'm[p] = true'. -/
theorem MapP.put {w : World} {b n : Nat} {S : List (Int × Int)} (h : MapP w b n S) (hn : n < maxLen) (p : Int × Int) (hp : I64P p) : ∃ w', (Instr.mapUpdate 72 (.map (some b)) (prV p) (.bool true)).run Try.prog w = .ok () w' ∧ MapP w' b (n + 1) (S ++ [p]) ∧ w.grownBy w' (some b) := by
  obtain ⟨w', h1, h2, h3⟩ := World.ownsMap.update h pr_keyed Try.underlying72 hn (keyOf_pr p hp.1 hp.2) (plainElem_bool Try.underlying4 true)
  exact ⟨w', h1, by rw [MapP, prD_snoc]; exact h2, h3⟩
theorem MapP.made (w : World) : MapP (w.alloc (.map #[] 0)) w.heap.size 0 [] := World.ownsMap_made w _ _ _
end Go.Proofs.Ytmeidjhojanogaa

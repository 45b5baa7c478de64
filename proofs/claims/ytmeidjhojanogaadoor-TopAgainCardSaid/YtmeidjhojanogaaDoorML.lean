/- Joined texts. -/
import Derived.Test.YtmeidjhojanogaaDoorOpen
import Derived.DeepKeys4
import Derived.Maps.OwnOps
import Derived.Maps.Views
import Derived.Test.YtmeidjhojanogaaDoorMD
import Derived.Test.YtmeidjhojanogaaDoorMO

/- How a struct of two ints reads as a map's key. Any program. -/
namespace Go.Proofs.YtmeidjhojanogaaDoor
open Go.RowKit Go.Maps

/-- What a pair reads as. -/
def prKey (p : Int × Int) : Lit := .string (keyBytes [.int .i64 p.1, .int .i64 p.2])
theorem keyOf_pair {P : Program} {k e : TypeId} {f0 f1 : Field} {n : Nat} (hk : P.underlying k = some (.struct #[f0, f1])) (h0 : f0.type = e) (h1 : f1.type = e) (o0 : f0.offset = 0) (o1 : f1.offset = 1) (n0 : (f0.name != "_") = true) (n1 : (f1.name != "_") = true)
    (he : P.underlying e = some (.int .i64)) (hc : P.cellsOf k = 2) (hce : P.cellsOf e = 1) (hkt : P.keyType k = true) (hn : P.types.size = n + 1) (p : Int × Int) (w1 : (Lit.int .i64 p.1).wf = true) (w2 : (Lit.int .i64 p.2).wf = true) :
    keyOf P k (.agg #[.int .i64 p.1, .int .i64 p.2]) = some (prKey p) := by
  have hf : (Value.agg #[.int .i64 p.1, .int .i64 p.2]).formed P k = true := by simp [Value.formed, hk, hc]
  have hl : P.keyLits (P.types.size + 1) k [.int .i64 p.1, .int .i64 p.2] = some [.int .i64 p.1, .int .i64 p.2] := by
    rw [hn]
    simp [Program.keyLits, hk, hc, hce, h0, h1, o0, o1, he, w1, w2] at n0 n1 ⊢
    exact ⟨n0, n1⟩
  simp only [keyOf, hk, hkt, hf, Value.cells, hl, Bool.and_self, if_true, prKey]
  rfl
end Go.Proofs.YtmeidjhojanogaaDoor

/- A set of pairs in memory: a map[api.Pair]bool that the call makes. -/
namespace Go.Proofs.YtmeidjhojanogaaDoor
open Go.RowKit Go.Maps

theorem map_laid : laidOutB Tryd.prog = true := by kernel_rfl
set_option maxRecDepth 100000 in
theorem pr_keyType : Tryd.prog.keyType 76 = true := by kernel_rfl
set_option maxRecDepth 100000 in
theorem pr_cells : Tryd.prog.cellsOf 76 = 2 := by kernel_rfl
set_option maxRecDepth 100000 in
theorem int_cells : Tryd.prog.cellsOf 3 = 1 := by kernel_rfl
set_option maxRecDepth 100000 in
theorem pr_row : (76 : TypeId) < Tryd.prog.types.size := of_decide_eq_true (by kernel_rfl)
set_option maxRecDepth 100000 in
theorem pr_deep : Tryd.prog.keyTypeAt 2 76 = true := by kernel_rfl
set_option maxRecDepth 100000 in
theorem pr_wide : (match Tryd.prog.underlying 76 with | some (.array _ _) | some (.struct _) => true | _ => false) = true := by rw [Tryd.underlying76]
set_option maxRecDepth 100000 in
theorem pr_keyed : Keyed Tryd.prog 76 := Keyed.of_law (deep_law_laid map_laid (m := 2) (by omega) pr_row pr_deep pr_wide)
set_option maxRecDepth 100000 in
theorem zero_bool (w : World) : (zeroValue 4).run Tryd.prog w = .ok (.bool false) w := by kernel_rfl
set_option maxRecDepth 100000 in
theorem keyOf_pr (p : Int × Int) (h1 : I64 p.1) (h2 : I64 p.2) : keyOf Tryd.prog 76 (prV p) = some (prKey p) := by
  have w1 : (Lit.int .i64 p.1).wf = true := WalkArith.wf_i64 h1
  have w2 : (Lit.int .i64 p.2).wf = true := WalkArith.wf_i64 h2
  exact keyOf_pair Tryd.underlying76 rfl rfl rfl rfl (by decide) (by decide) Tryd.underlying3 pr_cells int_cells pr_keyType (Nat.succ_pred_eq_of_pos (Nat.lt_of_le_of_lt (Nat.zero_le _) pr_row)).symm p w1 w2

/-- Block b is a map whose keys are the pairs of S, all at true. -/
def prD (S : List (Int × Int)) : DataW Unit := setOf (.lit (.bool true)) (S.map prKey)
abbrev MapP (w : World) (b n : Nat) (S : List (Int × Int)) : Prop := w.ownsMap Tryd.prog 76 (plainElem Tryd.prog 4) b n (prD S)
theorem prD_snoc (S : List (Int × Int)) (p : Int × Int) : prD (S ++ [p]) = (prD S).put (prKey p) (.lit (.bool true)) := by
  simp only [prD, List.map_append, List.map_cons, List.map_nil, setOf_snoc]
theorem prKey_inj {p q : Int × Int} (p1 : I64 p.1) (p2 : I64 p.2) (q1 : I64 q.1) (q2 : I64 q.2) (h : prKey p = prKey q) : p = q := by
  have e := pr_keyed.inj (keyOf_pr p p1 p2) (by rw [h]; exact keyOf_pr q q1 q2)
  simp only [prV, prC, Value.agg.injEq] at e
  have := congrArg Array.toList e
  simp at this
  exact Prod.ext this.1 this.2
theorem isKey_pr (p : Int × Int) : WideAt.IsKeyLit (prKey p) := trivial
theorem isMap_prD (S : List (Int × Int)) : IsMap (prD S) := (tidy_setOf _ _ (by intro x hx; obtain ⟨p, _, rfl⟩ := List.mem_map.1 hx; exact isKey_pr p)).isMap
def I64P (p : Int × Int) : Prop := I64 p.1 ∧ I64 p.2
def inB (S : List (Int × Int)) (p : Int × Int) : Bool := decide (p ∈ S)
theorem snoc_ind {α : Type} {C : List α → Prop} (h0 : C []) (h1 : ∀ l x, C l → C (l ++ [x])) (l : List α) : C l := by
  have h : ∀ m : List α, C m.reverse := by
    intro m
    induction m with
    | nil => exact h0
    | cons x m ih => rw [List.reverse_cons]; exact h1 _ _ ih
  have h2 := h l.reverse
  rwa [List.reverse_reverse] at h2
theorem prD_at (p : Int × Int) (hp : I64P p) (S : List (Int × Int)) (hS : ∀ q ∈ S, I64P q) : (prD S).atKey (prKey p) (.lit (.bool false)) = .lit (.bool (inB S p)) := by
  revert hS
  refine snoc_ind (C := fun S => (∀ q ∈ S, I64P q) → (prD S).atKey (prKey p) (.lit (.bool false)) = .lit (.bool (inB S p))) (fun _ => rfl) ?_ S
  · intro S q ih hS
    have hq := hS q (by simp)
    rw [prD_snoc]
    by_cases e : p = q
    · subst e
      rw [atKey_put_same (isMap_prD S) (isKey_pr p)]
      simp [inB]
    · have hne : prKey p ≠ prKey q := fun h => e (prKey_inj hp.1 hp.2 hq.1 hq.2 h)
      rw [atKey_put_other hne, ih fun q hq => hS q (by simp [hq])]
      simp [inB, e]
theorem plainElem_bool_inv {P : Program} {e : TypeId} (he : P.underlying e = some .bool) {v : Value} {z : DataW Unit × List MemPlace} (h : plainElem P e v = some z) : ∃ x, v = .bool x ∧ z = (.lit (.bool x), []) := by
  unfold plainElem at h
  rw [he] at h
  cases v <;> simp at h
  exact ⟨_, rfl, h.symm⟩
/-- 'm[p]'. -/
theorem MapP.look {w : World} {b n : Nat} {S : List (Int × Int)} (h : MapP w b n S) (hS : ∀ q ∈ S, I64P q) (p : Int × Int) (hp : I64P p) : (Instr.lookup 74 (.map (some b)) (prV p) false).run Tryd.prog w = .ok (.bool (inB S p)) w := by
  obtain ⟨v, ps, hrun, hv⟩ := h.lookup pr_keyed Tryd.underlying74 (zero_bool w) (plainElem_bool Tryd.underlying4 false) (keyOf_pr p hp.1 hp.2)
  obtain ⟨x, rfl, hx⟩ := plainElem_bool_inv Tryd.underlying4 hv
  rw [prD_at p hp S hS] at hx
  simp at hx
  rw [hrun, hx.1]
/-- 'm[p] = true'. -/
theorem MapP.put {w : World} {b n : Nat} {S : List (Int × Int)} (h : MapP w b n S) (hn : n < maxLen) (p : Int × Int) (hp : I64P p) : ∃ w', (Instr.mapUpdate 74 (.map (some b)) (prV p) (.bool true)).run Tryd.prog w = .ok () w' ∧ MapP w' b (n + 1) (S ++ [p]) ∧ w.grownBy w' (some b) := by
  obtain ⟨w', h1, h2, h3⟩ := World.ownsMap.update h pr_keyed Tryd.underlying74 hn (keyOf_pr p hp.1 hp.2) (plainElem_bool Tryd.underlying4 true)
  exact ⟨w', h1, by rw [MapP, prD_snoc]; exact h2, h3⟩
theorem MapP.made (w : World) : MapP (w.alloc (.map #[] 0)) w.heap.size 0 [] := World.ownsMap_made w _ _ _
end Go.Proofs.YtmeidjhojanogaaDoor

/- Contract of the laws' 'ahead'. -/
namespace Go.Proofs.YtmeidjhojanogaaDoor
open Go.RowKit Go.Maps

theorem I64P_bef {l : List Ev} (hl : l.length ≤ 80) : ∀ p ∈ befL l, I64P p := by
  intro p hp
  obtain ⟨i, j, rfl, hij, hj, _⟩ := mem_allP.1 hp
  exact ⟨⟨by simp only; omega, by simp only; omega⟩, ⟨by simp only; omega, by simp only; omega⟩⟩
theorem befL_len (l : List Ev) (hl : l.length ≤ 80) : (befL l).length ≤ 6400 := by
  have h1 := allP_len (befM l) l.length l.length
  have h2 : l.length * l.length ≤ 80 * 80 := Nat.mul_le_mul hl hl
  simp only [befL]
  omega
def AheadPost (L : List (Int × Int)) (w : World) (r : Ending) (w' : World) : Prop := ∃ b n, r = .returned (.map (some b)) ∧ w.heap.size ≤ b ∧ n ≤ 6400 ∧ MapP w' b n L ∧ Below w.heap.size w w'
end Go.Proofs.YtmeidjhojanogaaDoor

/- What the laws on 'order' share. -/
namespace Go.Proofs.YtmeidjhojanogaaDoor
open Go.RowKit Go.Maps

theorem mayB_played {l : List Ev} (h : mayB l = true) : (played l).2.2 = 0 := by
  obtain ⟨h1, h2⟩ := mayB_iff.1 h
  rw [played_small h1]; exact h2
/-- A look-up in the map, in whatever world that the map has drawn into. -/
theorem MapP.looks {w : World} {b n : Nat} {l : List Ev} (h : MapP w b n (befL l)) (hl : l.length ≤ 80) (i j : Nat) (hi : i < l.length) (hj : j < l.length) :
    ∀ k, (Instr.lookup 74 (.map (some b)) (.agg #[.int .i64 (i : Int), .int .i64 (j : Int)]) false).run Tryd.prog (w.drewN k) = .ok (.bool (R l j i)) (w.drewN k) := by
  intro k
  have e : inB (befL l) ((i : Int), (j : Int)) = R l j i := by
    apply Bool.eq_iff_iff.2
    simp only [inB, decide_eq_true_eq, mem_befL_nat]
    exact ⟨fun h => h.2, fun h => ⟨hj, h⟩⟩
  rw [← e]
  have hk : MapP (w.drewN k) b n (befL l) := by
    induction k with
    | zero => exact h
    | succ k ih => exact ih
  exact hk.look (I64P_bef hl) ((i : Int), (j : Int)) ⟨⟨by simp only; omega, by simp only; omega⟩, ⟨by simp only; omega, by simp only; omega⟩⟩
theorem MapP.look1 {w : World} {b n : Nat} {l : List Ev} (h : MapP w b n (befL l)) (hl : l.length ≤ 80) (i j : Nat) (hi : i < l.length) (hj : j < l.length) :
    (Instr.lookup 74 (.map (some b)) (.agg #[.int .i64 (i : Int), .int .i64 (j : Int)]) false).run Tryd.prog w = .ok (.bool (R l j i)) w := h.looks hl i j hi hj 0
theorem MapP.below {w w' : World} {b n : Nat} {L : List (Int × Int)} (h : MapP w b n L) (k : Below w.heap.size w w') : MapP w' b n L :=
  h.kept (row := none) ⟨k.os, k.tape, k.output, k.size, fun i hi _ => k.block i hi⟩ (by simp)
theorem MapP.drewN {w : World} {b n : Nat} {L : List (Int × Int)} (h : MapP w b n L) (k : Nat) : MapP (w.drewN k) b n L := by
  induction k with
  | zero => exact h
  | succ k ih => exact ih
end Go.Proofs.YtmeidjhojanogaaDoor

/- Joined texts. -/
import Derived.Test.YtfjbnhacfficnaaGreatDoorZA
import Derived.Deep.QuietTactic
import Derived.NoCompiler
import Derived.StillTail
import Derived.OrdersIn
import Derived.RangeFuncCalls
import Derived.OwnWalkIn

/- Regions that draw their order, whose operations only read and whose callees leave what lay before as it was: walked once, in the order of the text. No program. -/
namespace Go.Proofs.YtfjbnhacfficnaaGreatDoor
open Go.RowKit

/-- The worlds behind w in which all that lay in w lies as it lay. -/
structure Beyond (w : World) where
  to : World
  below : Below w.heap.size w to
instance (w : World) : Inhabited (Beyond w) := ⟨⟨w, Below.refl _ _⟩⟩
theorem Beyond.cell {w : World} (p : Beyond w) {a : Addr} {v : Value} (h : w.cell? a = some v) : p.to.cell? a = some v :=
  (p.below.cell (World.block_lt_of_cell? w _ h)).trans h
section
variable {P : Program} {w : World}
theorem wp_region_beyond {id : Nat} {Q : Exit → Act → World → Prop} {a : Act} {l : List Oper} (hm : P.follows .mixedOrders = true) (hB : Region.lexB .any l.toArray = true)
    (h : wpQuiet P l.toArray (fun w' => ∃ p : Beyond w, w' = p.to) (fun a' => ∀ w', (∃ p : Beyond w, w' = p.to) → Q .normal a' w') l a) : (Code.region id l.toArray true).wp P Q a w :=
  wp_region_quiet (C := fun w' => ∃ p : Beyond w, w' = p.to) hm hB ⟨⟨_, (Below.refl _ _).drew⟩, rfl⟩ (by simpa using h)
theorem beyond_of {f : FuncId} {args : Array Value} {p : Beyond w} {v : Value}
    (h : Calls P f args p.to fun e w' => e = .returned v ∧ Below p.to.heap.size p.to w') : Calls P f args p.to fun e w'' => e = .returned v ∧ ∃ q : Beyond w, w'' = q.to :=
  h.mono fun _ _ ⟨he, hk⟩ => ⟨he, ⟨⟨_, p.below.trans (hk.mono p.below.size)⟩, rfl⟩⟩
end
end Go.Proofs.YtfjbnhacfficnaaGreatDoor

/- Regions that draw their order: first what only reads (calls too, whose callees leave what lay before as it was), in whatever order; then a tail in one order. Inside a round of a range over a function as well. No program. -/
namespace Go.Proofs.YtfjbnhacfficnaaGreatDoor
open Go.RowKit

section
variable {P : Program} {ops : Array Oper} {md : Region.Mode} {C : World → Prop}
def wpAnyT (P : Program) (md : Region.Mode) (ops : Array Oper) (C : World → Prop) (n : Nat) (L : Array Bool → Act → Prop) : Nat → Array Bool → Act → Prop
  | 0, listed, a => L listed a
  | f + 1, listed, a =>
    Region.ready md ops listed ≠ [] ∧ ∀ i ∈ Region.ready md ops listed, i < n ∧ qOp P ops C i (wpAnyT P md ops C n L f (listed.setIfInBounds i true)) a
theorem wpAny_of_tail {n g : Nat} {L : Array Bool → Act → Prop} {Q' : Exit → Act → World → Prop} (hL : ∀ listed a w, C w → L listed a → wpAny P md ops Q' g listed a w) :
    ∀ (f : Nat) (listed : Array Bool) (a : Act) (w : World), C w → wpAnyT P md ops C n L f listed a → wpAny P md ops Q' (f + g) listed a w
  | 0, listed, a, w, hw, h => by rw [Nat.zero_add]; exact hL _ _ _ hw h
  | f + 1, listed, a, w, hw, h => by
    rw [show f + 1 + g = (f + g) + 1 by omega]
    exact ⟨fun h0 => absurd h0 h.1, fun i hi => wpOp_of_qOp hw (fun a' w' hw' h' => wpAny_of_tail hL f _ a' w' hw' h') (h.2 i hi).2⟩
theorem wpAnyT_first {n i : Nat} {oi : Oper} {v : Value} {L : Array Bool → Act → Prop} (hi : ops[i]? = some oi) (hsel : ∀ (j : Nat) (o : Oper) cs b, ops[j]? = some o → o.op ≠ .select cs b)
    (hs : Region.sinkB md ops n = true) (hc : Region.chainB md ops n = true) (hn : n < ops.size) (hin : i < n)
    (hdone : ∀ listed a, L listed a → ∀ j ∈ Region.ready md ops listed, n ≤ j) :
    ∀ (f : Nat) (listed : Array Bool) (a : Act), HeadInv md ops n listed →
      (∀ j oj, ops[j]? = some oj → j ≠ i → listed.getD j true = false → (∀ e ∈ oj.after, Region.binds md e = true → e.on ≠ i) → oi.apart ops oj = true) →
      i ∈ Region.ready md ops listed → YieldsIn P ops C oi v a →
      wpAnyT P md ops C n L f (listed.setIfInBounds i true) (a.put oi.dst v) → wpAnyT P md ops C n L (f + 1) listed a := by
  intro f
  induction f with
  | zero =>
    intro listed a inv _ hr hy H
    have hun := (mem_ready.1 hr).1
    refine ⟨fun h => (by rw [h] at hr; cases hr), fun j hj => ?_⟩
    have hjn : j < n := by
      rcases Nat.lt_or_ge j n with h | h
      · exact h
      · exact absurd hj (tail_waits hs hc hn inv _ i rfl hin hun j h)
    refine ⟨hjn, ?_⟩
    by_cases hji : j = i
    · subst hji; exact hy.qOp hi H
    · have := hdone _ _ H j (ready_mono hj hji)
      omega
  | succ f ih =>
    intro listed a inv hfree hr hy H
    have hun := (mem_ready.1 hr).1
    refine ⟨fun h => (by rw [h] at hr; cases hr), fun j hj => ?_⟩
    have hjn : j < n := by
      rcases Nat.lt_or_ge j n with h | h
      · exact h
      · exact absurd hj (tail_waits hs hc hn inv _ i rfl hin hun j h)
    refine ⟨hjn, ?_⟩
    by_cases hji : j = i
    · subst hji; exact hy.qOp hi H
    · have h1 := (H.2 j (ready_mono hj hji)).2
      obtain ⟨hjun, oj, hoj, hall⟩ := mem_ready.1 hj
      have hnot : ∀ e ∈ oj.after, Region.binds md e = true → e.on ≠ i := fun e he hb heq => by
        have h1 := hall e he hb
        rw [heq, getD_both hun] at h1
        cases h1
      have h2 := qOp_put hoj (hfree j oj hoj hji hjun hnot) (fun cs b => hsel i oi cs b hi) (fun cs b => hsel j oj cs b hoj) hy h1
      have hfree' : ∀ k ok, ops[k]? = some ok → k ≠ i → (listed.setIfInBounds j true).getD k true = false →
          (∀ e ∈ ok.after, Region.binds md e = true → e.on ≠ i) → oi.apart ops ok = true := fun k ok hk hki hun hno => by
        refine hfree k ok hk hki ?_ hno
        by_cases hjk : j = k
        · subst hjk; exact hjun
        · rw [getD_set_ne true hjk] at hun; exact hun
      refine qOp_mono (fun a' h3 => ih (listed.setIfInBounds j true) a' (inv.set hj hjn) hfree' (ready_mono hr (Ne.symm hji)) h3.1 ?_) h2
      rw [Array.setIfInBounds_comm _ _ hji]
      exact h3.2
theorem wpAnyT_lex {n g : Nat} {Lq : Act → Prop} (hsel : Region.noSelect ops = true) (hs : Region.sinkB md ops n = true) (hc : Region.chainB md ops n = true) (hn : n < ops.size) :
    ∀ (l : List Oper) (k : Nat) (listed : Array Bool) (a : Act), (∀ j, j < l.length → l[j]? = ops[k + j]?) → k + l.length = n → HeadInv md ops n listed →
    Region.lexHead md ops g l.length k listed = true → wpQuiet P ops C Lq l a →
    wpAnyT P md ops C n (fun listed' a' => Region.seqB md ops g n listed' = true ∧ Lq a') l.length listed a
  | [], k, listed, a, _, hk, _, hB, h => by
    have : k = n := by simpa using hk
    subst this
    exact ⟨by simpa [Region.lexHead] using hB, h⟩
  | o :: l, k, listed, a, hl, hk, inv, hB, h => by
    have h0 : ops[k]? = some o := by simpa using (hl 0 (by simp)).symm
    simp only [List.length_cons, Region.lexHead, Bool.and_eq_true] at hB
    obtain ⟨⟨hr, hf⟩, hB'⟩ := hB
    have hkn : k < n := by simp only [List.length_cons] at hk; omega
    have hr' : k ∈ Region.ready md ops listed := by simpa using hr
    have hst : qOp P ops C k (wpQuiet P ops C Lq l) a := by unfold qOp; simp only [h0]; exact h
    obtain ⟨v, hy, hK⟩ := yieldsIn_of_qOp h0 hst
    exact wpAnyT_first h0 (Region.noSelect_spec hsel) hs hc hn hkn (fun listed' a' hL => seqB_ready hL.1) l.length listed a inv (Region.free_spec h0 hf) hr' hy
      (wpAnyT_lex hsel hs hc hn l (k + 1) _ _ (fun j hj => by have := hl (j + 1) (by simp; omega); simpa [Nat.add_assoc, Nat.add_comm 1 j] using this) (by simp only [List.length_cons] at hk; omega) (inv.set hr' hkn) hB' hK)
theorem wpAny_tail {Q : Exit → Act → World → Prop} {a : Act} {w : World} {l : List Oper} (n : Nat) (hB : Region.lexTailB .any l.toArray n = true) (hC : C w)
    (h : wpQuiet P l.toArray C (fun a' => ∀ w', C w' → wpList P l.toArray Q (l.drop n) a' w') (l.take n) a) : wpAny P .any l.toArray Q l.toArray.size (Array.replicate l.toArray.size false) a w := by
  simp only [Region.lexTailB, Bool.and_eq_true, decide_eq_true_eq] at hB
  obtain ⟨⟨⟨⟨hsel, hn⟩, hs⟩, hc⟩, hlex⟩ := hB
  have hn' : n < l.length := by simpa using hn
  have htl : (l.take n).length = n := by simp; omega
  have hdl : (l.drop n).length = l.toArray.size - n := by simp
  have inv0 : HeadInv .any l.toArray n (Array.replicate l.toArray.size false) :=
    ⟨by simp, fun j oj _ hl => (by rw [getD_replicate_false] at hl; cases hl), fun t _ ht => getD_in (by simpa using ht) (getD_replicate_false _ _)⟩
  have H := wpAnyT_lex (md := .any) (g := l.toArray.size - n) hsel hs hc hn (l.take n) 0 _ a (fun j hj => by
    have hj' : j < n := by rw [htl] at hj; exact hj
    simp [hj']) (by simpa using htl) inv0 (by rw [htl]; exact hlex) h
  have := wpAny_of_tail (Q' := Q) (g := l.toArray.size - n) (fun listed a' w' hw' hL => by
    have := wpAny_of_seq (md := .any) (Q' := Q) (l.drop n) n listed a' w' (fun j => by simp [List.getElem?_drop]) (by rw [hdl]; exact hL.1) (hL.2 w' hw')
    rwa [hdl] at this) _ _ _ _ hC H
  rw [htl, show n + (l.toArray.size - n) = l.toArray.size by omega] at this
  exact this
end
section
variable {P : Program} {w : World}
/-- Reads and calls in whatever order, then the tail. -/
theorem wp_region_beyond_tail {id : Nat} {Q : Exit → Act → World → Prop} {a : Act} {l : List Oper} (n : Nat) (hm : P.follows .mixedOrders = true) (hB : Region.lexTailB .any l.toArray n = true)
    (h : wpQuiet P l.toArray (fun w' => ∃ p : Beyond w, w' = p.to) (fun a' => ∀ w', (∃ p : Beyond w, w' = p.to) → wpList P l.toArray Q (l.drop n) a' w') (l.take n) a) : (Code.region id l.toArray true).wp P Q a w :=
  wp_region_any hm (wpAny_tail n hB (C := fun w' => ∃ p : Beyond w, w' = p.to) ⟨⟨_, (Below.refl _ _).drew⟩, rfl⟩ h)
end
/-! ### The same in a round of a range over a function -/
section
variable {P : Program} {ops : Array Oper} {md : Region.Mode} {C : World → Prop} {l n : Nat}
def noDefer (ops : Array Oper) : Bool := ops.all fun o => match o.op with | .defer _ => false | _ => true
theorem noDefer_at {ops : Array Oper} (h : noDefer ops = true) {i : Nat} {o : Oper} (ho : ops[i]? = some o) : ∀ c, o.op ≠ .defer c := by
  intro c hc
  unfold noDefer at h
  rw [Array.all_eq_true_iff_forall_mem] at h
  have := h o (Array.mem_of_getElem? ho)
  rw [hc] at this
  cases this
theorem wpOpIn_of_qOp {i : Nat} {a : Act} {K : Act → Prop} {K' : Act → World → Prop} {Q' : Exit → Act → World → Prop} {w : World} (hnd : noDefer ops = true) (hC : C w) (h : ∀ a w', C w' → K a → K' a w') (hh : qOp P ops C i K a) :
    wpOpIn (Fence.wide.inRound l) n P ops Q' i K' a w := by
  unfold qOp at hh
  unfold wpOpIn
  cases ho : ops[i]? with
  | none => simp only [ho] at hh ⊢; exact h _ _ hC hh
  | some o =>
    simp only [ho] at hh ⊢
    split
    · rename_i hw
      simp only [hw, if_true] at hh
      obtain ⟨v, h1, h2⟩ := hh
      have h3 := h1 w hC
      unfold Oper.quietAt at h3
      refine ⟨fun _ _ => trivial, ?_⟩
      rw [Oper.semAt_eq _ _ _ (noDefer_at hnd ho)]
      generalize (execOp a.eval o).run P w = r at *
      cases r with
      | ok x w' =>
        cases x <;> simp only [Oper.quietUpon] at h3 <;> simp only [Oper.uponIn]
        case value u =>
          obtain ⟨e1, e2⟩ := h3
          rw [e1, e2]
          exact h _ _ hC h2
        case skip =>
          obtain ⟨e1, e2⟩ := h3
          rw [e1, ← e2]
          exact h _ _ hC h2
        case enter f args =>
          obtain ⟨e1, hc⟩ := h3
          rw [e1]
          refine ⟨(fun hd => (by cases hd)), (CallsIn.inRound l (callsIn_wide.2 hc)).mono ?_⟩
          intro e w'' ⟨he, hw''⟩
          subst he
          exact h _ _ hw'' h2
      | halt x w' => simp only [Oper.quietUpon] at h3
    · rename_i hw
      simp only [hw] at hh
      exact ⟨fun _ _ => trivial, h _ _ hC hh⟩
theorem wpAnyIn_of_tail {m g : Nat} {L : Array Bool → Act → Prop} {Q' : Exit → Act → World → Prop} (hnd : noDefer ops = true) (hL : ∀ listed a w, C w → L listed a → wpAnyIn (Fence.wide.inRound l) n P md ops Q' g listed a w) :
    ∀ (f : Nat) (listed : Array Bool) (a : Act) (w : World), C w → wpAnyT P md ops C m L f listed a → wpAnyIn (Fence.wide.inRound l) n P md ops Q' (f + g) listed a w
  | 0, listed, a, w, hw, h => by rw [Nat.zero_add]; exact hL _ _ _ hw h
  | f + 1, listed, a, w, hw, h => by
    rw [show f + 1 + g = (f + g) + 1 by omega]
    exact ⟨fun h0 => absurd h0 h.1, fun i hi => wpOpIn_of_qOp hnd hw (fun a' w' hw' h' => wpAnyIn_of_tail hnd hL f _ a' w' hw' h') (h.2 i hi).2⟩
theorem wpAnyIn_of_seq {Q' : Exit → Act → World → Prop} : ∀ (ll : List Oper) (k : Nat) (listed : Array Bool) (a : Act) (w : World), (∀ j, ll[j]? = ops[k + j]?) →
    Region.seqB md ops ll.length k listed = true → wpListIn (Fence.wide.inRound l) n P ops Q' ll a w → wpAnyIn (Fence.wide.inRound l) n P md ops Q' ll.length listed a w
  | [], _, _, _, _, _, hB, h => ⟨by simpa [Region.seqB] using hB, h⟩
  | o :: ll, k, listed, a, w, hl, hB, h => by
    have h0 : ops[k]? = some o := by simpa using (hl 0).symm
    simp only [List.length_cons, Region.seqB, Bool.and_eq_true, decide_eq_true_eq] at hB
    refine ⟨fun h1 => (by rw [hB.1] at h1; cases h1), fun i hi => ?_⟩
    rw [hB.1] at hi
    have hik : i = k := by simpa using hi
    subst hik
    have hw : wpOpIn (Fence.wide.inRound l) n P ops Q' i (wpListIn (Fence.wide.inRound l) n P ops Q' ll) a w := by unfold wpOpIn; simp only [h0]; exact h
    exact wpOpIn_mono (fun a' w' h' => wpAnyIn_of_seq ll (i + 1) _ a' w' (fun j => by have := hl (j + 1); simpa [Nat.add_assoc, Nat.add_comm 1 j] using this) hB.2 h') hw
theorem wpIn_region_tail {id : Nat} {Q : Exit → Act → World → Prop} {a : Act} {w : World} {ll : List Oper} (m : Nat) (hm : P.follows .mixedOrders = true) (hnd : noDefer ll.toArray = true) (hB : Region.lexTailB .any ll.toArray m = true)
    (h : wpQuiet P ll.toArray (fun w' => ∃ p : Beyond w, w' = p.to) (fun a' => ∀ w', (∃ p : Beyond w, w' = p.to) → wpListIn (Fence.wide.inRound l) n P ll.toArray Q (ll.drop m) a' w') (ll.take m) a) :
    (Code.region id ll.toArray true).wpIn (Fence.wide.inRound l) n P Q a w := by
  simp only [Region.lexTailB, Bool.and_eq_true, decide_eq_true_eq] at hB
  obtain ⟨⟨⟨⟨hsel, hn⟩, hs⟩, hc⟩, hlex⟩ := hB
  have hn' : m < ll.length := by simpa using hn
  have htl : (ll.take m).length = m := by simp; omega
  have hdl : (ll.drop m).length = ll.toArray.size - m := by simp
  have inv0 : HeadInv .any ll.toArray m (Array.replicate ll.toArray.size false) :=
    ⟨by simp, fun j oj _ hl => (by rw [getD_replicate_false] at hl; cases hl), fun t _ ht => getD_in (by simpa using ht) (getD_replicate_false _ _)⟩
  have H := wpAnyT_lex (md := .any) (g := ll.toArray.size - m) hsel hs hc hn (ll.take m) 0 _ a (fun j hj => by
    have hj' : j < m := by rw [htl] at hj; exact hj
    simp [hj']) (by simpa using htl) inv0 (by rw [htl]; exact hlex) h
  refine wpIn_region_any hm ?_
  have := wpAnyIn_of_tail (l := l) (n := n) (Q' := Q) (g := ll.toArray.size - m) hnd (fun listed a' w' hw' hL => by
    have := wpAnyIn_of_seq (l := l) (n := n) (md := .any) (Q' := Q) (ll.drop m) m listed a' w' (fun j => by simp [List.getElem?_drop]) (by rw [hdl]; exact hL.1) (hL.2 w' hw')
    rwa [hdl] at this) _ _ _ { w with drawn := w.drawn + 1 } ⟨⟨_, (Below.refl w.heap.size w).drew⟩, rfl⟩ H
  rw [htl, show m + (ll.toArray.size - m) = ll.toArray.size by omega] at this
  exact this
end
end Go.Proofs.YtfjbnhacfficnaaGreatDoor

/- Regions that draw their order, walked once in the order of the text: of each operation's value a fact is told that stands whatever runs between; some operations may turn what others of the region made. No program. -/
namespace Go.Proofs.YtfjbnhacfficnaaGreatDoor
open Go.RowKit

/-- What is told of a value: what it is, or what holds of it. -/
inductive Fct where
  | one (x : Value)
  | rel (F : Value → World → Prop)
def Fct.so (f : Fct) (v : Value) (w : World) : Prop := match f with
  | .one x => v = x
  | .rel F => F v w
def depB (o : Oper) (j : Nat) : Bool := o.after.any fun e => Region.binds .any e && e.on == j
def updF {α : Type} (G : Nat → α) (i : Nat) (x : α) : Nat → α := fun j => if j = i then x else G j

/-! Acts in which some of the operations have run. -/
def runO (a : Act) (o : Oper) (x : Option Value) : Act := match x with
  | some v => a.put o.dst v
  | none => a
def actN (a : Act) : List Oper → Nat → (Nat → Option Value) → Act
  | [], _, _ => a
  | o :: l, i, ν => actN (runO a o (ν i)) l (i + 1) ν
theorem put_size (a : Act) (d : Option Tmp) (v : Value) : (a.put d v).tmps.size = a.tmps.size := by cases d <;> simp [Act.put]
theorem runO_size (a : Act) (o : Oper) (x : Option Value) : (runO a o x).tmps.size = a.tmps.size := by
  cases x
  · rfl
  · exact put_size _ _ _
theorem actN_size : ∀ (l : List Oper) (i : Nat) (ν : Nat → Option Value) (a : Act), (actN a l i ν).tmps.size = a.tmps.size
  | [], _, _, _ => rfl
  | o :: l, i, ν, a => by
    unfold actN
    rw [actN_size l, runO_size]
theorem put_get {a a' : Act} {d : Option Tmp} {v : Value} {t : Tmp} (hs : a.tmps.size = a'.tmps.size) (h : a.tmps[t]? = a'.tmps[t]?) : (a.put d v).tmps[t]? = (a'.put d v).tmps[t]? := by
  cases d with
  | none => exact h
  | some d =>
    simp only [Act.put, Array.getElem?_setIfInBounds]
    by_cases e : d = t
    · subst e; simp [hs]
    · simp [e, h]
theorem put_off {a : Act} {d : Option Tmp} {v : Value} {t : Tmp} (h : d ≠ some t) : (a.put d v).tmps[t]? = a.tmps[t]? := by
  cases d with
  | none => rfl
  | some d =>
    simp only [Act.put, Array.getElem?_setIfInBounds]
    rw [if_neg (fun e => h (by rw [e]))]
theorem runO_off {a : Act} {o : Oper} {x : Option Value} {t : Tmp} (h : o.dst = some t → x = none) : (runO a o x).tmps[t]? = a.tmps[t]? := by
  cases x with
  | none => rfl
  | some v => exact put_off fun e => by cases h e
theorem actN_off {t : Tmp} : ∀ (l : List Oper) (i : Nat) (ν : Nat → Option Value) (a : Act), (∀ k o, l[k]? = some o → o.dst = some t → ν (i + k) = none) → (actN a l i ν).tmps[t]? = a.tmps[t]?
  | [], _, _, _, _ => rfl
  | o :: l, i, ν, a, h => by
    unfold actN
    rw [actN_off l (i + 1) ν _ fun k o' hk hd => by
      have := h (k + 1) o' (by simpa using hk) hd
      rwa [show i + (k + 1) = i + 1 + k by omega] at this]
    exact runO_off fun hd => h 0 o rfl hd
theorem actN_get {t : Tmp} : ∀ (l m : List Oper) (i : Nat) (ν μ : Nat → Option Value) (a a' : Act), a.tmps.size = a'.tmps.size → a.tmps[t]? = a'.tmps[t]? →
    (∀ k o, l[k]? = some o → o.dst = some t → ν (i + k) ≠ none → m[k]? = some o ∧ μ (i + k) = ν (i + k)) → (∀ k o, m[k]? = some o → o.dst = some t → μ (i + k) ≠ none → l[k]? = some o ∧ ν (i + k) = μ (i + k)) →
    (actN a l i ν).tmps[t]? = (actN a' m i μ).tmps[t]?
  | [], m, i, ν, μ, a, a', _, h, _, h2 => by
    rw [actN_off m i μ a' fun k o hk hd => by
      apply Classical.byContradiction
      intro hn
      have := (h2 k o hk hd hn).1
      simp at this]
    exact h
  | o :: l, [], i, ν, μ, a, a', _, h, h1, _ => by
    rw [actN_off (o :: l) i ν a fun k o' hk hd => by
      apply Classical.byContradiction
      intro hn
      have := (h1 k o' hk hd hn).1
      simp at this]
    exact h
  | o :: l, o' :: m, i, ν, μ, a, a', hs, h, h1, h2 => by
    unfold actN
    refine actN_get l m (i + 1) ν μ _ _ (by rw [runO_size, runO_size, hs]) ?_ (fun k o'' hk hd hn => ?_) (fun k o'' hk hd hn => ?_)
    · by_cases c : o.dst = some t ∧ ν i ≠ none
      · obtain ⟨e1, e2⟩ := h1 0 o rfl c.1 (by rw [Nat.add_zero]; exact c.2)
        rw [Nat.add_zero] at e2
        obtain rfl : o' = o := by simpa using e1
        rw [e2]
        cases hv : ν i with
        | none => exact absurd hv c.2
        | some v => exact put_get hs h
      · by_cases c' : o'.dst = some t ∧ μ i ≠ none
        · obtain ⟨e1, e2⟩ := h2 0 o' rfl c'.1 (by rw [Nat.add_zero]; exact c'.2)
          rw [Nat.add_zero] at e2
          obtain rfl : o = o' := by simpa using e1
          exact absurd ⟨c'.1, by rw [e2]; exact c'.2⟩ c
        · rw [runO_off fun hd => by
            apply Classical.byContradiction
            exact fun hn => c ⟨hd, hn⟩, runO_off fun hd => by
            apply Classical.byContradiction
            exact fun hn => c' ⟨hd, hn⟩]
          exact h
    · have := h1 (k + 1) o'' (by simpa using hk) hd (by rw [show i + (k + 1) = i + 1 + k by omega]; exact hn)
      rw [show i + (k + 1) = i + 1 + k by omega] at this
      exact ⟨by simpa using this.1, this.2⟩
    · have := h2 (k + 1) o'' (by simpa using hk) hd (by rw [show i + (k + 1) = i + 1 + k by omega]; exact hn)
      rw [show i + (k + 1) = i + 1 + k by omega] at this
      exact ⟨by simpa using this.1, this.2⟩
theorem actN_eval {x : Operand} (hx : ∀ t, x ≠ .tmp t) : ∀ (l : List Oper) (i : Nat) (ν : Nat → Option Value) (a : Act), (actN a l i ν).eval x = a.eval x
  | [], _, _, _ => rfl
  | o :: l, i, ν, a => by
    unfold actN
    rw [actN_eval hx l]
    cases ν i
    · rfl
    · exact Act.eval_put fun d _ => hx d
theorem eval_tmp {a a' : Act} {t : Tmp} (h : a.tmps[t]? = a'.tmps[t]?) : a.eval (.tmp t) = a'.eval (.tmp t) := by simp [Act.eval, h]
theorem actN_put_out {d : Tmp} {v : Value} : ∀ (l : List Oper) (i : Nat) (ν : Nat → Option Value) (a : Act), (∀ o ∈ l, o.dst ≠ some d) → (actN a l i ν).put (some d) v = actN (a.put (some d) v) l i ν
  | [], _, _, _, _ => rfl
  | o :: l, i, ν, a, h => by
    unfold actN
    rw [actN_put_out l _ _ _ fun o' ho' => h o' (by simp [ho'])]
    cases ν i
    · rfl
    · show actN ((a.put o.dst _).put (some d) v) l (i + 1) ν = actN ((a.put (some d) v).put o.dst _) l (i + 1) ν
      rw [Act.put_comm]
      intro d' hd' hd
      exact h o (by simp) (by rw [hd', hd])
theorem actN_ext : ∀ (l : List Oper) (i : Nat) (ν μ : Nat → Option Value) (a : Act), (∀ k, k < l.length → ν (i + k) = μ (i + k)) → actN a l i ν = actN a l i μ
  | [], _, _, _, _, _ => rfl
  | o :: l, i, ν, μ, a, h => by
    unfold actN
    rw [show ν i = μ i from h 0 (by simp), actN_ext l (i + 1) ν μ _ fun k hk => by
      have := h (k + 1) (by simpa using hk)
      rwa [show i + (k + 1) = i + 1 + k by omega] at this]
theorem actN_put {o : Oper} {v : Value} : ∀ (l : List Oper) (i k : Nat) (ν : Nat → Option Value) (a : Act), l[k]? = some o → ν (i + k) = none → (∀ m o', l[m]? = some o' → m ≠ k → ∀ d, o.dst = some d → o'.dst ≠ some d) →
    (actN a l i ν).put o.dst v = actN a l i (updF ν (i + k) (some v)) := by
  intro l
  induction l with
  | nil => intro i k ν a h; simp at h
  | cons o' l ih =>
    intro i k ν a h hn hd
    cases k with
    | zero =>
      obtain rfl : o' = o := by simpa using h
      show (actN (runO a o' (ν i)) l (i + 1) ν).put o'.dst v = actN (runO a o' (updF ν (i + 0) (some v) i)) l (i + 1) (updF ν (i + 0) (some v))
      rw [show ν i = none from hn, show updF ν (i + 0) (some v) i = some v by simp [updF]]
      have hx : actN (a.put o'.dst v) l (i + 1) (updF ν (i + 0) (some v)) = actN (a.put o'.dst v) l (i + 1) ν := actN_ext _ _ _ _ _ fun k _ => by unfold updF; rw [if_neg (by omega)]
      show (actN a l (i + 1) ν).put o'.dst v = actN (a.put o'.dst v) l (i + 1) (updF ν (i + 0) (some v))
      rw [hx]
      cases hdst : o'.dst with
      | none => rfl
      | some d =>
        refine actN_put_out l _ _ _ fun o'' ho'' => ?_
        · obtain ⟨m, hm⟩ := List.mem_iff_getElem?.1 ho''
          exact hd (m + 1) o'' (by simpa using hm) (by omega) d hdst
    | succ k =>
      have e : i + (k + 1) = i + 1 + k := by omega
      show (actN (runO a o' (ν i)) l (i + 1) ν).put o.dst v = actN (runO a o' (updF ν (i + (k + 1)) (some v) i)) l (i + 1) (updF ν (i + (k + 1)) (some v))
      rw [show updF ν (i + (k + 1)) (some v) i = ν i by unfold updF; rw [if_neg (by omega)], e]
      exact ih (i + 1) k ν _ (by simpa using h) (by rw [← e]; exact hn) fun m o'' hm hne => hd (m + 1) o'' (by simpa using hm) (by omega)

/-! Who waits for whom. -/
def maskO (M : List Nat) (o : Oper) : Nat := o.after.toList.foldl (fun m e => if Region.binds .any e then m ||| (2 ^ e.on ||| M.getD e.on 0) else m) 0
def maskL : List Oper → List Nat → List Nat
  | [], acc => acc
  | o :: l, acc => maskL l (acc ++ [maskO acc o])
theorem mask_fold {M : List Nat} {k : Nat} : ∀ (es : List Edge) (m : Nat), (es.foldl (fun m e => if Region.binds .any e then m ||| (2 ^ e.on ||| M.getD e.on 0) else m) m).testBit k = true → m.testBit k = true ∨ ∃ e ∈ es, Region.binds .any e = true ∧ (e.on = k ∨ (M.getD e.on 0).testBit k = true)
  | [], m, h => .inl h
  | e :: es, m, h => by
    rw [List.foldl_cons] at h
    rcases mask_fold es _ h with h1 | ⟨e', he', h2⟩
    · by_cases hb : Region.binds .any e = true
      · rw [if_pos hb, Nat.testBit_or, Nat.testBit_or, Nat.testBit_two_pow, Bool.or_eq_true, Bool.or_eq_true, decide_eq_true_iff] at h1
        rcases h1 with h1 | h1 | h1
        · exact .inl h1
        · exact .inr ⟨e, by simp, hb, .inl h1⟩
        · exact .inr ⟨e, by simp, hb, .inr h1⟩
      · rw [if_neg hb] at h1; exact .inl h1
    · exact .inr ⟨e', by simp [he'], h2⟩
theorem maskO_spec {M : List Nat} {o : Oper} {k : Nat} (h : (maskO M o).testBit k = true) : ∃ e ∈ o.after, Region.binds .any e = true ∧ (e.on = k ∨ (M.getD e.on 0).testBit k = true) := by
  rcases mask_fold o.after.toList 0 h with h | ⟨e, he, h⟩
  · simp at h
  · exact ⟨e, by simpa using he, h⟩
structure FacOk (ops : List Oper) (n : Nat) (wk hd : Nat → Bool) (M : List Nat) : Prop where
  sel : Region.noSelect ops.toArray = true
  nd : noDefer ops.toArray = true
  le : n ≤ ops.length
  tail : n = ops.length ∨ (Region.sinkB .any ops.toArray n = true ∧ Region.chainB .any ops.toArray n = true)
  seq : Region.seqB .any ops.toArray (ops.length - n) n (Array.replicate n true ++ Array.replicate (ops.length - n) false) = true
  before : ∀ i o, i < n → ops[i]? = some o → ∀ e ∈ o.after, Region.binds .any e = true → e.on < i
  mask : ∀ i o, i < n → ops[i]? = some o → M.getD i 0 = maskO M o
  apart : ∀ i j oi oj, i < n → j < n → i ≠ j → ops[i]? = some oi → ops[j]? = some oj → ∀ d, oi.dst = some d → oj.dst ≠ some d
  looks : ∀ i j oi oj, i < n → j < n → ops[i]? = some oi → ops[j]? = some oj → ∀ d, oj.dst = some d → d ∈ oi.looksAt ops.toArray → depB oi j = true ∨ depB oj i = true
  weak : ∀ i j k ok, i < n → j < n → k < n → wk i = true → hd j = false → i ≠ j → (M.getD j 0).testBit i = false → ops[k]? = some ok → depB ok j = true → k = i ∨ (M.getD i 0).testBit k = true
def facB (ops : List Oper) (n : Nat) (wk hd : Nat → Bool) (M : List Nat) : Bool :=
  Region.noSelect ops.toArray && noDefer ops.toArray && decide (n ≤ ops.length) && (n == ops.length || (Region.sinkB .any ops.toArray n && Region.chainB .any ops.toArray n)) &&
  Region.seqB .any ops.toArray (ops.length - n) n (Array.replicate n true ++ Array.replicate (ops.length - n) false) &&
  ((List.range n).all fun i => (ops[i]?).all fun oi => (oi.after.toList.all fun e => !Region.binds .any e || decide (e.on < i)) && M.getD i 0 == maskO M oi &&
    (List.range n).all fun j => (ops[j]?).all fun oj => (i == j || oi.dst == none || oi.dst != oj.dst) && (match oj.dst with | some d => !(oi.looksAt ops.toArray).contains d || depB oi j || depB oj i | none => true)) &&
  ((List.range n).all fun i => !wk i || (List.range n).all fun j => hd j || i == j || (M.getD j 0).testBit i || (List.range n).all fun k => (ops[k]?).all fun ok => !depB ok j || k == i || (M.getD i 0).testBit k)
theorem facB_ok {ops : List Oper} {n : Nat} {wk hd : Nat → Bool} {M : List Nat} (h : facB ops n wk hd M = true) : FacOk ops n wk hd M := by
  simp only [facB, Bool.and_eq_true, Bool.or_eq_true, decide_eq_true_eq, beq_iff_eq, List.all_eq_true, List.mem_range, Option.all_eq_true, Bool.not_eq_true', bne_iff_ne] at h
  obtain ⟨⟨⟨⟨⟨⟨h1, h2⟩, h3⟩, h4⟩, h5⟩, h6⟩, h7⟩ := h
  refine ⟨h1, h2, h3, h4, h5, fun i o hi ho e he hb => ?_, fun i o hi ho => ((h6 i hi o ho).1).2, fun i j oi oj hi hj hne hoi hoj d hd hd' => ?_, fun i j oi oj hi hj hoi hoj d hd hl => ?_, fun i j k ok hi hj hk hw hhd hne hm hok hdep => ?_⟩
  · have := ((h6 i hi o ho).1).1 e (by simpa using he)
    rcases this with h | h
    · rw [hb] at h; cases h
    · exact h
  · have := (((h6 i hi oi hoi).2) j hj oj hoj).1
    rcases this with (h | h) | h
    · exact hne h
    · rw [hd] at h; cases h
    · exact h (by rw [hd, hd'])
  · have := (((h6 i hi oi hoi).2) j hj oj hoj).2
    rw [hd] at this
    simp only [Bool.or_eq_true, Bool.not_eq_true'] at this
    rcases this with (h | h) | h
    · rw [List.contains_eq_mem] at h
      simp [hl] at h
    · exact .inl h
    · exact .inr h
  · rcases h7 i hi with h | h
    · rw [hw] at h; cases h
    · rcases h j hj with ((h | h) | h) | h
      · rw [hhd] at h; cases h
      · exact absurd h hne
      · rw [hm] at h; cases h
      · rcases h k hk ok hok with (h | h) | h
        · rw [hdep] at h; cases h
        · exact .inl h
        · exact .inr h
end Go.Proofs.YtfjbnhacfficnaaGreatDoor

/- The law of regions that draw their order, by facts of the values. No program. -/
namespace Go.Proofs.YtfjbnhacfficnaaGreatDoor
open Go.RowKit

section
variable (P : Program) (ops : Array Oper) (w0 : World) (R : World → World → Prop)
/-- What an operation is to do, told of its value. -/
def stepF (o : Oper) (f : Fct) (wk : Bool) (a : Act) (w : World) : Prop :=
  if Region.wanted o (yielded ops a.tmps) = true then o.wp P a w (fun a' w' => ∃ v, a' = a.put o.dst v ∧ f.so v w' ∧ (if wk = true then R w w' else Below w.heap.size w w')) (fun _ _ _ => False) else f.so undef w
def wpFac (wk : Nat → Bool) (E : Act → (Nat → World → Prop) → Prop) : Nat → List Oper → List Fct → (Nat → World → Prop) → Act → Prop
  | i, o :: l, f :: fs, G, a =>
    (∀ w, Below w0.heap.size w0 w → (∀ j, depB o j = true → G j w) → stepF P ops R o f (wk i) a w) ∧
    (match f with
      | .one x => wpFac wk E (i + 1) l fs (updF G i fun _ => True) (a.put o.dst x)
      | .rel F => ∀ v, wpFac wk E (i + 1) l fs (updF G i (F v)) (a.put o.dst v))
  | _, [], [], G, a => E a G
  | _, _, _, _, _ => False
end
def Fct.val (f : Fct) (v : Value) : Value := match f with
  | .one x => x
  | .rel _ => v
def Fct.fact (f : Fct) (v : Value) : World → Prop := match f with
  | .one _ => fun _ => True
  | .rel F => F v
/-- The facts told, of the first k of the list from i on. -/
def gUp (G : Nat → World → Prop) (i : Nat) (fs : List Fct) (μ : Nat → Value) (k j : Nat) : World → Prop :=
  if j < i then G j else if j < i + k then ((fs[j - i]?).map fun f => f.fact (μ j)).getD (fun _ => True) else G j
theorem gUp_succ (G : Nat → World → Prop) (i : Nat) (f : Fct) (fs : List Fct) (μ : Nat → Value) (k j : Nat) : gUp (updF G i (f.fact (μ i))) (i + 1) fs μ k j = gUp G i (f :: fs) μ (k + 1) j := by
  unfold gUp updF
  by_cases h1 : j < i
  · rw [if_pos (by omega), if_neg (by omega), if_pos h1]
  · by_cases h2 : j = i
    · subst h2
      rw [if_pos (by omega), if_pos rfl, if_neg h1, if_pos (by omega)]
      simp
    · rw [if_neg (by omega), if_neg h1]
      by_cases h3 : j < i + (k + 1)
      · rw [if_pos (by omega), if_pos h3, show j - i = (j - (i + 1)) + 1 by omega]
        simp
      · rw [if_neg (by omega), if_neg h2, if_neg h3]
section
variable {P : Program} {ops : Array Oper} {w0 : World} {R : World → World → Prop} {wk : Nat → Bool} {E : Act → (Nat → World → Prop) → Prop}
theorem wpFac_next {i : Nat} {o : Oper} {l : List Oper} {f : Fct} {fs : List Fct} {G : Nat → World → Prop} {a : Act} (h : wpFac P ops w0 R wk E i (o :: l) (f :: fs) G a) (v : Value) :
    wpFac P ops w0 R wk E (i + 1) l fs (updF G i (f.fact (f.val v))) (a.put o.dst (f.val v)) := by
  unfold wpFac at h
  cases f with
  | one x => exact h.2
  | rel F => exact h.2 v
def valN (fs : List Fct) (i : Nat) (μ : Nat → Value) : Nat → Option Value := fun j => some (((fs[j - i]?).map fun f => f.val (μ j)).getD undef)
theorem wpFac_len : ∀ {l : List Oper} {i : Nat} {fs : List Fct} {G : Nat → World → Prop} {a : Act}, wpFac P ops w0 R wk E i l fs G a → l.length = fs.length
  | [], _, [], _, _, _ => rfl
  | [], _, _ :: _, _, _, h => by unfold wpFac at h; exact h.elim
  | _ :: _, _, [], _, _, h => by unfold wpFac at h; exact h.elim
  | o :: l, i, f :: fs, G, a, h => by
    rw [List.length_cons, List.length_cons, wpFac_len (wpFac_next h undef)]
theorem wpFac_get : ∀ {l : List Oper} {i : Nat} {fs : List Fct} {G : Nat → World → Prop} {a : Act}, wpFac P ops w0 R wk E i l fs G a → ∀ (k : Nat) (o : Oper) (f : Fct), l[k]? = some o → fs[k]? = some f → ∀ (μ : Nat → Value),
    (∀ j g, fs[j]? = some g → g.val (μ (i + j)) = μ (i + j)) → ∀ w, Below w0.heap.size w0 w → (∀ j, depB o j = true → gUp G i fs μ k j w) →
    stepF P ops R o f (wk (i + k)) (actN a (l.take k) i fun j => some (μ j)) w
  | [], _, _, _, _, _, _, _, _, h, _, _, _, _, _, _ => by simp at h
  | _ :: _, _, [], _, _, _, _, _, _, _, h, _, _, _, _, _ => by simp at h
  | o' :: l, i, f' :: fs, G, a, h, 0, o, f, ho, hf, μ, _, w, hw, hd => by
    obtain rfl : o' = o := by simpa using ho
    obtain rfl : f' = f := by simpa using hf
    unfold wpFac at h
    refine h.1 w hw fun j hj => ?_
    have := hd j hj
    unfold gUp at this
    by_cases c : j < i
    · rwa [if_pos c] at this
    · rwa [if_neg c, if_neg (by omega)] at this
  | o' :: l, i, f' :: fs, G, a, h, k + 1, o, f, ho, hf, μ, hμ, w, hw, hd => by
    have hx := wpFac_next h (μ i)
    have hv : f'.val (μ i) = μ i := hμ 0 f' rfl
    rw [hv] at hx
    have := wpFac_get hx k o f (by simpa using ho) (by simpa using hf) μ (fun j g hg => by
      have := hμ (j + 1) g (by simpa using hg)
      rwa [show i + (j + 1) = i + 1 + j by omega] at this) w hw (fun j hj => by rw [gUp_succ]; exact hd j hj)
    rw [show i + 1 + k = i + (k + 1) by omega] at this
    exact this
theorem wpFac_end : ∀ {l : List Oper} {i : Nat} {fs : List Fct} {G : Nat → World → Prop} {a : Act}, wpFac P ops w0 R wk E i l fs G a → ∀ (μ : Nat → Value), (∀ j g, fs[j]? = some g → g.val (μ (i + j)) = μ (i + j)) →
    E (actN a l i fun j => some (μ j)) (gUp G i fs μ fs.length)
  | [], i, [], G, a, h, μ, _ => by
    unfold wpFac at h
    have : gUp G i [] μ 0 = G := funext fun j => by
      unfold gUp
      by_cases c : j < i
      · rw [if_pos c]
      · rw [if_neg c, if_neg (by omega)]
    show E a (gUp G i [] μ 0)
    rw [this]; exact h
  | [], _, _ :: _, _, _, h, _, _ => by unfold wpFac at h; exact h.elim
  | _ :: _, _, [], _, _, h, _, _ => by unfold wpFac at h; exact h.elim
  | o' :: l, i, f' :: fs, G, a, h, μ, hμ => by
    have hx := wpFac_next h (μ i)
    have hv : f'.val (μ i) = μ i := hμ 0 f' rfl
    rw [hv] at hx
    have := wpFac_end hx μ (fun j g hg => by
      have := hμ (j + 1) g (by simpa using hg)
      rwa [show i + (j + 1) = i + 1 + j by omega] at this)
    have e : gUp (updF G i (f'.fact (μ i))) (i + 1) fs μ fs.length = gUp G i (f' :: fs) μ (fs.length + 1) := funext fun j => gUp_succ G i f' fs μ fs.length j
    rw [e] at this
    exact this
end

/-! What an operation does hangs on what it looks at. -/
section
variable {P : Program} {ops : Array Oper} {R : World → World → Prop} {Q : Exit → Act → World → Prop}
theorem put_inj {a : Act} {d : Option Tmp} {v u : Value} (hd : ∀ t, d = some t → t < a.tmps.size) (h : a.put d v = a.put d u) : d = none ∨ v = u := by
  cases d with
  | none => exact .inl rfl
  | some t =>
    right
    have := congrArg (fun b : Act => b.tmps[t]?) h
    simp [Act.put, hd t rfl] at this
    exact this
theorem stepF_move (hR0 : ∀ w, R w w) {o : Oper} {f : Fct} {wk : Bool} {A a : Act} {w : World} {i : Nat} (hi : ops[i]? = some o) (hd : ∀ t, o.dst = some t → t < A.tmps.size) (he : execOp A.eval o = execOp a.eval o)
    (hw : Region.wanted o (yielded ops A.tmps) = Region.wanted o (yielded ops a.tmps)) (h : stepF P ops R o f wk A w) :
    wpOp P ops Q i (fun a' w' => ∃ v, a' = a.put o.dst v ∧ f.so v w' ∧ (if wk = true then R w w' else Below w.heap.size w w')) a w := by
  unfold stepF at h
  unfold wpOp
  simp only [hi]
  rw [hw] at h
  split at h
  · rename_i hwt
    rw [if_pos hwt]
    refine .inl ?_
    have key : ∀ (v : Value) (w' : World), (∃ u, A.put o.dst v = A.put o.dst u ∧ f.so u w' ∧ (if wk = true then R w w' else Below w.heap.size w w')) → ∃ u, a.put o.dst v = a.put o.dst u ∧ f.so u w' ∧ (if wk = true then R w w' else Below w.heap.size w w') := by
      rintro v w' ⟨u, h1, h2, h3⟩
      rcases put_inj hd h1 with h | rfl
      · exact ⟨u, by rw [h]; rfl, h2, h3⟩
      · exact ⟨v, rfl, h2, h3⟩
    unfold Oper.wp at *
    rw [he] at h
    generalize (execOp a.eval o).run P w = r at *
    cases r with
    | ok n w' =>
      cases n <;> simp only [Oper.upon] at h ⊢
      case value u => exact key _ _ h
      case skip => exact key _ _ h
      case defer d =>
        obtain ⟨v, h1, _⟩ := h
        have h2 := congrArg (fun b : Act => b.defers.length) h1
        cases hdst : o.dst <;> simp [Act.put, hdst] at h2
      case enter g args =>
        refine Calls.mono h fun e w'' he => ?_
        cases e with
        | returned u => exact key _ _ he
        | panicked c => exact he.elim
        | outgrown => obtain ⟨_, _, hf⟩ := he; exact hf.elim
      case row r args => exact Rows.mono h fun u w'' he => key _ _ he
    | halt x w' => cases x <;> simp only [Oper.upon] at h
  · rename_i hwf
    rw [if_neg hwf]
    refine ⟨undef, rfl, h, ?_⟩
    cases wk
    · exact Below.refl _ _
    · exact hR0 w
end
/-! Any order. -/
def cntU (listed : Array Bool) : Nat → Nat
  | 0 => 0
  | n + 1 => cntU listed n + if listed.getD n true = false then 1 else 0
theorem cntU_off {listed : Array Bool} {i : Nat} : ∀ n, n ≤ i → cntU (listed.setIfInBounds i true) n = cntU listed n
  | 0, _ => rfl
  | n + 1, h => by
    unfold cntU
    rw [cntU_off n (by omega), getD_set_ne true (by omega)]
theorem cntU_set {listed : Array Bool} {i : Nat} (hl : listed.getD i true = false) : ∀ n, i < n → cntU (listed.setIfInBounds i true) n + 1 = cntU listed n
  | 0, h => absurd h (Nat.not_lt_zero _)
  | n + 1, h => by
    unfold cntU
    by_cases e : i = n
    · subst e
      have hs : i < listed.size := by
        rcases Nat.lt_or_ge i listed.size with h' | h'
        · exact h'
        · simp [Array.getElem?_eq_none h'] at hl
      rw [cntU_off i (Nat.le_refl _), if_pos hl, if_neg (by simp [hs])]
    · have := cntU_set hl n (by omega)
      rw [getD_set_ne true e]
      omega
theorem cntU_zero {listed : Array Bool} : ∀ n, cntU listed n = 0 → ∀ j, j < n → listed.getD j true = true
  | 0, _, j, h => absurd h (Nat.not_lt_zero _)
  | n + 1, h, j, hj => by
    unfold cntU at h
    by_cases e : j = n
    · subst e
      cases hc : listed.getD j true
      · rw [if_pos hc] at h; omega
      · rfl
    · exact cntU_zero n (by omega) j (by omega)
theorem cntU_some {listed : Array Bool} : ∀ n, 0 < cntU listed n → ∃ j, j < n ∧ listed.getD j true = false ∧ ∀ k, k < j → listed.getD k true = true
  | 0, h => absurd h (Nat.lt_irrefl _)
  | n + 1, h => by
    rcases Nat.eq_zero_or_pos (cntU listed n) with c | c
    · refine ⟨n, by omega, ?_, cntU_zero n c⟩
      unfold cntU at h
      cases hc : listed.getD n true
      · rfl
      · rw [c, hc] at h; simp at h
    · obtain ⟨j, h1, h2, h3⟩ := cntU_some n c
      exact ⟨j, by omega, h2, h3⟩
theorem getD_tf {listed : Array Bool} {j : Nat} (h : j < listed.size) : listed.getD j true = listed.getD j false := by simp [h]
section
variable {P : Program} {l : List Oper} {n : Nat} {wk hd : Nat → Bool} {M : List Nat} {Q : Exit → Act → World → Prop} {w0 : World} {R : World → World → Prop}
theorem masked {ops : List Oper} (hF : FacOk ops n wk hd M) {listed : Array Bool} (inv : HeadInv .any ops.toArray n listed) : ∀ (i : Nat) (o : Oper), i < n → ops[i]? = some o → (∀ e ∈ o.after, Region.binds .any e = true → listed.getD e.on false = true) →
    ∀ k, (M.getD i 0).testBit k = true → listed.getD k false = true := by
  intro i
  induction i using Nat.strongRecOn with
  | _ i ih =>
    intro o hi ho hd k hk
    rw [hF.mask i o hi ho] at hk
    obtain ⟨e, he, hb, h⟩ := maskO_spec hk
    rcases h with rfl | h
    · exact hd e he hb
    · have hlt := hF.before i o hi ho e he hb
      have hle := hd e he hb
      obtain ⟨oe, hoe⟩ : ∃ oe, ops[e.on]? = some oe := ⟨ops[e.on]'(by have := hF.le; omega), by simp⟩
      exact ih e.on hlt oe (by omega) hoe (fun e' he' hb' => inv.closed e.on oe (by simpa using hoe) hle e' he' hb') k h
/-- Which facts stand at the end. -/
def liveB (n : Nat) (wk hd : Nat → Bool) (M : List Nat) (j : Nat) : Bool := hd j || (List.range n).all fun i => !wk i || i == j || (M.getD j 0).testBit i
def SafeJ (ops : List Oper) (n : Nat) (wk hd : Nat → Bool) (M : List Nat) (listed : Array Bool) (j : Nat) : Prop :=
  hd j = true ∨ (∀ i, i < n → wk i = true → listed.getD i false = true → i ≠ j → (M.getD j 0).testBit i = true) ∨ ∃ k ok, k < n ∧ ops[k]? = some ok ∧ depB ok j = true ∧ listed.getD k false = false
structure FacInv (l : List Oper) (n : Nat) (wk hd : Nat → Bool) (M : List Nat) (fs : List Fct) (w0 : World) (a0 : Act) (listed : Array Bool) (ν : Nat → Option Value) (a : Act) (w : World) : Prop where
  head : HeadInv .any l.toArray n listed
  nu : ∀ j, j < n → (ν j).isSome = listed.getD j false
  act : a = actN a0 (l.take n) 0 ν
  below : Below w0.heap.size w0 w
  one : ∀ j v f, j < n → ν j = some v → fs[j]? = some f → f.val v = v
  fact : ∀ j v f, j < n → ν j = some v → fs[j]? = some f → SafeJ l n wk hd M listed j → f.fact v w
theorem val_so {f : Fct} {v : Value} {w : World} (h : f.so v w) : f.val v = v ∧ f.fact v w := by
  cases f with
  | one x => exact ⟨h.symm, trivial⟩
  | rel F => exact ⟨rfl, h⟩
theorem fac_any (hF : FacOk l n wk hd M) {fs : List Fct} (hR0 : ∀ w, R w w) (hR : ∀ w w', R w w' → Below w0.heap.size w w') (hst2 : ∀ j F, hd j = true → fs[j]? = some (Fct.rel F) → ∀ v w w', Below w0.heap.size w0 w → F v w → R w w' → F v w') (hst : ∀ F, Fct.rel F ∈ fs → ∀ v w w', F v w → Below w.heap.size w w' → F v w') {a0 : Act} (hsz : ∀ o ∈ l.take n, ∀ d, o.dst = some d → d < a0.tmps.size)
    (h : wpFac P l.toArray w0 R wk (fun a G => ∀ w, Below w0.heap.size w0 w → (∀ j, j < n → liveB n wk hd M j = true → G j w) → wpList P l.toArray Q (l.drop n) a w) 0 (l.take n) fs (fun _ _ => True) a0) :
    ∀ (f : Nat) (listed : Array Bool) (ν : Nat → Option Value) (a : Act) (w : World), cntU listed n = f → FacInv l n wk hd M fs w0 a0 listed ν a w → wpAny P .any l.toArray Q (f + (l.length - n)) listed a w := by
  have hlen : fs.length = n := by have h1 := wpFac_len h; rw [List.length_take] at h1; have := hF.le; omega
  intro f
  induction f with
  | zero =>
    intro listed ν a w hc inv
    have hall := cntU_zero n hc
    have hsize : listed.size = l.length := by have := inv.head.size; simpa using this
    have hle := hF.le
    have hlst : listed = Array.replicate n true ++ Array.replicate (l.length - n) false := by
      apply Array.ext
      · simp; omega
      · intro i h1 h2
        have hi : i < l.length := by omega
        by_cases c : i < n
        · have := hall i c
          rw [Array.getElem_append_left (by simpa using c)]
          simp [h1] at this
          simp [this]
        · have := inv.head.tail i (by omega) (by simpa using hi)
          rw [Array.getElem_append_right (by simp; omega)]
          simp [h1] at this
          simp [this]
    rw [Nat.zero_add]
    let μ : Nat → Value := fun j => (ν j).getD undef
    have hν : ∀ j, j < n → ∃ v, ν j = some v := fun j hj => by
      have h1 := inv.nu j hj
      rw [← getD_tf (by omega), hall j hj] at h1
      exact Option.isSome_iff_exists.1 h1
    have hE := wpFac_end h μ (fun j g hg => by
      have hj : j < n := by rw [← hlen]; exact (List.getElem?_eq_some_iff.1 hg).1
      obtain ⟨v, hv⟩ := hν j hj
      rw [Nat.zero_add]
      show g.val ((ν j).getD undef) = (ν j).getD undef
      rw [hv]
      exact inv.one j v g hj hv hg)
    have hact : (actN a0 (l.take n) 0 fun j => some (μ j)) = a := by
      rw [inv.act]
      refine actN_ext _ _ _ _ _ fun k hk => ?_
      have hk' : k < n := by simp at hk; omega
      obtain ⟨v, hv⟩ := hν k hk'
      rw [Nat.zero_add, hv]
      show some ((ν k).getD undef) = some v
      rw [hv]; rfl
    rw [hact] at hE
    have hW := hE w inv.below (fun j hj hlive => by
      obtain ⟨v, hv⟩ := hν j hj
      obtain ⟨g, hg⟩ : ∃ g, fs[j]? = some g := ⟨fs[j]'(by omega), by simp⟩
      unfold gUp
      rw [if_neg (Nat.not_lt_zero _), if_pos (by omega), Nat.sub_zero, hg]
      show g.fact ((ν j).getD undef) w
      rw [hv]
      refine inv.fact j v g hj hv hg ?_
      unfold liveB at hlive
      rw [Bool.or_eq_true] at hlive
      refine hlive.imp id fun hlive => .inl fun i hi hwk _ hne => ?_
      have := List.all_eq_true.1 hlive i (List.mem_range.2 hi)
      rw [hwk] at this
      simp [hne] at this
      exact this)
    have hs := hF.seq
    rw [← hlst] at hs
    have := wpAny_of_seq (P := P) (Q' := Q) (md := .any) (ops := l.toArray) (l.drop n) n listed a w (fun j => by simp [List.getElem?_drop]) (by simpa using hs) hW
    simpa using this
  | succ f ih =>
    intro listed ν a w hc inv
    have hle := hF.le
    have hsize : listed.size = l.length := by have := inv.head.size; simpa using this
    rw [show f + 1 + (l.length - n) = f + (l.length - n) + 1 by omega]
    refine ⟨fun hnil => ?_, fun i hr => ?_⟩
    · exfalso
      obtain ⟨j, hj, hu, hb⟩ := cntU_some n (by omega : 0 < cntU listed n)
      have : j ∈ Region.ready .any l.toArray listed := by
        refine mem_ready.2 ⟨hu, l[j]'(by omega), by simp, fun e he hbn => ?_⟩
        have hlt := hF.before j _ hj (by simp) e he hbn
        rw [← getD_tf (by omega)]
        exact hb _ hlt
      rw [hnil] at this; cases this
    · obtain ⟨hun, o, ho, hall⟩ := mem_ready.1 hr
      have hil : i < l.length := by have := (Array.getElem?_eq_some_iff.1 ho).1; simpa using this
      have ho' : l[i]? = some o := by simpa using ho
      have hin : i < n := by
        rcases Nat.lt_or_ge i n with c | c
        · exact c
        · exfalso
          rcases hF.tail with e | ⟨hs, hch⟩
          · omega
          · obtain ⟨j, hj, hu, _⟩ := cntU_some n (by omega : 0 < cntU listed n)
            have hnl : n < l.toArray.size := by simp; omega
            exact tail_waits hs hch hnl inv.head _ j rfl hj hu i c hr
      obtain ⟨g, hg⟩ : ∃ g, fs[i]? = some g := ⟨fs[i]'(by omega), by simp⟩
      have hno : ν i = none := by
        have h1 := inv.nu i hin
        rw [← getD_tf (by omega), hun] at h1
        simpa using h1
      let μ : Nat → Value := fun j => match ν j with
        | some v => v
        | none => ((fs[j]?).map fun f => f.val undef).getD undef
      have hμ : ∀ j g, fs[j]? = some g → g.val (μ (0 + j)) = μ (0 + j) := fun j g hg => by
        rw [Nat.zero_add]
        have hj : j < n := by rw [← hlen]; exact (List.getElem?_eq_some_iff.1 hg).1
        show g.val (match ν j with | some v => v | none => ((fs[j]?).map fun f => f.val undef).getD undef) = (match ν j with | some v => v | none => ((fs[j]?).map fun f => f.val undef).getD undef)
        cases hv : ν j with
        | none =>
          simp only [hg, Option.map_some, Option.getD_some]
          cases g <;> rfl
        | some v => exact inv.one j v g hj hv hg
      have hdep : ∀ j, depB o j = true → j < i ∧ listed.getD j false = true := fun j hj => by
        unfold depB at hj
        obtain ⟨e, he, hx⟩ := Array.any_eq_true'.1 hj
        simp only [Bool.and_eq_true, beq_iff_eq] at hx
        obtain ⟨hb, rfl⟩ := hx
        exact ⟨hF.before i o hin ho' e he hb, hall e he hb⟩
      have htk : (l.take n)[i]? = some o := by rw [List.getElem?_take, if_pos hin]; exact ho'
      have hS := wpFac_get h i o g htk hg μ hμ w inv.below (fun j hj => by
        obtain ⟨hji, hjl⟩ := hdep j hj
        unfold gUp
        rw [if_neg (Nat.not_lt_zero _), if_pos (by omega), Nat.sub_zero]
        obtain ⟨gj, hgj⟩ : ∃ gj, fs[j]? = some gj := ⟨fs[j]'(by omega), by simp⟩
        obtain ⟨v, hv⟩ : ∃ v, ν j = some v := Option.isSome_iff_exists.1 (by rw [inv.nu j (by omega)]; exact hjl)
        have e : μ j = v := by show (match ν j with | some v => v | none => _) = v; rw [hv]
        rw [hgj, e]
        exact inv.fact j v gj (by omega) hv hgj (.inr (.inr ⟨i, o, hin, ho', hj, getD_both hun⟩)))
      rw [Nat.zero_add] at hS
      have htt : (l.take n).take i = l.take i := by rw [List.take_take, Nat.min_eq_left (by omega)]
      rw [htt] at hS
      have hlook : ∀ d, d ∈ o.looksAt l.toArray → (actN a0 (l.take i) 0 fun j => some (μ j)).tmps[d]? = a.tmps[d]? := fun d hd => by
        rw [inv.act]
        refine actN_get _ _ 0 _ _ a0 a0 rfl rfl (fun k ok hk hkd hkn => ?_) (fun k ok hk hkd hkn => ?_)
        · rw [List.getElem?_take] at hk
          split at hk
          · rename_i hki
            have hkn' : k < n := by omega
            have hdl : depB o k = true := by
              rcases hF.looks i k o ok hin hkn' ho' hk d hkd hd with g | g
              · exact g
              · exfalso
                unfold depB at g
                obtain ⟨e, he, hx⟩ := Array.any_eq_true'.1 g
                simp only [Bool.and_eq_true, beq_iff_eq] at hx
                have := hF.before k ok hkn' hk e he hx.1
                omega
            obtain ⟨_, hkl⟩ := hdep k hdl
            obtain ⟨v, hv⟩ : ∃ v, ν k = some v := Option.isSome_iff_exists.1 (by rw [inv.nu k hkn']; exact hkl)
            refine ⟨by rw [List.getElem?_take, if_pos hkn']; exact hk, ?_⟩
            rw [Nat.zero_add, hv]
            show some v = some (match ν k with | some v => v | none => _)
            rw [hv]
          · cases hk
        · rw [List.getElem?_take] at hk
          split at hk
          · rename_i hkn'
            have hdl : depB o k = true := by
              rcases hF.looks i k o ok hin hkn' ho' hk d hkd hd with g | g
              · exact g
              · exfalso
                unfold depB at g
                obtain ⟨e, he, hx⟩ := Array.any_eq_true'.1 g
                simp only [Bool.and_eq_true, beq_iff_eq] at hx
                have hkl : listed.getD k false = true := by
                  rw [← inv.nu k hkn', Option.isSome_iff_ne_none]
                  rw [Nat.zero_add] at hkn
                  exact hkn
                have := inv.head.closed k ok (by simpa using hk) hkl e he hx.1
                rw [hx.2, ← getD_tf (by omega), hun] at this
                cases this
            obtain ⟨hki, hkl⟩ := hdep k hdl
            obtain ⟨v, hv⟩ : ∃ v, ν k = some v := Option.isSome_iff_exists.1 (by rw [inv.nu k hkn']; exact hkl)
            refine ⟨by rw [List.getElem?_take, if_pos hki]; exact hk, ?_⟩
            rw [Nat.zero_add, hv]
            show some (match ν k with | some v => v | none => _) = some v
            rw [hv]
          · cases hk
      have hsel : ∀ cs b, o.op ≠ .select cs b := fun cs b => Region.noSelect_spec hF.sel i o cs b ho
      have hex : execOp (actN a0 (l.take i) 0 fun j => some (μ j)).eval o = execOp a.eval o := by
        refine execOp_congr o hsel fun x hx => ?_
        by_cases c : ∃ t, x = .tmp t
        · obtain ⟨t, rfl⟩ := c
          exact eval_tmp (hlook t (List.mem_append_left _ (List.mem_filterMap.2 ⟨.tmp t, by simpa using hx, rfl⟩)))
        · have hx' : ∀ t, x ≠ .tmp t := fun t e => c ⟨t, e⟩
          rw [inv.act, actN_eval hx', actN_eval hx']
      have hwt : Region.wanted o (yielded l.toArray (actN a0 (l.take i) 0 fun j => some (μ j)).tmps) = Region.wanted o (yielded l.toArray a.tmps) := by
        unfold Region.wanted
        cases hgd : o.guard with
        | none => rfl
        | some gw =>
          obtain ⟨q, want⟩ := gw
          have hy : yielded l.toArray (actN a0 (l.take i) 0 fun j => some (μ j)).tmps q = yielded l.toArray a.tmps q := by
            unfold yielded
            cases ht : (l.toArray[q]?).bind (·.dst) with
            | none => rfl
            | some t => simp only [Option.bind_some]; rw [hlook t (by simp [Oper.looksAt, hgd] at ht ⊢; right; simpa using ht)]
          simp only [hy]
      have hbd : ∀ t, o.dst = some t → t < (actN a0 (l.take i) 0 fun j => some (μ j)).tmps.size := fun t ht => by
        rw [actN_size]
        exact hsz o (List.mem_of_getElem? htk) t ht
      refine wpOp_mono ?_ (stepF_move hR0 (Q := Q) (i := i) (ops := l.toArray) ho hbd hex hwt hS)
      rintro a' w' ⟨v, rfl, hso, hbw⟩
      obtain ⟨hval, hfact⟩ := val_so hso
      refine ih (listed.setIfInBounds i true) (updF ν i (some v)) _ w' ?_ ?_
      · have := cntU_set hun n hin
        omega
      · have hset : ∀ j, j ≠ i → (listed.setIfInBounds i true).getD j false = listed.getD j false := fun j hj => getD_set_ne false (Ne.symm hj)
        have hset2 : (listed.setIfInBounds i true).getD i false = true := by simp [show i < listed.size by omega]
        refine ⟨inv.head.set hr hin, fun j hj => ?_, ?_, ?_, fun j u gj hj hu hgj => ?_, fun j u gj hj hu hgj hsf => ?_⟩
        · by_cases e : j = i
          · subst e; rw [hset2]; simp [updF]
          · rw [hset j e]; unfold updF; rw [if_neg e]; exact inv.nu j hj
        · rw [inv.act]
          have := actN_put (o := o) (v := v) (l.take n) 0 i ν a0 htk (by rw [Nat.zero_add]; exact hno) (fun m o' hm hne d hd => by
            rw [List.getElem?_take] at hm
            split at hm
            · exact fun h => (hF.apart i m o o' hin (by assumption) (Ne.symm hne) ho' hm d hd) h
            · cases hm)
          rw [Nat.zero_add] at this
          exact this
        · refine inv.below.trans ?_
          split at hbw
          · exact hR _ _ hbw
          · exact hbw.mono inv.below.size
        · by_cases e : j = i
          · subst e
            rw [hg] at hgj
            cases hgj
            simp [updF] at hu
            rw [← hu]; exact hval
          · unfold updF at hu; rw [if_neg e] at hu
            exact inv.one j u gj hj hu hgj
        · by_cases e : j = i
          · subst e
            rw [hg] at hgj
            cases hgj
            simp [updF] at hu
            rw [← hu]; exact hfact
          · unfold updF at hu; rw [if_neg e] at hu
            obtain ⟨oj, hoj⟩ : ∃ oj, l[j]? = some oj := ⟨l[j]'(by omega), by simp⟩
            have hjl : listed.getD j false = true := by rw [← inv.nu j hj, hu]; rfl
            have hold : SafeJ l n wk hd M listed j := by
              rcases hsf with h0 | h1 | ⟨k, ok, hk, hok, hkd, hkl⟩
              · exact .inl h0
              · refine .inr (.inl fun i' hi' hw' hl' hne' => h1 i' hi' hw' ?_ hne')
                by_cases e' : i' = i
                · subst e'; exact hset2
                · rw [hset i' e']; exact hl'
              · by_cases e' : k = i
                · subst e'; rw [hset2] at hkl; cases hkl
                · rw [hset k e'] at hkl; exact .inr (.inr ⟨k, ok, hk, hok, hkd, hkl⟩)
            have hfw := inv.fact j u gj hj hu hgj hold
            cases hwk : wk i
            · rw [hwk, if_neg (by decide)] at hbw
              cases gj with
              | one x => trivial
              | rel F => exact hst F (List.mem_of_getElem? hgj) u w w' hfw hbw
            · cases gj with
              | one x => trivial
              | rel F =>
                rw [hwk, if_pos rfl] at hbw
                by_cases hhd : hd j = true
                · exact hst2 j F hhd hgj u w w' inv.below hfw hbw
                have hhf : hd j = false := by simpa using hhd
                exfalso
                have hjm := masked hF inv.head j oj hj hoj (fun e' he' hb' => inv.head.closed j oj (by simpa using hoj) hjl e' he' hb')
                have hnm : (M.getD j 0).testBit i = false := by
                  cases hm : (M.getD j 0).testBit i
                  · rfl
                  · have := hjm i hm
                    rw [← getD_tf (by omega), hun] at this; cases this
                rcases hsf with h0 | h1 | ⟨k, ok, hk, hok, hkd, hkl⟩
                · exact hhd h0
                · have := h1 i hin hwk hset2 (fun e' => e e'.symm)
                  rw [hnm] at this; cases this
                · rcases hF.weak i j k ok hin hj hk hwk hhf (fun e' => e e'.symm) hnm hok hkd with rfl | hm
                  · rw [hset2] at hkl; cases hkl
                  · have hkl' := masked hF inv.head i o hin ho' hall k hm
                    have hki : k ≠ i := fun e' => by subst e'; rw [hset2] at hkl; cases hkl
                    rw [hset k hki, hkl'] at hkl; cases hkl
/-- The law: n operations in whatever order, of whose values facts are told; then the tail. -/
theorem wp_region_fac2 {id : Nat} {a : Act} {w : World} (R : World → World → Prop) (n : Nat) (wk hd : Nat → Bool) (fs : List Fct) (hR0 : ∀ w, R w w) (hR : ∀ w1 w', R w1 w' → Below w.heap.size w1 w') (hst2 : ∀ j F, hd j = true → fs[j]? = some (Fct.rel F) → ∀ v w1 w', Below w.heap.size w w1 → F v w1 → R w1 w' → F v w') (hm : P.follows .mixedOrders = true) (hB : facB l n wk hd (maskL (l.take n) []) = true) (hsz : (l.take n).all (fun o => match o.dst with | some d => decide (d < a.tmps.size) | none => true) = true)
    (hst : ∀ F, Fct.rel F ∈ fs → ∀ v w w', F v w → Below w.heap.size w w' → F v w')
    (h : wpFac P l.toArray w R wk (fun a G => ∀ w', Below w.heap.size w w' → (∀ j, j < n → liveB n wk hd (maskL (l.take n) []) j = true → G j w') → wpList P l.toArray Q (l.drop n) a w') 0 (l.take n) fs (fun _ _ => True) a) :
    (Code.region id l.toArray true).wp P Q a w := by
  have hF := facB_ok hB
  have hle := hF.le
  refine wp_region_any hm ?_
  have h0 : cntU (Array.replicate l.toArray.size false) n = n := by
    have : ∀ k, k ≤ n → cntU (Array.replicate l.toArray.size false) k = k := by
      intro k
      induction k with
      | zero => intro _; rfl
      | succ k ih =>
        intro hk
        have hx : (Array.replicate l.toArray.size false).getD k true = false := getD_in (by simp; omega) (getD_replicate_false _ _)
        unfold cntU
        rw [ih (by omega), if_pos hx]
    exact this n (Nat.le_refl _)
  have := fac_any (w0 := w) hF hR0 hR hst2 hst (fun o ho d hd => by
    have := List.all_eq_true.1 hsz o ho
    rw [hd] at this
    simpa using this) h n (Array.replicate l.toArray.size false) (fun _ => none) a { w with drawn := w.drawn + 1 } h0 (by
    refine ⟨⟨by simp, fun j oj _ hl => (by rw [getD_replicate_false] at hl; cases hl), fun t _ ht => getD_in (by simpa using ht) (getD_replicate_false _ _)⟩, fun j _ => by rw [getD_replicate_false]; rfl, ?_, (Below.refl w.heap.size w).drew, fun j v f _ hv => (by cases hv), fun j v f _ hv => by cases hv⟩
    have hnone : ∀ (m : List Oper) (i : Nat) (b : Act), actN b m i (fun _ => none) = b := by
      intro m
      induction m with
      | nil => intro i b; rfl
      | cons o m ih => intro i b; exact ih (i + 1) b
    exact (hnone _ _ _).symm)
  have e : n + (l.length - n) = l.toArray.size := by simp; omega
  rw [e] at this
  exact this
theorem wp_region_fac {id : Nat} {a : Act} {w : World} (n : Nat) (wk : Nat → Bool) (fs : List Fct) (hm : P.follows .mixedOrders = true) (hB : facB l n wk (fun _ => false) (maskL (l.take n) []) = true) (hsz : (l.take n).all (fun o => match o.dst with | some d => decide (d < a.tmps.size) | none => true) = true)
    (hst : ∀ F, Fct.rel F ∈ fs → ∀ v w w', F v w → Below w.heap.size w w' → F v w')
    (h : wpFac P l.toArray w (fun w1 w' => Below w.heap.size w1 w') wk (fun a G => ∀ w', Below w.heap.size w w' → (∀ j, j < n → liveB n wk (fun _ => false) (maskL (l.take n) []) j = true → G j w') → wpList P l.toArray Q (l.drop n) a w') 0 (l.take n) fs (fun _ _ => True) a) :
    (Code.region id l.toArray true).wp P Q a w :=
  wp_region_fac2 _ n wk _ fs (fun _ => Below.refl _ _) (fun _ _ h => h) (fun _ _ h => by cases h) hm hB hsz hst h
end
/-! Step by step. -/
/-- The value in a slot. -/
def atD (d : Option Tmp) (a : Act) (v : Value) : Prop := match d with
  | some d => a.tmps[d]? = some v
  | none => True
theorem asked {c : Bool} {A B : Prop} (h : c = true) (hA : A) : if c = true then A else B := by rw [if_pos h]; exact hA
theorem atD_some {a : Act} {d : Nat} {v : Value} (h : a.tmps[d]? = some v) : atD (some d) a v := h
theorem atD_none {a : Act} (v : Value) : atD none a v := trivial
theorem atD_put {a : Act} {d : Option Tmp} {v u : Value} (h : atD d (a.put d v) u) : a.put d v = a.put d u := by
  cases d with
  | none => rfl
  | some d =>
    have h1 : (a.put (some d) v).tmps[d]? = some u := h
    have hlt : d < a.tmps.size := by
      have := (Array.getElem?_eq_some_iff.1 h1).1
      rwa [put_size] at this
    simp [Act.put, hlt] at h1
    rw [h1]
theorem wp_puts {P : Program} {o : Oper} {a : Act} {w : World} {R K' : Act → World → Prop} (h : o.wp P a w (fun a' w' => a'.defers = a.defers ∧ R a' w') (fun _ _ _ => False)) (hK : ∀ v w', R (a.put o.dst v) w' → K' (a.put o.dst v) w') : o.wp P a w K' (fun _ _ _ => False) := by
  unfold Oper.wp at *
  generalize (execOp a.eval o).run P w = r at *
  cases r with
  | ok n w' =>
    cases n <;> simp only [Oper.upon] at h ⊢
    case value u => exact hK _ _ h.2
    case skip => exact hK _ _ h.2
    case defer d =>
      have h1 := congrArg List.length h.1
      cases hd : o.dst <;> simp [Act.put, hd] at h1
    case enter g args =>
      refine Calls.mono h fun e w'' he => ?_
      cases e with
      | returned u => exact hK _ _ he.2
      | panicked c => exact he
      | outgrown => obtain ⟨_, _, hf⟩ := he; exact hf.elim
    case row r args => exact Rows.mono h fun u w'' he => hK _ _ he.2
  | halt x w' => cases x <;> simp only [Oper.upon] at h
section
variable {P : Program} {ops : Array Oper} {w0 : World} {R : World → World → Prop} {wk : Nat → Bool} {E : Act → (Nat → World → Prop) → Prop} {i : Nat} {o : Oper} {l : List Oper} {fs : List Fct} {G : Nat → World → Prop} {a : Act}
theorem wpFac_one {x : Value} (hwk : wk i = false)
    (h1 : ∀ w, Below w0.heap.size w0 w → (∀ j, depB o j = true → G j w) → if Region.wanted o (yielded ops a.tmps) = true then o.wp P a w (fun a' w' => a'.defers = a.defers ∧ atD o.dst a' x ∧ Below w.heap.size w w') (fun _ _ _ => False) else x = undef)
    (h2 : ∀ a', a' = a.put o.dst x → wpFac P ops w0 R wk E (i + 1) l fs (updF G i fun _ => True) a') : wpFac P ops w0 R wk E i (o :: l) (.one x :: fs) G a := by
  refine ⟨fun w hw hd => ?_, h2 _ rfl⟩
  unfold stepF
  rw [hwk]
  have := h1 w hw hd
  by_cases hwt : Region.wanted o (yielded ops a.tmps) = true
  · rw [if_pos hwt] at this ⊢
    exact wp_puts this fun v w' ⟨hx, hb⟩ => ⟨x, atD_put hx, rfl, hb⟩
  · rw [if_neg hwt] at this ⊢
    exact this.symm
theorem wpFac_rel {F : Value → World → Prop} (hwk : wk i = false)
    (h1 : ∀ w, Below w0.heap.size w0 w → (∀ j, depB o j = true → G j w) → if Region.wanted o (yielded ops a.tmps) = true then o.wp P a w (fun a' w' => a'.defers = a.defers ∧ ∃ v, atD o.dst a' v ∧ F v w' ∧ Below w.heap.size w w') (fun _ _ _ => False) else F undef w)
    (h2 : ∀ v a', a' = a.put o.dst v → wpFac P ops w0 R wk E (i + 1) l fs (updF G i (F v)) a') : wpFac P ops w0 R wk E i (o :: l) (.rel F :: fs) G a := by
  refine ⟨fun w hw hd => ?_, fun v => h2 v _ rfl⟩
  unfold stepF
  rw [hwk]
  have := h1 w hw hd
  by_cases hwt : Region.wanted o (yielded ops a.tmps) = true
  · rw [if_pos hwt] at this ⊢
    exact wp_puts this fun u w' ⟨v, hx, hf, hb⟩ => ⟨v, atD_put hx, hf, hb⟩
  · rw [if_neg hwt] at this ⊢
    exact this
/-- One that turns what the region made. -/
theorem wpFac_weak {F : Value → World → Prop} (hwk : wk i = true)
    (h1 : ∀ w, Below w0.heap.size w0 w → (∀ j, depB o j = true → G j w) → if Region.wanted o (yielded ops a.tmps) = true then o.wp P a w (fun a' w' => a'.defers = a.defers ∧ ∃ v, atD o.dst a' v ∧ F v w' ∧ R w w') (fun _ _ _ => False) else F undef w)
    (h2 : ∀ v a', a' = a.put o.dst v → wpFac P ops w0 R wk E (i + 1) l fs (updF G i (F v)) a') : wpFac P ops w0 R wk E i (o :: l) (.rel F :: fs) G a := by
  refine ⟨fun w hw hd => ?_, fun v => h2 v _ rfl⟩
  unfold stepF
  rw [hwk]
  have := h1 w hw hd
  by_cases hwt : Region.wanted o (yielded ops a.tmps) = true
  · rw [if_pos hwt] at this ⊢
    exact wp_puts this fun u w' ⟨v, hx, hf, hb⟩ => ⟨v, atD_put hx, hf, hb⟩
  · rw [if_neg hwt] at this ⊢
    exact this
theorem wpFac_nil (h : E a G) : wpFac P ops w0 R wk E i [] [] G a := h
end
end Go.Proofs.YtfjbnhacfficnaaGreatDoor

/- Joined texts. -/
import Derived.Test.YtfjbnhacfficnaaGreatDoorZA
import Derived.ProofKit
import Derived.OpenShut
import Derived.ShutString
import Derived.ChangeOld
import Derived.Lib.SmallJoins
import Derived.Deep.Slices
import Derived.Deep.Fields
import Derived.ChangeSame
import Derived.HandedShaped
import Derived.SizedLaws
import Derived.DeepKeys4
import Derived.Maps.OwnOps
import Derived.Maps.Views
import Derived.Test.YtfjbnhacfficnaaGreatDoorZB
import Derived.Lay
import Derived.LaidOnce
import Derived.SevenTiedAt
import Derived.ChangeVars
import Derived.Shelf.Vars
import Derived.JoinedCond
import Derived.Test.YtfjbnhacfficnaaGreatDoorRows

/- Arguments of a law, opened: what is known of each kind of argument. -/
namespace Go.Proofs.YtfjbnhacfficnaaGreatDoor
open Go.ChangeShapes Go.WideShapes Go.ChangeAt Go.RowKit Go.Deep Go.Joins

/-- An int of 64 bits. -/
def I64 (n : Int) : Prop := -9223372036854775808 ≤ n ∧ n ≤ 9223372036854775807
theorem wf_i64 {n : Int} (h : (Lit.int .i64 n).wf = true) : I64 n := by
  have := bounds_i64 h
  exact ⟨by omega, by omega⟩

section
variable {H : Type} {enc : TypeId × Value → H} {P : Program} {w : World} {base : Nat} {spare : Nat → Bool} {held : Bool} {r : Reach} {b0 : Nat}
theorem okWide_array {t e : TypeId} {n : Nat} {v : Value} (ht : P.underlying t = some (.array n e)) (h : Value.okWide P w r b0 t v) : ∃ cs, v = .agg cs ∧ cs.size = P.cellsOf t := by
  simp only [Value.okWide, ht] at h
  obtain ⟨cs, h1, h2, _⟩ := h
  exact ⟨cs, h1, h2⟩

theorem list6 {l : List Value} (h : l.length = 6) : ∃ a b c d e f, l = [a, b, c, d, e, f] := by
  match l, h with
  | [a, b, c, d, e, f], _ => exact ⟨a, b, c, d, e, f, rfl⟩

/-- A clock by value. -/
theorem open_clk {t e : TypeId} {v : Value} {d : DataW H} {p : List MemPlace} (ht : P.underlying t = some (.array 6 e)) (he : P.underlying e = some (.int .i64)) (hc : P.cellsOf e = 1) (hct : P.cellsOf t = 6)
    (hv : Value.okWide P w r b0 t v) (h : DataW.Trod enc P w base spare held t v d p) : ∃ f : Nat → Int, v = clkV f ∧ ∀ i, i < 6 → I64 (f i) := by
  obtain ⟨⟨cs⟩, rfl, hs⟩ := okWide_array ht hv
  obtain ⟨a0, a1, a2, a3, a4, a5, rfl⟩ := list6 (hs.trans hct)
  obtain ⟨fuel, hf⟩ := h
  obtain ⟨xs, m, _, _, _, hl, hx⟩ := DataW.trod_array ht hf
  rw [hc] at hx
  have get : ∀ i (hi : i < 6) (c : Value), [a0, a1, a2, a3, a4, a5][i]? = some c → ∃ n : Int, c = .int .i64 n ∧ I64 n := by
    intro i hi c hci
    have h1 := hx i hi
    have h2 : (([a0, a1, a2, a3, a4, a5].drop (i * 1)).take 1) = [c] := by
      rw [Nat.mul_one, List.drop_eq_getElem_cons (by simpa using hi)]
      have := List.getElem?_eq_some_iff.1 hci
      obtain ⟨_, e⟩ := this
      simp [e]
    rw [show Value.cells (.agg [a0, a1, a2, a3, a4, a5].toArray) = [a0, a1, a2, a3, a4, a5].toArray from rfl] at h1
    rw [h2, List.getElem?_eq_getElem (by omega)] at h1
    obtain ⟨n, hn, _, hw⟩ := DataW.trod_int he h1
    simp only [List.cons.injEq, and_true] at hn
    exact ⟨n, hn, wf_i64 hw⟩
  obtain ⟨n0, rfl, w0⟩ := get 0 (by omega) a0 rfl
  obtain ⟨n1, rfl, w1⟩ := get 1 (by omega) a1 rfl
  obtain ⟨n2, rfl, w2⟩ := get 2 (by omega) a2 rfl
  obtain ⟨n3, rfl, w3⟩ := get 3 (by omega) a3 rfl
  obtain ⟨n4, rfl, w4⟩ := get 4 (by omega) a4 rfl
  obtain ⟨n5, rfl, w5⟩ := get 5 (by omega) a5 rfl
  refine ⟨fun | 0 => n0 | 1 => n1 | 2 => n2 | 3 => n3 | 4 => n4 | _ => n5, rfl, ?_⟩
  apply idx6 <;> assumption

theorem add_off {b o n : Nat} : (⟨b, o, none⟩ : Addr).add n = ⟨b, o + n, none⟩ := by unfold Addr.add; split <;> simp_all
/-- A slice of structs whose m fields are ints, each of one cell: its cells as numbers. -/
theorem open_structs {t e ti : TypeId} {fs : Array Field} {v : Value} {d : DataW H} {p : List MemPlace} (ht : P.underlying t = some (.slice e)) (he : P.underlying e = some (.struct fs))
    (hone : oneCellFields P fs = true) (hpos : 0 < fs.size) (hC : P.cellsOf e = fs.size) (hti : P.underlying ti = some (.int .i64)) (hty : ∀ (j : Nat) (f : Field), fs[j]? = some f → f.type = ti)
    (hv : Value.okWide P w r b0 t v) (h : DataW.Trod enc P w base spare held t v d p) (hsz : ∀ els sp, d = .slice els sp → (els.length + sp.length) * P.bytesOf e ≤ reachBytes) :
    ∃ (a : Option Addr) (len c : Nat) (F : Nat → Nat → Int), v = .slice a len c ∧ len * P.bytesOf e ≤ reachBytes ∧ len ≤ c ∧
      (len = 0 ∨ ∃ b o, a = some ⟨b, o, none⟩ ∧ ∀ i, i < len → ∀ j, j < fs.size → w.cell? ⟨b, o + (i * fs.size + j), none⟩ = some (.int .i64 (F i j))) ∧ ∀ i, i < len → ∀ j, j < fs.size → I64 (F i j) := by
  obtain ⟨a0, len0, cap0, rfl⟩ := okWide_slice ht hv
  obtain ⟨fuel, hf⟩ := h
  rcases open_slice ht hf with ⟨hcs, _⟩ | ⟨a, len, cap, m, n, D, Pl, hcs, _, hl, _, hm, hx, hi⟩
  · simp [Value.cells] at hcs
    obtain ⟨rfl, rfl, rfl⟩ := hcs
    exact ⟨none, 0, 0, fun _ _ => 0, rfl, by simp, Nat.le_refl _, .inl rfl, fun i hi => absurd hi (Nat.not_lt_zero _)⟩
  simp [Value.cells] at hcs
  obtain ⟨rfl, rfl, rfl⟩ := hcs
  have hlm : len0 ≤ m := by rw [hm]; split <;> omega
  have hs1 : len0 * P.bytesOf e ≤ reachBytes := by
    simp only [Prod.mk.injEq] at hx
    have := hsz _ _ hx.1
    refine Nat.le_trans (Nat.mul_le_mul_right _ ?_) this
    simp
  have get : ∀ i, i < len0 → ∀ j, j < fs.size → ∃ n : Int, w.cell? (a.add (i * fs.size + j)) = some (.int .i64 n) ∧ I64 n := by
    intro i him j hj
    obtain ⟨cs', hc, ht'⟩ := hi i (by omega)
    rw [hC] at hc
    obtain ⟨ys, n', hn', hy, hlen, hyl, hff⟩ := DataW.trod_struct he ht'
    obtain ⟨_, hcl, hat⟩ := World.cells?_some hc
    have hfj : fs[j]? = some fs[j] := by simp [hj]
    obtain ⟨ho, hk⟩ := hone_of hone j fs[j] hfj
    have hcell := hat j hj
    have hv : cs'[j]? = some (cs'[j]'(by omega)) := List.getElem?_eq_getElem (by omega)
    have h1 := hff j fs[j] hfj
    rw [ho, hk] at h1
    have hone' : (cs'.drop j).take 1 = [cs'[j]'(by omega)] := by
      rw [List.drop_eq_getElem_cons (by omega)]
      rfl
    rw [hone', hty j fs[j] hfj] at h1
    have hys : ys[j]? = some (ys[j]'(by omega)) := List.getElem?_eq_getElem (by omega)
    rw [hys] at h1
    obtain ⟨n, hn, _, hw⟩ := DataW.trod_int hti h1
    simp only [List.cons.injEq, and_true] at hn
    exact ⟨n, by rw [← Go.Deep.add_add, hcell, hv, hn], wf_i64 hw⟩
  refine ⟨some a, len0, cap0, fun i j => if h : i < len0 ∧ j < fs.size then Classical.choose (get i h.1 j h.2) else 0, rfl, hs1, hl, ?_, ?_⟩
  · by_cases h0 : len0 = 0
    · exact .inl h0
    · right
      obtain ⟨n, hn, _⟩ := get 0 (by omega) 0 (by omega)
      have hspot := World.cell?_spot hn
      obtain ⟨b, o, sp⟩ := a
      have hsp : sp = none := by simpa [Addr.add] using hspot
      subst hsp
      refine ⟨b, o, rfl, fun i hi j hj => ?_⟩
      have e : i < len0 ∧ j < fs.size := ⟨hi, hj⟩
      simp only [dif_pos e]
      rw [← add_off]
      exact (Classical.choose_spec (get i hi j hj)).1
  · intro i hi j hj
    have e : i < len0 ∧ j < fs.size := ⟨hi, hj⟩
    simp only [dif_pos e]
    exact (Classical.choose_spec (get i hi j hj)).2
end
end Go.Proofs.YtfjbnhacfficnaaGreatDoor

/- How a struct of two ints reads as a map's key. Any program. -/
namespace Go.Proofs.YtfjbnhacfficnaaGreatDoor
open Go.RowKit Go.Maps

/-- What a pair reads as. -/
def prKey (p : Int × Int) : Lit := .string (keyBytes [.int .i64 p.1, .int .i64 p.2])
theorem keyOf_pair {P : Program} {k e : TypeId} {f0 f1 : Field} {n : Nat} (hk : P.underlying k = some (.struct #[f0, f1])) (h0 : f0.type = e) (h1 : f1.type = e) (o0 : f0.offset = 0) (o1 : f1.offset = 1) (n0 : (f0.name != "_") = true) (n1 : (f1.name != "_") = true)
    (he : P.underlying e = some (.int .i64)) (hc : P.cellsOf k = 2) (hce : P.cellsOf e = 1) (hkt : P.keyType k = true) (hn : P.types.size = n + 1) (p : Int × Int) (w1 : (Lit.int .i64 p.1).wf = true) (w2 : (Lit.int .i64 p.2).wf = true) :
    keyOf P k (.agg #[.int .i64 p.1, .int .i64 p.2]) = some (prKey p) := by
  have hf : (Value.agg #[.int .i64 p.1, .int .i64 p.2]).formed P k = true := by simp [Value.formed, hk, hc]
  have hl : P.keyLits (P.types.size + 1) k [.int .i64 p.1, .int .i64 p.2] = some [.int .i64 p.1, .int .i64 p.2] := by
    rw [hn]
    simp [Program.keyLits, hk, hc, hce, h0, h1, o0, o1, he, w1, w2] at n0 n1 ⊢
    exact ⟨n0, n1⟩
  simp only [keyOf, hk, hkt, hf, Value.cells, hl, Bool.and_self, if_true, prKey]
  rfl
end Go.Proofs.YtfjbnhacfficnaaGreatDoor

/- A set of pairs in memory: a map[api.Pair]bool that the call makes. -/
namespace Go.Proofs.YtfjbnhacfficnaaGreatDoor
open Go.RowKit Go.Maps

theorem map_laid : laidOutB Tryz.prog = true := by kernel_rfl
set_option maxRecDepth 100000 in
theorem pr_keyType : Tryz.prog.keyType 111 = true := by kernel_rfl
set_option maxRecDepth 100000 in
theorem pr_cells : Tryz.prog.cellsOf 111 = 2 := by kernel_rfl
set_option maxRecDepth 100000 in
theorem int_cells : Tryz.prog.cellsOf 3 = 1 := by kernel_rfl
set_option maxRecDepth 100000 in
theorem pr_row : (111 : TypeId) < Tryz.prog.types.size := of_decide_eq_true (by kernel_rfl)
set_option maxRecDepth 100000 in
theorem pr_deep : Tryz.prog.keyTypeAt 2 111 = true := by kernel_rfl
set_option maxRecDepth 100000 in
theorem pr_wide : (match Tryz.prog.underlying 111 with | some (.array _ _) | some (.struct _) => true | _ => false) = true := by rw [Tryz.underlying111]
set_option maxRecDepth 100000 in
theorem pr_keyed : Keyed Tryz.prog 111 := Keyed.of_law (deep_law_laid map_laid (m := 2) (by omega) pr_row pr_deep pr_wide)
set_option maxRecDepth 100000 in
theorem zero_bool (w : World) : (zeroValue 4).run Tryz.prog w = .ok (.bool false) w := by kernel_rfl
set_option maxRecDepth 100000 in
theorem keyOf_pr (p : Int × Int) (h1 : I64 p.1) (h2 : I64 p.2) : keyOf Tryz.prog 111 (prV p) = some (prKey p) := by
  have w1 : (Lit.int .i64 p.1).wf = true := WalkArith.wf_i64 h1
  have w2 : (Lit.int .i64 p.2).wf = true := WalkArith.wf_i64 h2
  exact keyOf_pair Tryz.underlying111 rfl rfl rfl rfl (by decide) (by decide) Tryz.underlying3 pr_cells int_cells pr_keyType (Nat.succ_pred_eq_of_pos (Nat.lt_of_le_of_lt (Nat.zero_le _) pr_row)).symm p w1 w2

/-- Block b is a map whose keys are the pairs of S, all at true. -/
def prD (S : List (Int × Int)) : DataW Unit := setOf (.lit (.bool true)) (S.map prKey)
abbrev MapP (w : World) (b n : Nat) (S : List (Int × Int)) : Prop := w.ownsMap Tryz.prog 111 (plainElem Tryz.prog 4) b n (prD S)
theorem prD_snoc (S : List (Int × Int)) (p : Int × Int) : prD (S ++ [p]) = (prD S).put (prKey p) (.lit (.bool true)) := by
  simp only [prD, List.map_append, List.map_cons, List.map_nil, setOf_snoc]
theorem prKey_inj {p q : Int × Int} (p1 : I64 p.1) (p2 : I64 p.2) (q1 : I64 q.1) (q2 : I64 q.2) (h : prKey p = prKey q) : p = q := by
  have e := pr_keyed.inj (keyOf_pr p p1 p2) (by rw [h]; exact keyOf_pr q q1 q2)
  simp only [prV, prC, Value.agg.injEq] at e
  have := congrArg Array.toList e
  simp at this
  exact Prod.ext this.1 this.2
theorem isKey_pr (p : Int × Int) : WideAt.IsKeyLit (prKey p) := trivial
theorem isMap_prD (S : List (Int × Int)) : IsMap (prD S) := (tidy_setOf _ _ (by intro x hx; obtain ⟨p, _, rfl⟩ := List.mem_map.1 hx; exact isKey_pr p)).isMap
def I64P (p : Int × Int) : Prop := I64 p.1 ∧ I64 p.2
def inB (S : List (Int × Int)) (p : Int × Int) : Bool := decide (p ∈ S)
theorem snoc_ind {α : Type} {C : List α → Prop} (h0 : C []) (h1 : ∀ l x, C l → C (l ++ [x])) (l : List α) : C l := by
  have h : ∀ m : List α, C m.reverse := by
    intro m
    induction m with
    | nil => exact h0
    | cons x m ih => rw [List.reverse_cons]; exact h1 _ _ ih
  have h2 := h l.reverse
  rwa [List.reverse_reverse] at h2
theorem prD_at (p : Int × Int) (hp : I64P p) (S : List (Int × Int)) (hS : ∀ q ∈ S, I64P q) : (prD S).atKey (prKey p) (.lit (.bool false)) = .lit (.bool (inB S p)) := by
  revert hS
  refine snoc_ind (C := fun S => (∀ q ∈ S, I64P q) → (prD S).atKey (prKey p) (.lit (.bool false)) = .lit (.bool (inB S p))) (fun _ => rfl) ?_ S
  · intro S q ih hS
    have hq := hS q (by simp)
    rw [prD_snoc]
    by_cases e : p = q
    · subst e
      rw [atKey_put_same (isMap_prD S) (isKey_pr p)]
      simp [inB]
    · have hne : prKey p ≠ prKey q := fun h => e (prKey_inj hp.1 hp.2 hq.1 hq.2 h)
      rw [atKey_put_other hne, ih fun q hq => hS q (by simp [hq])]
      simp [inB, e]
theorem plainElem_bool_inv {P : Program} {e : TypeId} (he : P.underlying e = some .bool) {v : Value} {z : DataW Unit × List MemPlace} (h : plainElem P e v = some z) : ∃ x, v = .bool x ∧ z = (.lit (.bool x), []) := by
  unfold plainElem at h
  rw [he] at h
  cases v <;> simp at h
  exact ⟨_, rfl, h.symm⟩
/-- 'm[p]'. -/
theorem MapP.look {w : World} {b n : Nat} {S : List (Int × Int)} (h : MapP w b n S) (hS : ∀ q ∈ S, I64P q) (p : Int × Int) (hp : I64P p) : (Instr.lookup 109 (.map (some b)) (prV p) false).run Tryz.prog w = .ok (.bool (inB S p)) w := by
  obtain ⟨v, ps, hrun, hv⟩ := h.lookup pr_keyed Tryz.underlying109 (zero_bool w) (plainElem_bool Tryz.underlying4 false) (keyOf_pr p hp.1 hp.2)
  obtain ⟨x, rfl, hx⟩ := plainElem_bool_inv Tryz.underlying4 hv
  rw [prD_at p hp S hS] at hx
  simp at hx
  rw [hrun, hx.1]
/-- 'm[p] = true'. -/
theorem MapP.put {w : World} {b n : Nat} {S : List (Int × Int)} (h : MapP w b n S) (hn : n < maxLen) (p : Int × Int) (hp : I64P p) : ∃ w', (Instr.mapUpdate 109 (.map (some b)) (prV p) (.bool true)).run Tryz.prog w = .ok () w' ∧ MapP w' b (n + 1) (S ++ [p]) ∧ w.grownBy w' (some b) := by
  obtain ⟨w', h1, h2, h3⟩ := World.ownsMap.update h pr_keyed Tryz.underlying109 hn (keyOf_pr p hp.1 hp.2) (plainElem_bool Tryz.underlying4 true)
  exact ⟨w', h1, by rw [MapP, prD_snoc]; exact h2, h3⟩
theorem MapP.made (w : World) : MapP (w.alloc (.map #[] 0)) w.heap.size 0 [] := World.ownsMap_made w _ _ _
end Go.Proofs.YtfjbnhacfficnaaGreatDoor

/- Arguments of a law, opened: slices of events. -/
namespace Go.Proofs.YtfjbnhacfficnaaGreatDoor
open Go.ChangeShapes Go.WideShapes Go.ChangeAt Go.RowKit Go.Deep Go.Joins

theorem frame_own : ownKnob Tryz.prog.godebug = none := by kernel_rfl
theorem frame_laid : laidOutB Tryz.prog = true := by kernel_rfl
theorem evs_bytes : Tryz.prog.bytesOf 55 = 24 := by kernel_rfl
section
variable {H : Type} {enc : TypeId × Value → H} {w : World} {base : Nat} {spare : Nat → Bool} {held : Bool} {r : Reach} {b0 : Nat}
set_option maxRecDepth 100000 in
theorem open_evs {v : Value} {d : DataW H} {p : List MemPlace}
    (hv : Value.okWide Tryz.prog w r b0 29 v) (h : DataW.Trod enc Tryz.prog w base spare held 29 v d p) (hsz : ∀ els sp, d = .slice els sp → (els.length + sp.length) * Tryz.prog.bytesOf 55 ≤ reachBytes) :
    ∃ (a : Option Addr) (z : List Ev) (c : Nat), v = .slice a z.length c ∧ EvS w a z ∧ z.length ≤ c ∧ z.length * 24 ≤ 140737488351232 ∧ ∀ e ∈ z, I64 e.k ∧ I64 e.t ∧ I64 e.o := by
  obtain ⟨a, len, c, F, rfl, hb, hlc, hok, hI⟩ := open_structs Tryz.underlying29 Tryz.underlying55 (by kernel_rfl) (by decide) (by kernel_rfl) Tryz.underlying3 (by
    intro j f hj
    rcases (by have := (Array.getElem?_eq_some_iff.1 hj).1; simp at this; omega : j = 0 ∨ j = 1 ∨ j = 2) with rfl | rfl | rfl <;> (simp at hj; subst hj; rfl)) hv h hsz
  rw [evs_bytes] at hb
  have hb' : len * 24 ≤ 140737488351232 := hb
  refine ⟨a, (List.range len).map fun i => ⟨F i 0, F i 1, F i 2⟩, c, by simp, ⟨by simp; omega, ?_⟩, by simpa using hlc, by simpa using hb', ?_⟩
  · rcases hok with h0 | ⟨b, o, rfl, hc⟩
    · left; simp [h0]
    · right
      refine ⟨b, o, rfl, fun i hi => ?_⟩
      have hi' : i < len := by simpa using hi
      have h0 := hc i hi' 0 (by decide)
      have h1 := hc i hi' 1 (by decide)
      have h2 := hc i hi' 2 (by decide)
      simp only [List.getElem_map, List.getElem_range]
      exact ⟨h0, by rw [Nat.add_assoc]; exact h1, by rw [Nat.add_assoc]; exact h2⟩
  · intro e he
    simp only [List.mem_map, List.mem_range] at he
    obtain ⟨i, hi, rfl⟩ := he
    exact ⟨hI i hi 0 (by decide), hI i hi 1 (by decide), hI i hi 2 (by decide)⟩
set_option maxRecDepth 100000 in
/-- An event by value. -/
theorem open_ev {v : Value} {d : DataW H} {p : List MemPlace}
    (hv : Value.okWide Tryz.prog w r b0 55 v) (h : DataW.Trod enc Tryz.prog w base spare held 55 v d p) :
    ∃ e : Ev, v = evV e ∧ I64 e.k ∧ I64 e.t ∧ I64 e.o := by
  obtain ⟨v0, v1, v2, y0, y1, y2, n, rfl, _, _, h0, h1, h2⟩ := open_agg3 Tryz.underlying55 (by kernel_rfl) (by kernel_rfl) hv h
  obtain ⟨k, e0, _, w0⟩ := DataW.trod_int Tryz.underlying3 h0
  obtain ⟨t, e1, _, w1⟩ := DataW.trod_int Tryz.underlying3 h1
  obtain ⟨o, e2, _, w2⟩ := DataW.trod_int Tryz.underlying3 h2
  simp only [List.cons.injEq, and_true] at e0 e1 e2
  subst e0 e1 e2
  exact ⟨⟨k, t, o⟩, rfl, wf_i64 w0, wf_i64 w1, wf_i64 w2⟩
end
end Go.Proofs.YtfjbnhacfficnaaGreatDoor

/- The frame of a tied card whose walk reads a variable of Go's library. -/
namespace Go.Proofs.YtfjbnhacfficnaaGreatDoor
open Go.ChangeShapes Go.WideShapes Go.ChangeAt Go.RowKit

section
variable {H : Type} {enc : TypeId × Value → H}
theorem change_and_shaped {a : Assume} {C : Checked} {os : Os} {f : FuncId} {fn : Func} {s : ChangeSpec} {conds : List PathCond} {apart fresh handsOn again : Bool} {X : World → Array Value → Prop}
    (hX : ∀ (w w' : World) (args : Array Value), w.heap = w'.heap → X w args → X w' args)
    (own : ownKnob C.prog.godebug = none) (started : os.Started) (noInit : C.prog.inits.idxOf? f = none) (hfn : C.prog.funcs[f]? = some fn)
    (witness : ∃ (w : World) (tape : Tape) (i : Input), w.os = os ∧ (w.forCall tape i).Shaped C.prog ∧ i.vars = [] ∧ Input.okWide C.prog (w.forCall tape i) .any w.heap.size f i ∧
      ((s.pre enc C.prog fn conds apart (w.forCall tape i).memory i.args ∧ X (w.forCall tape i).memory i.args) ∧ sizedMet enc C.prog fn (OpenSpec.ofChange s) apart (w.forCall tape i).memory i.args) ∧ a.holds C.prog (lone (Frame.enter C.prog f i.args .normal) [] (w.forCall tape i)))
    (contract : ∀ (W : World) (base : Nat) (args : Array Value) (ds gs : List (DataW H)) (before : List MemPlace),
      (∀ (j : Nat) t v, fn.params[j]? = some t → args[j]? = some v → Value.okWide C.prog W .any base t v) →
      DataW.Whole enc C.prog fn.params.toList s.vars apart W args.toList ds gs before →
      conds.all (PathCond.test C.prog ⟨fn.params.toList, ds, s.plain.varTypes C.prog, gs⟩) = true →
      (DataW.weightsEach C.prog (fn.params.toList ++ s.plain.varTypes C.prog) (ds ++ gs)).all (· ≤ reachBytes) = true → X W args → W.ShapedOpen C.prog →
      a.holds C.prog (lone (Frame.enter C.prog f args .normal) [] W) →
      Calls C.prog f args W fun e W' => ∃ v, e = .returned v ∧ s.post enc C.prog fn apart fresh handsOn again W args v W') :
    ReturnsInHanded a C os f .any (fun w args => (s.pre enc C.prog fn conds apart w args ∧ X w args) ∧ sizedMet enc C.prog fn (OpenSpec.ofChange s) apart w args) (s.post enc C.prog fn apart fresh handsOn again) := by
  refine returnsInHanded_of_calls own started noInit witness ?_
  intro w tape i _ hsh _ hok hpre hholds
  obtain ⟨_, _, _, fn', hfn', _, _, _, _, hval⟩ := hok
  have e : fn' = fn := Option.some.inj (hfn'.symm.trans hfn)
  subst e
  obtain ⟨⟨⟨ds, gs, before, hw, hc⟩, hx⟩, hz⟩ := hpre
  have hw' := DataW.Whole.of_heap (w' := w.forCall tape i) (by rfl) hw
  refine (contract (w.forCall tape i) w.heap.size i.args ds gs before hval hw' hc (hz.weights hw) (hX _ _ _ (by rfl) hx) hsh hholds).mono fun e W' ⟨v, he, hp⟩ => ?_
  subst he
  exact ChangeSpec.post_blind hp
end
theorem maxLen_cell {w : World} (h : w.ShapedOpen Tryz.prog) : ∃ m, w.cell? ⟨3, 0, none⟩ = some (.int .i64 m) :=
  cell_of_shapedOpen_int (g := 3) (t := 3) (zero := #[.int .i64 0]) h (of_decide_eq_true (by kernel_rfl)) (by kernel_rfl) rfl (by kernel_rfl) (by kernel_rfl) Tryz.underlying3
end Go.Proofs.YtfjbnhacfficnaaGreatDoor

/- The frame of a tied card bounded in what it reads, whose walk reads a variable of Go's library. -/
namespace Go.Proofs.YtfjbnhacfficnaaGreatDoor
open Go.ChangeShapes Go.WideShapes Go.ChangeAt Go.RowKit

section
variable {H : Type} {enc : TypeId × Value → H}
theorem cond_and_shaped {a : Assume} {C : Checked} {os : Os} {f : FuncId} {fn : Func} {s : OpenSpec} {k : (H : Type) → List (DataW H) → Bool} (hk : s.cond = some k) {F : Stop.Interp} {conds : List PathCond} {apart fresh handsOn again : Bool} {X : World → Array Value → Prop}
    (hX : ∀ (w w' : World) (args : Array Value), w.heap = w'.heap → X w args → X w' args)
    (own : ownKnob C.prog.godebug = none) (started : os.Started) (noInit : C.prog.inits.idxOf? f = none) (hfn : C.prog.funcs[f]? = some fn)
    (witness : ∃ (w : World) (tape : Tape) (i : Input), w.os = os ∧ (w.forCall tape i).Shaped C.prog ∧ i.vars = [] ∧ Input.okWide C.prog (w.forCall tape i) .any w.heap.size f i ∧
      ((s.pre enc C.prog fn conds apart (w.forCall tape i).memory i.args ∧ X (w.forCall tape i).memory i.args) ∧ sizedMet enc C.prog fn s apart (w.forCall tape i).memory i.args) ∧ a.holds C.prog (lone (Frame.enter C.prog f i.args .normal) [] (w.forCall tape i)))
    (contract : ∀ (W : World) (base : Nat) (args : Array Value) (ds gs : List (DataW H)) (before : List MemPlace),
      (∀ (j : Nat) t v, fn.params[j]? = some t → args[j]? = some v → Value.okWide C.prog W .any base t v) →
      DataW.Whole enc C.prog fn.params.toList s.vars apart W args.toList ds gs before → k H (ds ++ gs) = true → X W args → W.ShapedOpen C.prog →
      Calls C.prog f args W fun e W' => ∃ v, e = .returned v ∧ (s.at F).post enc C.prog fn apart fresh handsOn again W args v W') :
    ReturnsInHanded a C os f .any (fun w args => (s.pre enc C.prog fn conds apart w args ∧ X w args) ∧ sizedMet enc C.prog fn s apart w args) ((s.at F).post enc C.prog fn apart fresh handsOn again) := by
  refine returnsInHanded_of_calls own started noInit witness ?_
  intro w tape i _ hsh _ hok hpre _
  obtain ⟨_, _, _, fn', hfn', _, _, _, _, hval⟩ := hok
  have e : fn' = fn := Option.some.inj (hfn'.symm.trans hfn)
  subst e
  obtain ⟨ds, gs, before, hw, _, hkk⟩ := (OpenSpec.pre_some hk conds apart _ _).1 hpre.1.1
  have hw' := DataW.Whole.of_heap (w' := w.forCall tape i) (by rfl) hw
  refine (contract (w.forCall tape i) w.heap.size i.args ds gs before hval hw' hkk (hX _ _ _ (by rfl) hpre.1.2) hsh).mono fun e W' ⟨v, he, hp⟩ => ?_
  subst he
  exact ChangeSpec.post_blind hp
theorem cond_witness {C : Checked} {os : Os} {f : FuncId} {fn : Func} {s : OpenSpec} {k : (H : Type) → List (DataW H) → Bool} (hk : s.cond = some k) {conds : List PathCond} {apart : Bool} {X : World → Array Value → Prop} (modest : Bool) (w0 : World) (args : Array Value) (fuel : Nat) (hos : w0.os = os)
    (hsh : (w0.forCall (fun _ _ => 0) ⟨#[], args, []⟩).Shaped C.prog)
    (hok : Input.okWideB C.prog (w0.forCall (fun _ _ => 0) ⟨#[], args, []⟩) f ⟨#[], args, []⟩ = true)
    {x : List (DataW H) × List (DataW H) × List MemPlace} (hx : DataW.whole enc C.prog (w0.forCall (fun _ _ => 0) ⟨#[], args, []⟩).memory fn.params.toList s.vars apart args.toList fuel = some x)
    (hconds : conds.all (PathCond.test C.prog ⟨fn.params.toList, x.1, s.bare.plain.varTypes C.prog, x.2.1⟩) = true) (hkk : k H (x.1 ++ x.2.1) = true)
    (hsz : s.bare.sizedB enc C.prog fn apart (w0.forCall (fun _ _ => 0) ⟨#[], args, []⟩).memory args fuel = true)
    (hX : X (w0.forCall (fun _ _ => 0) ⟨#[], args, []⟩).memory args) :
    ∃ (w : World) (tape : Tape) (i : Input), w.os = os ∧ (w.forCall tape i).Shaped C.prog ∧ i.vars = [] ∧ Input.okWide C.prog (w.forCall tape i) .any w.heap.size f i ∧
      ((s.pre enc C.prog fn conds apart (w.forCall tape i).memory i.args ∧ X (w.forCall tape i).memory i.args) ∧ sizedMet enc C.prog fn s apart (w.forCall tape i).memory i.args) ∧ ({ modest := modest } : Assume).holds C.prog (lone (Frame.enter C.prog f i.args .normal) [] (w.forCall tape i)) :=
  ⟨w0, fun _ _ => 0, ⟨#[], args, []⟩, hos, hsh, (Input.okWide_of_okWideB (base := 0) hok).1, (Input.okWide_of_okWideB hok).2, ⟨⟨(OpenSpec.pre_some hk conds apart _ _).2 ⟨x.1, x.2.1, x.2.2, DataW.Whole_of_whole hx, hconds, hkk⟩, hX⟩, sizedMet_of_sizedB hsz⟩, by
    simp only [Assume.holds]
    exact ⟨by simp, by simp, fun _ => Modest.zero, by simp, by simp⟩⟩
end
end Go.Proofs.YtfjbnhacfficnaaGreatDoor

/- What the bound on the bulk gives: slices are short. -/
namespace Go.Proofs.YtfjbnhacfficnaaGreatDoor
open Go.ChangeShapes Go.WideShapes Go.ChangeAt Go.RowKit Go.Deep Go.Joins

theorem bulk_one {H : Type} (d : DataW H) : 1 ≤ Rows.uptoBulk d := by
  cases d with
  | lit l => cases l <;> simp [Rows.uptoBulk]
  | nil => simp [Rows.uptoBulk]
  | ptr d => simp [Rows.uptoBulk]
  | slice elems spare => simp [Rows.uptoBulk]
  | agg parts => simp [Rows.uptoBulk]
  | iface t d => simp [Rows.uptoBulk]
  | map entries => simp [Rows.uptoBulk]
  | held h => simp [Rows.uptoBulk]
theorem bulk_part {H : Type} {d : DataW H} {l : List (DataW H)} (h : d ∈ l) : Rows.uptoBulk d ≤ Rows.uptoBulkAll l := by
  induction l with
  | nil => cases h
  | cons x r ih =>
    simp only [Rows.uptoBulkAll]
    cases List.mem_cons.1 h with
    | inl e => subst e; omega
    | inr e => have := ih e; omega
theorem bulk_count {H : Type} (l : List (DataW H)) : l.length ≤ Rows.uptoBulkAll l := by
  induction l with
  | nil => simp [Rows.uptoBulkAll]
  | cons x r ih => have := bulk_one x; simp only [Rows.uptoBulkAll, List.length_cons]; omega
theorem upto_part {H : Type} {d : DataW H} {l : List (DataW H)} (hk : Rows.uptoSmall H l = true) (hd : d ∈ l) : Rows.uptoBulk d ≤ 1048576 := by
  have h : Rows.uptoBulkAll l ≤ 1048576 := of_decide_eq_true hk
  exact Nat.le_trans (bulk_part hd) h
theorem upto_slice {H : Type} {d : DataW H} {l : List (DataW H)} (hk : Rows.uptoSmall H l = true) (hd : d ∈ l) {els sp : List (DataW H)} (e : d = .slice els sp) : els.length + sp.length ≤ 1048576 := by
  have h := upto_part hk hd
  subst e
  have h1 := bulk_count els
  have h2 := bulk_count sp
  simp only [Rows.uptoBulk] at h
  omega
theorem upto_str {H : Type} {s : ByteArray} {l : List (DataW H)} (hk : Rows.uptoSmall H l = true) (hd : DataW.lit (.string s.data.toList) ∈ l) : s.size ≤ 1048576 := by
  have h := upto_part hk hd
  simp only [Rows.uptoBulk] at h
  have e : s.data.toList.length = s.size := by rw [Array.length_toList]; rfl
  omega
section
variable {H : Type} {enc : TypeId × Value → H} {P : Program} {w : World} {base : Nat} {spare : Nat → Bool} {held : Bool}
theorem upto_len {t e : TypeId} (ht : P.underlying t = some (.slice e)) {a : Option Addr} {n c : Nat} {d : DataW H} {p : List MemPlace} (h : DataW.Trod enc P w base spare held t (.slice a n c) d p)
    {l : List (DataW H)} (hk : Rows.uptoSmall H l = true) (hd : d ∈ l) : n ≤ 1048576 := by
  obtain ⟨fuel, hf⟩ := h
  rcases DataW.trod_slice ht hf with ⟨h0, _⟩ | ⟨a', n', c', elems, rest, m, _, hcs, hx, _, _, _, hl, _⟩
  · simp [Value.cells] at h0
    omega
  · simp only [Prod.mk.injEq] at hx
    have h1 := upto_slice hk hd hx.1
    simp [Value.cells] at hcs
    simp only [List.length_map] at h1
    omega
end
end Go.Proofs.YtfjbnhacfficnaaGreatDoor

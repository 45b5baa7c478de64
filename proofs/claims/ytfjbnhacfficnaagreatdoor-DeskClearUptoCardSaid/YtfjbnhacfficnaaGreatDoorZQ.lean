/- Joined texts. -/
import Derived.Test.YtfjbnhacfficnaaGreatDoorChecked
import Derived.Test.YtfjbnhacfficnaaGreatDoorZA
import Derived.Test.YtfjbnhacfficnaaGreatDoorZC
import Derived.Maps.OwnOps
import Derived.Maps.OwnSet
import Derived.Maps.AppendAt
import Derived.Maps.RangeWalk
import Derived.Test.YtfjbnhacfficnaaGreatDoorTxS
import Derived.Test.YtfjbnhacfficnaaGreatDoorZD

/- The map of words that package text makes: what it holds at each kind; ranging over it. -/
namespace Go.Proofs.YtfjbnhacfficnaaGreatDoor
open Go.RowKit Go.Maps Go.WideShapes

theorem int_keysW : Keyed Tryz.prog 3 := int_keyed Tryz.underlying3
abbrev wmT : TypeId := 99
abbrev woT : TypeId := 102
/-- The word of a kind, its letter. -/
def wordA : Nat → ByteArray
  | 1 => ⟨#[114, 101, 97, 100]⟩
  | 2 => ⟨#[119, 114, 105, 116, 101]⟩
  | 3 => ⟨#[97, 99, 113, 117, 105, 114, 101]⟩
  | 4 => ⟨#[114, 101, 108, 101, 97, 115, 101]⟩
  | 5 => ⟨#[102, 111, 114, 107]⟩
  | 6 => ⟨#[106, 111, 105, 110]⟩
  | 7 => ⟨#[115, 101, 101]⟩
  | 8 => ⟨#[115, 104, 111, 119]⟩
  | _ => ⟨#[]⟩
def letA : Nat → ByteArray
  | 1 => ⟨#[120]⟩
  | 2 => ⟨#[120]⟩
  | 3 => ⟨#[109]⟩
  | 4 => ⟨#[109]⟩
  | 5 => ⟨#[116]⟩
  | 6 => ⟨#[116]⟩
  | 7 => ⟨#[118]⟩
  | 8 => ⟨#[118]⟩
  | _ => ⟨#[]⟩
def wordV (k : Nat) : Value := .agg #[.string (wordA k), .string (letA k)]
def wordR (v : Value) : Option (DataW Unit × List MemPlace) := match v with
  | .agg ⟨[.string a, .string b]⟩ => some (.agg [.lit (.string a.data.toList), .lit (.string b.data.toList)], [])
  | _ => none
def wordD (k : Nat) : DataW Unit := .agg [.lit (.string (wordA k).data.toList), .lit (.string (letA k).data.toList)]
theorem wordR_mk (k : Nat) : wordR (wordV k) = some (wordD k, []) := rfl
theorem wordR_inv {v : Value} {y : DataW Unit × List MemPlace} (h : wordR v = some y) : ∃ a b, v = .agg #[.string a, .string b] ∧ y = (.agg [.lit (.string a.data.toList), .lit (.string b.data.toList)], []) := by
  unfold wordR at h
  split at h
  · cases h; exact ⟨_, _, rfl, rfl⟩
  · cases h
theorem wordD_val {v : Value} {y : DataW Unit × List MemPlace} {k : Nat} (h : wordR v = some y) (e : y.1 = wordD k) : v = wordV k := by
  obtain ⟨a, b, rfl, rfl⟩ := wordR_inv h
  have hb : ∀ x z : ByteArray, x.data.toList = z.data.toList → x = z := fun x z e => by
    cases x; cases z
    simp only at e
    rw [Array.toList_inj.1 e]
  simp only [wordD, DataW.agg.injEq, List.cons.injEq, DataW.lit.injEq, Lit.string.injEq, and_true] at e
  rw [hb _ _ e.1, hb _ _ e.2]
  rfl
theorem zero_W (w : World) : (zeroValue woT).run Tryz.prog w = .ok (wordV 0) w := by kernel_rfl
theorem litN_inj {i j : Int} (h : Lit.int .i64 i = Lit.int .i64 j) : i = j := by cases h; rfl
theorem litN_ne {j k : Nat} (e : ¬ j = k) : Lit.int .i64 (j : Int) ≠ Lit.int .i64 (k : Int) := fun h => e (Int.ofNat.inj (litN_inj h))
/-- Block b is a map of words that holds the kinds of S. -/
structure WordsM (w : World) (b n : Nat) (S : List Nat) : Prop where
  out : ∃ D, w.ownsMap Tryz.prog 3 wordR b n D ∧ (∀ k ∈ S, ∀ z, D.atKey (.int .i64 (k : Int)) z = wordD k) ∧ (∀ i : Int, (∀ k ∈ S, (k : Int) ≠ i) → ∀ z, D.atKey (.int .i64 i) z = z) ∧ (∀ kl, Maps.has D kl = true → ∃ k ∈ S, kl = .int .i64 (k : Int)) ∧ (∀ k ∈ S, Maps.has D (.int .i64 (k : Int)) = true)
section
variable {w w' : World} {b n : Nat} {S : List Nat}
theorem WordsM.made (w : World) : WordsM (w.alloc (.map #[] 0)) w.heap.size 0 [] :=
  ⟨_, World.ownsMap_made w _ _ _, fun k hk => (by cases hk), fun _ _ _ => rfl, fun kl h => (by cases h), fun k hk => by cases hk⟩
theorem WordsM.lt (h : WordsM w b n S) : b < w.heap.size := by obtain ⟨D, h1, _⟩ := h.out; exact h1.lt
theorem WordsM.kept {row : Option Nat} (h : WordsM w b n S) (g : w.grownBy w' row) (hne : some b ≠ row) : WordsM w' b n S := by
  obtain ⟨D, h1, h2⟩ := h.out; exact ⟨D, h1.kept g hne, h2⟩
theorem WordsM.below (h : WordsM w b n S) (k : Below w.heap.size w w') : WordsM w' b n S :=
  h.kept (row := none) ⟨k.os, k.tape, k.output, k.size, fun j hj _ => k.block j hj⟩ (by simp)
theorem WordsM.put (h : WordsM w b n S) (hn : n < maxLen) (k : Nat) (hk : k < 1000) : ∃ w', (Instr.mapUpdate wmT (.map (some b)) (.int .i64 (k : Int)) (wordV k)).run Tryz.prog w = .ok () w' ∧ WordsM w' b (n + 1) (S ++ [k]) ∧ w.grownBy w' (some b) := by
  obtain ⟨D, h1, h2, h3, h4, h5⟩ := h.out
  obtain ⟨w', r, o, g⟩ := h1.update int_keysW Tryz.underlying99 hn (keyOf_int_mk (a := (k : Int)) Tryz.underlying3 (WalkArith.wf_i64 ⟨by omega, by omega⟩)) (wordR_mk k)
  refine ⟨w', r, ⟨_, o, fun j hj z => ?_, fun i hi z => ?_, fun kl hkl => ?_, fun j hj => ?_⟩, g⟩
  · by_cases e : j = k
    · subst e
      exact atKey_put_same h1.isMap (show WideAt.IsKeyLit (.int .i64 (j : Int)) from trivial) _ _
    · rw [atKey_put_other (litN_ne e)]
      rcases List.mem_append.1 hj with hj | hj
      · exact h2 j hj z
      · exact absurd (List.mem_singleton.1 hj) e
  · rw [atKey_put_other (fun h => hi k (by simp) (litN_inj h).symm)]
    exact h3 i (fun j hj => hi j (by simp [hj])) z
  · by_cases e : kl = .int .i64 (k : Int)
    · exact ⟨k, by simp, e⟩
    · rw [has_put_other e] at hkl
      obtain ⟨j, hj, e2⟩ := h4 kl hkl
      exact ⟨j, by simp [hj], e2⟩
  · by_cases e : j = k
    · subst e
      exact has_put_same h1.isMap (show WideAt.IsKeyLit (.int .i64 (j : Int)) from trivial) _
    · rw [has_put_other (litN_ne e)]
      rcases List.mem_append.1 hj with hj | hj
      · exact h5 j hj
      · exact absurd (List.mem_singleton.1 hj) e
theorem WordsM.look (h : WordsM w b n S) {k : Nat} (hk : k ∈ S) (h1000 : k < 1000) : (Instr.lookup wmT (.map (some b)) (.int .i64 (k : Int)) false).run Tryz.prog w = .ok (wordV k) w := by
  obtain ⟨D, h1, h2, _⟩ := h.out
  obtain ⟨v, ps, hrun, hv⟩ := h1.lookup int_keysW Tryz.underlying99 (zero_W w) (wordR_mk 0) (keyOf_int_mk (a := (k : Int)) Tryz.underlying3 (WalkArith.wf_i64 ⟨by omega, by omega⟩))
  rw [hrun, wordD_val hv (h2 k hk _)]
end
def eight : List Nat := [1, 2, 3, 4, 5, 6, 7, 8]
theorem mem_eight {k : Nat} : k ∈ eight ↔ 1 ≤ k ∧ k ≤ 8 := by simp [eight]; omega
set_option maxRecDepth 100000 in
theorem words_fill (w : World) : ∃ w1 w2 w3 w4 w5 w6 w7 w8 : World,
    (Instr.mapUpdate wmT (.map (some w.heap.size)) (.int .i64 1) (wordV 1)).run Tryz.prog (w.alloc (.map #[] 0)) = .ok () w1 ∧
    (Instr.mapUpdate wmT (.map (some w.heap.size)) (.int .i64 2) (wordV 2)).run Tryz.prog w1 = .ok () w2 ∧
    (Instr.mapUpdate wmT (.map (some w.heap.size)) (.int .i64 3) (wordV 3)).run Tryz.prog w2 = .ok () w3 ∧
    (Instr.mapUpdate wmT (.map (some w.heap.size)) (.int .i64 4) (wordV 4)).run Tryz.prog w3 = .ok () w4 ∧
    (Instr.mapUpdate wmT (.map (some w.heap.size)) (.int .i64 5) (wordV 5)).run Tryz.prog w4 = .ok () w5 ∧
    (Instr.mapUpdate wmT (.map (some w.heap.size)) (.int .i64 6) (wordV 6)).run Tryz.prog w5 = .ok () w6 ∧
    (Instr.mapUpdate wmT (.map (some w.heap.size)) (.int .i64 7) (wordV 7)).run Tryz.prog w6 = .ok () w7 ∧
    (Instr.mapUpdate wmT (.map (some w.heap.size)) (.int .i64 8) (wordV 8)).run Tryz.prog w7 = .ok () w8 ∧
    WordsM w8 w.heap.size 8 eight ∧ Below w.heap.size w w8 := by
  have h0 := WordsM.made w
  obtain ⟨w1, r1, h1, g1⟩ := h0.put (by decide) 1 (by decide)
  obtain ⟨w2, r2, h2, g2⟩ := h1.put (by decide) 2 (by decide)
  obtain ⟨w3, r3, h3, g3⟩ := h2.put (by decide) 3 (by decide)
  obtain ⟨w4, r4, h4, g4⟩ := h3.put (by decide) 4 (by decide)
  obtain ⟨w5, r5, h5, g5⟩ := h4.put (by decide) 5 (by decide)
  obtain ⟨w6, r6, h6, g6⟩ := h5.put (by decide) 6 (by decide)
  obtain ⟨w7, r7, h7, g7⟩ := h6.put (by decide) 7 (by decide)
  obtain ⟨w8, r8, h8, g8⟩ := h7.put (by decide) 8 (by decide)
  have hg := ((((((g1.trans g2).trans g3).trans g4).trans g5).trans g6).trans g7).trans g8
  exact ⟨w1, w2, w3, w4, w5, w6, w7, w8, r1, r2, r3, r4, r5, r6, r7, r8, h8, ((Below.refl w.heap.size w).alloc (Nat.le_refl _) (.map #[] 0)).grown hg (by simp) (fun k e => by cases e; exact Nat.le_refl _)⟩
set_option maxRecDepth 100000 in
set_option maxHeartbeats 2000000 in
theorem words_any (w : World) : Calls Tryz.prog 54 #[] w fun r w' => ∃ b, r = .returned (.map (some b)) ∧ WordsM w' b 8 eight ∧ w.heap.size ≤ b ∧ Below w.heap.size w w' := by
  obtain ⟨w1, w2, w3, w4, w5, w6, w7, w8, r1, r2, r3, r4, r5, r6, r7, r8, h8, hk⟩ := words_fill w
  simp only [wordV, wordA, letA] at r1 r2 r3 r4 r5 r6 r7 r8
  have hmk : (Instr.makeMap wmT none).run Tryz.prog w = .ok (.map (some w.heap.size)) (w.alloc (.map #[] 0)) := by kernel_rfl
  go_enter Tryz.func54, Tryz.ntmps54
  go_wp2
  go_ret
  exact ⟨_, rfl, h8, Nat.le_refl _, hk⟩
/-- A loop is under way over the words in block b; r: its iterator's block; left: the kinds that are still to come. -/
def RangeW (w : World) (b r n : Nat) (left : Nat → Bool) (cnt : Nat) : Prop :=
  ∃ (lf : Lit → Bool) (D : DataW Unit), w.ranges Tryz.prog 3 wordR b r n D lf cnt ∧ (∀ k ∈ eight, ∀ z, D.atKey (.int .i64 (k : Int)) z = wordD k) ∧ (∀ kl, lf kl = true → ∃ k ∈ eight, kl = .int .i64 (k : Int)) ∧ (∀ k : Nat, lf (.int .i64 (k : Int)) = left k)
section
variable {w w' : World} {b r n cnt : Nat} {left : Nat → Bool}
theorem RangeW.kept {row : Option Nat} (h : RangeW w b r n left cnt) (hg : w.grownBy w' row) (hb : some b ≠ row) (hr : some r ≠ row) : RangeW w' b r n left cnt := by
  obtain ⟨lf, D, h1, h2⟩ := h
  exact ⟨lf, D, h1.kept hg hb hr, h2⟩
theorem RangeW.below (h : RangeW w b r n left cnt) (k : Below w.heap.size w w') : RangeW w' b r n left cnt :=
  h.kept (row := none) ⟨k.os, k.tape, k.output, k.size, fun i hi _ => k.block i hi⟩ (by simp) (by simp)
theorem RangeW.lt (h : RangeW w b r n left cnt) : r < w.heap.size := by obtain ⟨lf, D, h1, _⟩ := h; exact h1.lt
theorem RangeW.left_eq (h : RangeW w b r n left cnt) : w.rangeLeft b r = cnt := by obtain ⟨lf, D, h1, _⟩ := h; exact h1.left_eq
end
section
variable (w : World) {ops : Array Oper} {rest : List Oper} {o : Oper} {a : Act} {Q : Exit → Act → World → Prop}
theorem wpList_range_words (hg : o.guard = none) (m : Operand) (hop : o.op = Op.range wmT m) (b n : Nat) (hm : a.eval m = .map (some b)) (h : WordsM w b n eight)
    (hK : ∀ w' cnt, RangeW w' b w.heap.size n (fun k => eight.contains k) cnt → w.grownBy w' none → w'.heap.size = w.heap.size + 1 → wpList Tryz.prog ops Q rest (a.put o.dst (.pointer (some ⟨w.heap.size, 0, none⟩))) w') :
    wpList Tryz.prog ops Q (o :: rest) a w := by
  obtain ⟨D, h1, h2, h3, h4, h5⟩ := h.out
  refine wpList_range_own w hg m wmT hop 3 woT int_keysW Tryz.underlying99 _ b n D hm h1 ?_
  intro w' g1 g2 g3
  refine hK w' _ ⟨_, D, g1, h2, h4, fun k => ?_⟩ g2 g3
  show _ = eight.contains k
  by_cases e : k ∈ eight
  · rw [List.contains_iff_mem.2 e]; exact h5 k e
  · rw [show eight.contains k = false by rw [Bool.eq_false_iff]; exact fun h => e (List.contains_iff_mem.1 h), Bool.eq_false_iff]
    intro h0
    obtain ⟨j, hj, e2⟩ := h4 _ h0
    exact e (by rw [Int.ofNat.inj (litN_inj e2)]; exact hj)
theorem wpList_next_words (hg : o.guard = none) (it : Operand) (hop : o.op = Op.next it false) (b r n : Nat) (left : Nat → Bool) (cnt : Nat) (hit : a.eval it = .pointer (some ⟨r, 0, none⟩)) (h : RangeW w b r n left cnt)
    (hDone : (∀ k, left k = false) → wpList Tryz.prog ops Q rest (a.put o.dst (.tuple #[.bool false])) w)
    (hMore : ∀ (k : Nat) (w' : World) (cnt' : Nat), k ∈ eight → left k = true → RangeW w' b r n (fun j => left j && !(j == k)) cnt' → cnt' < cnt → w.grownBy w' (some r) → w'.heap.size = w.heap.size →
      (Instr.entry (.pointer (some ⟨r, 0, none⟩))).run Tryz.prog w' = .ok (.tuple #[.int .i64 (k : Int), wordV k]) w' → wpList Tryz.prog ops Q rest (a.put o.dst (.tuple #[.bool true, .int .i64 (k : Int), wordV k])) w') :
    wpList Tryz.prog ops Q (o :: rest) a w := by
  obtain ⟨lf, D, h1, h2, h3, h4⟩ := h
  refine wpList_plain hg fun K' hK' => ?_
  unfold Oper.wp
  rcases h1.next int_keysW o.type with ⟨h0, hl, hrun⟩ | ⟨key, v, kl, y, w', cnt', hkey, hlk, hv, hat, hrun, hrg, hlt, hgr, hsz, hen⟩
  · simp [execOp, hop, hit, hrun, Result.andThen]
    exact hK' _ _ (hDone fun k => by rw [← h4, hl])
  · obtain ⟨k, hk, rfl⟩ := h3 kl hlk
    have hk8 := mem_eight.1 hk
    have hkk : keyOf Tryz.prog 3 (.int .i64 (k : Int)) = some (.int .i64 (k : Int)) := keyOf_int_mk (a := (k : Int)) Tryz.underlying3 (WalkArith.wf_i64 ⟨by omega, by omega⟩)
    obtain rfl := int_keysW.inj hkey hkk
    obtain rfl := wordD_val hv ((hat (wordD 0)).symm.trans (h2 k hk _))
    simp [execOp, hop, hit, hrun, Result.andThen]
    refine hK' _ _ (hMore k w' cnt' hk (by rw [← h4]; exact hlk) ⟨_, D, hrg, h2, fun kl hkl => ?_, fun j => ?_⟩ hlt hgr hsz hen)
    · simp only [Bool.and_eq_true] at hkl
      exact h3 kl hkl.1
    · by_cases e : j = k
      · subst e
        have : (Lit.int .i64 (j : Int)).sameKey (.int .i64 (j : Int)) = true := by simp [Lit.sameKey]
        simp [this]
      · show _ = (left j && !(j == k))
        rw [sameKey_ne (litN_ne e), h4]
        have : (j == k) = false := beq_eq_false_iff_ne.2 e
        rw [this]
end
end Go.Proofs.YtfjbnhacfficnaaGreatDoor

/- Contract of text.Line. -/
namespace Go.Proofs.YtfjbnhacfficnaaGreatDoor
open Go.RowKit

/-- The line of an event. -/
def lineL (e : Ev) : List UInt8 := [116] ++ Lib.decDigits e.t.toNat ++ [32] ++ (wordA e.k.toNat).data.toList ++ [32] ++ (letA e.k.toNat).data.toList ++ Lib.decDigits e.o.toNat
def lineB (e : Ev) : ByteArray := ⟨(lineL e).toArray⟩
def WordsF (B : Nat) (v : Value) (w : World) : Prop := ∃ b, v = .map (some b) ∧ WordsM w b 8 eight ∧ B ≤ b
theorem WordsF.on {B : Nat} {v : Value} {w w' : World} (h : WordsF B v w) (k : Below w.heap.size w w') : WordsF B v w' := by
  obtain ⟨b, h1, h2, h3⟩ := h
  exact ⟨b, h1, h2.below k, h3⟩
def NewW (B : Nat) (v : Value) (w : World) : Prop := ∃ b cs, v = .pointer (some ⟨b, 0, none⟩) ∧ B ≤ b ∧ cs.size = 2 ∧ Has w b cs woT
theorem NewW.on {B : Nat} {v : Value} {w w' : World} (h : NewW B v w) (k : Below w.heap.size w w') : NewW B v w' := by
  obtain ⟨b, cs, h1, h2, h3, h4⟩ := h
  exact ⟨b, cs, h1, h2, h3, h4.below k h4.lt⟩
theorem Has.setRowW {w : World} {b : Nat} {cs ds : Array Value} {t : TypeId} (h : Has w b cs t) : Has (w.setRow b ds) b ds t :=
  ⟨by simp only [World.setRow, Array.getElem?_modify, if_pos, h.out, Option.map_some]⟩
theorem Has.setFarRow {w : World} {b g : Nat} {cs ds : Array Value} {t : TypeId} (h : Has w b cs t) (hg : b ≠ g) : Has (w.setRow g ds) b cs t :=
  ⟨by simp only [World.setRow, Array.getElem?_modify]; rw [if_neg (fun e => hg e.symm)]; exact h.out⟩
theorem below_setRowW {B b : Nat} {a w : World} {cs : Array Value} (h : Below B a w) (hb : B ≤ b) : Below B a (w.setRow b cs) :=
  ⟨h.os, h.tape, h.output, by simpa [World.setRow] using h.size, fun k hk => by
    have : (w.setRow b cs).heap[k]? = w.heap[k]? := by
      simp only [World.setRow, Array.getElem?_modify]
      rw [if_neg (by omega)]
    rw [this]; exact h.block k hk⟩
theorem dec_one {n : Nat} (h : n < 10) : Lib.decDigits n = [UInt8.ofNat (48 + n)] := by
  rw [Lib.decDigits, dif_pos h]
theorem isEv_bounds {e : Ev} (h : isEv e = true) : (1 ≤ e.k ∧ e.k ≤ 8) ∧ (0 ≤ e.t ∧ e.t < 6) ∧ 0 ≤ e.o ∧ e.o < 8 := by
  unfold isEv at h
  have h := of_decide_eq_true h
  have hm := h.2.2.2
  unfold manyOf at hm
  (repeat' split at hm) <;> omega
theorem cat_line (cT cO : UInt8) (A Lt : ByteArray) : (⟨#[116]⟩ ++ ⟨#[cT]⟩ ++ ⟨#[32]⟩ ++ A ++ ⟨#[32]⟩ ++ Lt ++ ⟨#[cO]⟩ : ByteArray) = ⟨([116] ++ [cT] ++ [32] ++ A.data.toList ++ [32] ++ Lt.data.toList ++ [cO]).toArray⟩ := by
  apply ByteArray.ext
  simp [ByteArray.data_append]
theorem wordA_size {K : Nat} (h : K ∈ eight) : (wordA K).size ≤ 20 := by
  have : eight.all (fun k => (wordA k).size ≤ 20) = true := by decide
  exact of_decide_eq_true (List.all_eq_true.1 this K h)
theorem letA_size {K : Nat} (h : K ∈ eight) : (letA K).size ≤ 2 := by
  have : eight.all (fun k => (letA k).size ≤ 2) = true := by decide
  exact of_decide_eq_true (List.all_eq_true.1 this K h)
set_option maxRecDepth 100000 in
set_option maxHeartbeats 8000000 in
theorem line_any (e : Ev) (w : World) : Calls Tryz.prog 55 #[evV e] w fun r w' => r = .returned (.tuple #[.string (if isEv e = true then lineB e else ⟨#[]⟩), .int .i64 (if isEv e = true then 0 else 1)]) ∧ Below w.heap.size w w' := by
  have hN := Has.new w (evC e) 55
  have hb := (Below.refl w.heap.size w).alloc (Nat.le_refl _) (.cells (evC e) 55)
  go_enter Tryz.func55, Tryz.ntmps55
  go_upto_region 1 with fail
  generalize w.alloc (.cells (evC e) 55) = W at *
  obtain ⟨e0, e1, e2⟩ : W.cell? ⟨w.heap.size, 0, none⟩ = some (.int .i64 e.k) ∧ W.cell? ⟨w.heap.size, 1, none⟩ = some (.int .i64 e.t) ∧ W.cell? ⟨w.heap.size, 2, none⟩ = some (.int .i64 e.o) := ⟨hN.cell rfl, hN.cell rfl, hN.cell rfl⟩
  go_wp2_with fail
  refine (isEvent_any e W).mono ?_
  rintro r w1 ⟨rfl, hb1⟩
  have hN1 := hN.below hb1 hN.lt
  have hk1 := hb.trans (hb1.mono hb.size)
  clear hN hb hb1 e0 e1 e2
  cases hq : isEv e
  · go_wp2
    all_goals
      go_ret2
      exact ⟨rfl, hk1⟩
  · obtain ⟨⟨k1, k8⟩, ⟨t0, t6⟩, o0, o8⟩ := isEv_bounds hq
    obtain ⟨K, hK⟩ : ∃ K : Nat, e.k = K := ⟨e.k.toNat, by omega⟩
    obtain ⟨T, hT⟩ : ∃ T : Nat, e.t = T := ⟨e.t.toNat, by omega⟩
    obtain ⟨O, hO⟩ : ∃ O : Nat, e.o = O := ⟨e.o.toNat, by omega⟩
    have hline : Hid (lineB e = ⟨([116] ++ Lib.decDigits T ++ [32] ++ (wordA K).data.toList ++ [32] ++ (letA K).data.toList ++ Lib.decDigits O).toArray⟩) := Lib.hid (by unfold lineB lineL; rw [hK, hT, hO]; rfl)
    have FK : ∀ w2, Below w1.heap.size w1 w2 → w2.cell? ⟨w.heap.size, 0, none⟩ = some (.int .i64 K) := fun w2 h2 => (hN1.below h2 hN1.lt).cell (by rw [← hK]; rfl)
    have hK8 : K ∈ eight := mem_eight.2 (by omega)
    go_upto_region 3 with fail
    refine wp_region_fac 5 (fun _ => false) [.rel (WordsF w1.heap.size), .one ?a1, .one ?a2, .one ?a3, .rel (NewW w1.heap.size)] (by kernel_rfl) (by kernel_rfl) (by kernel_rfl) ?sta ?goa
    case sta =>
      intro F hF v w4 w5 h4 h5
      simp at hF
      rcases hF with rfl | rfl
      · exact h4.on h5
      · exact h4.on h5
    case goa =>
    simp only [List.take_succ_cons, List.take_zero, List.drop_succ_cons, List.drop_zero]
    with_reducible refine wpFac_rel rfl (fun w1 hw1 hd => ?_) (fun v0 a1 ha1 => ?_)
    · go_simp
      refine (words_any w1).mono ?_
      rintro r w2 ⟨b, rfl, hM, hB, hb⟩
      refine ⟨_, atD_some ?_, ⟨b, rfl, hM, Nat.le_trans hw1.size hB⟩, hb⟩
      simp
    simp [Act.put] at ha1; subst ha1
    repeat (with_reducible refine wpFac_one rfl (fun w1 hw1 hd => ?_) (fun a1 ha1 => ?_); (· have eFK := FK w1 hw1; go_simp; first | exact rfl | (refine ⟨atD_some ?_, Below.refl _ _⟩; simp only [List.getElem?_toArray, List.getElem?_cons_succ, List.getElem?_cons_zero]; exact rfl)); simp [Act.put] at ha1; subst ha1)
    with_reducible refine wpFac_one rfl (fun w1 hw1 hd => ?_) (fun a1 ha1 => ?_)
    · obtain ⟨b, e9, hM, _⟩ : WordsF _ v0 w1 := hd 0 (by kernel_rfl)
      subst e9
      have hl : (Instr.lookup wmT (.map (some b)) (.int .i64 (K : Int)) false).run Tryz.prog w1 = .ok (.agg #[.string (wordA K), .string (letA K)]) w1 := hM.look hK8 (by omega)
      go_simp
      refine ⟨atD_some ?_, Below.refl _ _⟩
      simp only [List.getElem?_toArray, List.getElem?_cons_succ, List.getElem?_cons_zero]
      exact rfl
    simp [Act.put] at ha1; subst ha1
    with_reducible refine wpFac_rel rfl (fun w1 hw1 hd => ?_) (fun v4 a1 ha1 => ?_)
    · go_simp
      refine ⟨_, atD_some ?_, ⟨_, _, rfl, hw1.size, rfl, Has.new _ _ _⟩, (Below.refl _ _).alloc (Nat.le_refl _) _⟩
      simp only [List.getElem?_toArray, List.getElem?_cons_succ, List.getElem?_cons_zero]
    simp [Act.put] at ha1; subst ha1
    refine wpFac_nil ?_
    intro w2 hw2 hG
    obtain ⟨bw, cs, e4, hBw, hs, hW⟩ : NewW w1.heap.size v4 w2 := hG 4 (by decide) (by kernel_rfl)
    subst e4
    have hN2 := hN1.below hw2 hN1.lt
    have hk2 := hk1.trans (hw2.mono hk1.size)
    clear hG FK
    go_upto_region 4 with (refine wpList_store_row rfl woT _ _ rfl bw #[.string (wordA K), .string (letA K)] rfl rfl woT _ hW.out (by kernel_rfl) (by rw [hs]; rfl) (by simp [Value.oneCell']) ?_)
    generalize hWx : World.setRow _ _ _ = w3
    have hW3 : Has w3 bw #[.string (wordA K), .string (letA K)] woT := by rw [← hWx]; exact hW.setRowW
    have hk3 : Below w.heap.size w w3 := by rw [← hWx]; exact below_setRowW hk2 (by have := hk1.size; omega)
    have hN3 : Has w3 w.heap.size (evC e) 55 := by
      rw [← hWx]
      exact hN2.setFarRow (by have := hN1.lt; omega)
    have hT1 := dec_one (show T < 10 by omega)
    have hO1 := dec_one (show O < 10 by omega)
    have hiT := l_strconv_Itoa_small T (by omega)
    have hiO := l_strconv_Itoa_small O (by omega)
    rw [hT1] at hline hiT
    rw [hO1] at hline hiO
    have F1 : ∀ w4, Below w3.heap.size w3 w4 → w4.cell? ⟨w.heap.size, 1, none⟩ = some (.int .i64 T) := fun w4 h4 => (hN3.below h4 hN3.lt).cell (by rw [← hT]; rfl)
    have F2 : ∀ w4, Below w3.heap.size w3 w4 → w4.cell? ⟨w.heap.size, 2, none⟩ = some (.int .i64 O) := fun w4 h4 => (hN3.below h4 hN3.lt).cell (by rw [← hO]; rfl)
    have F3 : ∀ w4, Below w3.heap.size w3 w4 → w4.cell? ⟨bw, 0, none⟩ = some (.string (wordA K)) := fun w4 h4 => (hW3.below h4 hW3.lt).cell rfl
    have F4 : ∀ w4, Below w3.heap.size w3 w4 → w4.cell? ⟨bw, 1, none⟩ = some (.string (letA K)) := fun w4 h4 => (hW3.below h4 hW3.lt).cell rfl
    clear hWx hN2 hN3 hW3 hW hk2 hN1 hk1 hT1 hO1
    have hA : (wordA K).size ≤ 20 := wordA_size hK8
    have hL : (letA K).size ≤ 2 := letA_size hK8
    generalize wordA K = A at *
    generalize letA K = Lt at *
    generalize UInt8.ofNat (48 + T) = cT at *
    generalize UInt8.ofNat (48 + O) = cO at *
    refine wp_region_fac 16 (fun _ => false) [.one ?b0, .one ?b1, .one (.string ⟨#[cT]⟩), .one ?b3, .one ?b4, .one ?b5, .one ?b6, .one ?b7, .one ?b8, .one ?b9, .one ?b10, .one ?b11, .one ?b12, .one ?b13, .one (.string ⟨#[cO]⟩), .one ?b15] (by kernel_rfl) (by kernel_rfl) (by kernel_rfl) (by intro F hF; simp at hF) ?gob
    case gob =>
    simp only [List.take_succ_cons, List.take_zero, List.drop_succ_cons, List.drop_zero]
    repeat (with_reducible refine wpFac_one rfl (fun w1 hw1 hd => ?_) (fun a1 ha1 => ?_); (· have eF1 := F1 w1 hw1; have eF2 := F2 w1 hw1; have eF3 := F3 w1 hw1; have eF4 := F4 w1 hw1; go_simp; first | exact rfl | (refine ⟨atD_some ?_, Below.refl _ _⟩; simp only [List.getElem?_toArray, List.getElem?_cons_succ, List.getElem?_cons_zero]; exact rfl)); simp [Act.put] at ha1; subst ha1)
    with_reducible refine wpFac_one rfl (fun w1 hw1 hd => ?_) (fun a1 ha1 => ?_)
    · go_simp
      refine (hiT w1).mono ?_
      rintro r w2 ⟨rfl, rfl⟩
      exact ⟨atD_some (by simp), Below.refl _ _⟩
    simp [Act.put] at ha1; subst ha1
    with_reducible refine wpFac_one rfl (fun w1 hw1 hd => ?_) (fun a1 ha1 => ?_)
    · go_simp
      refine ⟨atD_some ?_, Below.refl _ _⟩
      simp only [List.getElem?_toArray, List.getElem?_cons_succ, List.getElem?_cons_zero]
      exact rfl
    simp [Act.put] at ha1; subst ha1
    with_reducible refine wpFac_one rfl (fun w1 hw1 hd => ?_) (fun a1 ha1 => ?_)
    · go_simp
      refine ⟨atD_some ?_, Below.refl _ _⟩
      simp only [List.getElem?_toArray, List.getElem?_cons_succ, List.getElem?_cons_zero]
      exact rfl
    simp [Act.put] at ha1; subst ha1
    repeat (with_reducible refine wpFac_one rfl (fun w1 hw1 hd => ?_) (fun a1 ha1 => ?_); (· have eF1 := F1 w1 hw1; have eF2 := F2 w1 hw1; have eF3 := F3 w1 hw1; have eF4 := F4 w1 hw1; go_simp; first | exact rfl | (refine ⟨atD_some ?_, Below.refl _ _⟩; simp only [List.getElem?_toArray, List.getElem?_cons_succ, List.getElem?_cons_zero]; exact rfl)); simp [Act.put] at ha1; subst ha1)
    with_reducible refine wpFac_one rfl (fun w1 hw1 hd => ?_) (fun a1 ha1 => ?_)
    · go_simp
      rw [if_neg (by omega)]
      go_simp
      refine ⟨atD_some ?_, Below.refl _ _⟩
      simp only [List.getElem?_toArray, List.getElem?_cons_succ, List.getElem?_cons_zero]
      exact rfl
    simp [Act.put] at ha1; subst ha1
    with_reducible refine wpFac_one rfl (fun w1 hw1 hd => ?_) (fun a1 ha1 => ?_)
    · go_simp
      rw [if_neg (by omega)]
      go_simp
      refine ⟨atD_some ?_, Below.refl _ _⟩
      simp only [List.getElem?_toArray, List.getElem?_cons_succ, List.getElem?_cons_zero]
      exact rfl
    simp [Act.put] at ha1; subst ha1
    repeat (with_reducible refine wpFac_one rfl (fun w1 hw1 hd => ?_) (fun a1 ha1 => ?_); (· have eF1 := F1 w1 hw1; have eF2 := F2 w1 hw1; have eF3 := F3 w1 hw1; have eF4 := F4 w1 hw1; go_simp; first | exact rfl | (refine ⟨atD_some ?_, Below.refl _ _⟩; simp only [List.getElem?_toArray, List.getElem?_cons_succ, List.getElem?_cons_zero]; exact rfl)); simp [Act.put] at ha1; subst ha1)
    with_reducible refine wpFac_one rfl (fun w1 hw1 hd => ?_) (fun a1 ha1 => ?_)
    · go_simp
      rw [if_neg (by omega)]
      go_simp
      refine ⟨atD_some ?_, Below.refl _ _⟩
      simp only [List.getElem?_toArray, List.getElem?_cons_succ, List.getElem?_cons_zero]
      exact rfl
    simp [Act.put] at ha1; subst ha1
    repeat (with_reducible refine wpFac_one rfl (fun w1 hw1 hd => ?_) (fun a1 ha1 => ?_); (· have eF1 := F1 w1 hw1; have eF2 := F2 w1 hw1; have eF3 := F3 w1 hw1; have eF4 := F4 w1 hw1; go_simp; first | exact rfl | (refine ⟨atD_some ?_, Below.refl _ _⟩; simp only [List.getElem?_toArray, List.getElem?_cons_succ, List.getElem?_cons_zero]; exact rfl)); simp [Act.put] at ha1; subst ha1)
    with_reducible refine wpFac_one rfl (fun w1 hw1 hd => ?_) (fun a1 ha1 => ?_)
    · go_simp
      refine (hiO w1).mono ?_
      rintro r w2 ⟨rfl, rfl⟩
      exact ⟨atD_some (by simp), Below.refl _ _⟩
    simp [Act.put] at ha1; subst ha1
    with_reducible refine wpFac_one rfl (fun w1 hw1 hd => ?_) (fun a1 ha1 => ?_)
    · go_simp
      rw [if_neg (by omega)]
      go_simp
      refine ⟨atD_some ?_, Below.refl _ _⟩
      simp only [List.getElem?_toArray, List.getElem?_cons_succ, List.getElem?_cons_zero]
      exact rfl
    simp [Act.put] at ha1; subst ha1
    refine wpFac_nil ?_
    intro w4 hw4 _
    have hk4 := hk3.trans (hw4.mono hk3.size)
    clear F1 F2 F3 F4 hw4 hk3 hiT hiO
    go_wp2
    go_ret2
    refine ⟨?_, hk4⟩
    rw [hline.out]
    exact congrArg (fun x => Ending.returned (.tuple #[.string x, .int .i64 0])) (cat_line cT cO A Lt)
end Go.Proofs.YtfjbnhacfficnaaGreatDoor

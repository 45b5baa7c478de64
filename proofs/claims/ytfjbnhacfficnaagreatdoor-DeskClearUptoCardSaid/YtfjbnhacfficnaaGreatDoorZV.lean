/- Joined texts. -/
import Derived.Test.YtfjbnhacfficnaaGreatDoorZU
import Derived.Maps.OwnOps
import Derived.Maps.OwnSet
import Derived.Maps.AppendAt
import Derived.StringKeys

/- The map of a desk's commands. Printed by a program (gen_dkh.py). -/
namespace Go.Proofs.YtfjbnhacfficnaaGreatDoor
open Go.RowKit Go.Maps Go.WideShapes

abbrev cmT : TypeId := 43
abbrev ceT : TypeId := 42
theorem str_keysC : Keyed Tryz.prog 9 := string_keyed Tryz.underlying9
/-- The commands: their names, how many numbers each takes, its function. -/
def nmA : Nat → ByteArray
  | 0 => ⟨#[114, 97, 99, 101, 115]⟩
  | 1 => ⟨#[102, 117, 108, 108]⟩
  | 2 => ⟨#[102, 97, 115, 116]⟩
  | 3 => ⟨#[119, 97, 114, 110, 115]⟩
  | 4 => ⟨#[108, 101, 97, 100, 115]⟩
  | 5 => ⟨#[115, 116, 97, 109, 112]⟩
  | 6 => ⟨#[114, 105, 110, 103]⟩
  | 7 => ⟨#[100, 114, 111, 112]⟩
  | 8 => ⟨#[109, 105, 110]⟩
  | 9 => ⟨#[115, 105, 122, 101]⟩
  | 10 => ⟨#[99, 108, 101, 97, 114]⟩
  | _ => ⟨#[]⟩
def nmN : Nat → Nat
  | 4 => 2
  | 5 => 1
  | 7 => 1
  | _ => 0
def nmF : Nat → FuncId
  | 0 => 15
  | 1 => 16
  | 2 => 17
  | 3 => 18
  | 4 => 19
  | 5 => 20
  | 6 => 21
  | 7 => 22
  | 8 => 23
  | 9 => 24
  | 10 => 25
  | _ => 0
def cmdV (k : Nat) : Value := .agg #[.int .i64 (nmN k), .func (.func (nmF k)) #[] #[]]
def cmdZ : Value := .agg #[.int .i64 0, .nilFunc]
def cmdR (v : Value) : Option (DataW Unit × List MemPlace) := match v with
  | .agg ⟨[.int .i64 a, .func (.func f) ⟨[]⟩ ⟨[]⟩]⟩ => some (.agg [.lit (.int .i64 a), .lit (.int .i64 f)], [])
  | .agg ⟨[.int .i64 a, .nilFunc]⟩ => some (.agg [.lit (.int .i64 a)], [])
  | _ => none
def cmdD (k : Nat) : DataW Unit := .agg [.lit (.int .i64 (nmN k)), .lit (.int .i64 (nmF k))]
theorem cmdR_mk (k : Nat) : cmdR (cmdV k) = some (cmdD k, []) := rfl
theorem cmdR_zero : cmdR cmdZ = some (.agg [.lit (.int .i64 0)], []) := rfl
theorem cmd_val {v : Value} {ps : List MemPlace} {k : Nat} (h : cmdR v = some (cmdD k, ps)) : v = cmdV k := by
  unfold cmdR at h
  split at h
  · simp only [Option.some.injEq, Prod.mk.injEq, cmdD, DataW.agg.injEq, List.cons.injEq, DataW.lit.injEq, Lit.int.injEq, and_true, true_and] at h
    obtain ⟨⟨h1, h2⟩, _⟩ := h
    have h3 := Int.ofNat.inj h2
    rw [h1, h3]
    rfl
  · simp [cmdD] at h
  · cases h
theorem cmd_zero {v : Value} {ps : List MemPlace} (h : cmdR v = some (.agg [.lit (.int .i64 0)], ps)) : v = cmdZ := by
  unfold cmdR at h
  split at h
  · simp at h
  · simp only [Option.some.injEq, Prod.mk.injEq, DataW.agg.injEq, List.cons.injEq, DataW.lit.injEq, Lit.int.injEq, and_true, true_and] at h
    rw [h.1]
    rfl
  · cases h
theorem zero_C (w : World) : (zeroValue ceT).run Tryz.prog w = .ok cmdZ w := by kernel_rfl
def nmL (s : ByteArray) : Lit := .string s.data.toList
theorem nmL_inj {s t : ByteArray} (h : nmL s = nmL t) : s = t := by
  unfold nmL at h
  injection h with h
  exact ByteArray.ext (Array.toList_inj.1 h)
/-- Block b is a map that holds the commands of S. -/
structure CmdM (w : World) (b n : Nat) (S : List Nat) : Prop where
  out : ∃ D, w.ownsMap Tryz.prog 9 cmdR b n D ∧ (∀ k ∈ S, ∀ z, D.atKey (nmL (nmA k)) z = cmdD k) ∧ (∀ s, (∀ k ∈ S, nmA k ≠ s) → ∀ z, D.atKey (nmL s) z = z) ∧ (∀ s, (∀ k ∈ S, nmA k ≠ s) → Maps.has D (nmL s) = false) ∧ (∀ k ∈ S, Maps.has D (nmL (nmA k)) = true)
section
variable {w w' : World} {b n : Nat} {S : List Nat}
theorem CmdM.made (w : World) : CmdM (w.alloc (.map #[] 0)) w.heap.size 0 [] :=
  ⟨_, World.ownsMap_made w _ _ _, fun k hk => (by cases hk), fun _ _ _ => rfl, fun _ _ => rfl, fun k hk => by cases hk⟩
theorem CmdM.lt (h : CmdM w b n S) : b < w.heap.size := by obtain ⟨D, h1, _⟩ := h.out; exact h1.lt
theorem CmdM.kept {row : Option Nat} (h : CmdM w b n S) (g : w.grownBy w' row) (hne : some b ≠ row) : CmdM w' b n S := by
  obtain ⟨D, h1, h2⟩ := h.out; exact ⟨D, h1.kept g hne, h2⟩
theorem CmdM.below (h : CmdM w b n S) (k : Below w.heap.size w w') : CmdM w' b n S :=
  h.kept (row := none) ⟨k.os, k.tape, k.output, k.size, fun j hj _ => k.block j hj⟩ (by simp)
theorem CmdM.put (h : CmdM w b n S) (hn : n < maxLen) (k : Nat) (hk : (nmA k).size ≤ maxLen) (hS : ∀ j ∈ S, nmA j ≠ nmA k) : ∃ w', (Instr.mapUpdate cmT (.map (some b)) (.string (nmA k)) (cmdV k)).run Tryz.prog w = .ok () w' ∧ CmdM w' b (n + 1) (S ++ [k]) ∧ w.grownBy w' (some b) := by
  obtain ⟨D, h1, h2, h3, h4, h5⟩ := h.out
  have hkey : keyOf Tryz.prog 9 (.string (nmA k)) = some (nmL (nmA k)) := Go.WideMaps.keyOf_string_mk Tryz.underlying9 hk
  obtain ⟨w', r, o, g⟩ := h1.update str_keysC Tryz.underlying43 hn hkey (cmdR_mk k)
  refine ⟨w', r, ⟨_, o, fun j hj z => ?_, fun s hs z => ?_, fun s hs => ?_, fun j hj => ?_⟩, g⟩
  · rcases List.mem_append.1 hj with hj | hj
    · rw [atKey_put_other (fun e => hS j hj (nmL_inj e))]
      exact h2 j hj z
    · rw [List.mem_singleton.1 hj]
      exact atKey_put_same h1.isMap (show WideAt.IsKeyLit (nmL (nmA k)) from trivial) _ _
  · rw [atKey_put_other (fun e => hs k (by simp) (nmL_inj e).symm)]
    exact h3 s (fun j hj => hs j (by simp [hj])) z
  · rw [has_put_other (fun e => hs k (by simp) (nmL_inj e).symm)]
    exact h4 s (fun j hj => hs j (by simp [hj]))
  · rcases List.mem_append.1 hj with hj | hj
    · rw [has_put_other (fun e => hS j hj (nmL_inj e))]
      exact h5 j hj
    · rw [List.mem_singleton.1 hj]
      exact has_put_same h1.isMap (show WideAt.IsKeyLit (nmL (nmA k)) from trivial) _
theorem CmdM.look (h : CmdM w b n S) {k : Nat} (hk : k ∈ S) (hsz : (nmA k).size ≤ maxLen) : (Instr.lookup cmT (.map (some b)) (.string (nmA k)) true).run Tryz.prog w = .ok (.tuple #[cmdV k, .bool true]) w := by
  obtain ⟨D, h1, h2, _, _, h5⟩ := h.out
  obtain ⟨v, ps, hrun, hv⟩ := h1.look_ok str_keysC Tryz.underlying43 (zero_C w) cmdR_zero (Go.WideMaps.keyOf_string_mk Tryz.underlying9 hsz)
  have h6 := h2 k hk (.agg [.lit (.int .i64 0)])
  have h7 := h5 k hk
  unfold nmL at h6 h7
  rw [h6] at hv
  rw [hrun, cmd_val hv, h7]
theorem CmdM.miss (h : CmdM w b n S) {s : ByteArray} (hs : ∀ k ∈ S, nmA k ≠ s) (hsz : s.size ≤ maxLen) : (Instr.lookup cmT (.map (some b)) (.string s) true).run Tryz.prog w = .ok (.tuple #[cmdZ, .bool false]) w := by
  obtain ⟨D, h1, _, h3, h4, _⟩ := h.out
  obtain ⟨v, ps, hrun, hv⟩ := h1.look_ok str_keysC Tryz.underlying43 (zero_C w) cmdR_zero (Go.WideMaps.keyOf_string_mk Tryz.underlying9 hsz)
  have h6 := h3 s hs (.agg [.lit (.int .i64 0)])
  have h7 := h4 s hs
  unfold nmL at h6 h7
  rw [h6] at hv
  rw [hrun, cmd_zero hv, h7]
end
def eleven : List Nat := [0, 1, 2, 3, 4, 5, 6, 7, 8, 9, 10]
theorem nm_differ : ∀ i < 11, ∀ j < i, nmA j ≠ nmA i := by decide
set_option maxRecDepth 100000 in
theorem cmds_fill (w : World) : ∃ w1 w2 w3 w4 w5 w6 w7 w8 w9 w10 w11 : World,
    (Instr.mapUpdate cmT (.map (some w.heap.size)) (.string ⟨#[114, 97, 99, 101, 115]⟩) (.agg #[.int .i64 0, .func (.func 15) #[] #[]])).run Tryz.prog (w.alloc (.map #[] 0)) = .ok () w1 ∧
    (Instr.mapUpdate cmT (.map (some w.heap.size)) (.string ⟨#[102, 117, 108, 108]⟩) (.agg #[.int .i64 0, .func (.func 16) #[] #[]])).run Tryz.prog w1 = .ok () w2 ∧
    (Instr.mapUpdate cmT (.map (some w.heap.size)) (.string ⟨#[102, 97, 115, 116]⟩) (.agg #[.int .i64 0, .func (.func 17) #[] #[]])).run Tryz.prog w2 = .ok () w3 ∧
    (Instr.mapUpdate cmT (.map (some w.heap.size)) (.string ⟨#[119, 97, 114, 110, 115]⟩) (.agg #[.int .i64 0, .func (.func 18) #[] #[]])).run Tryz.prog w3 = .ok () w4 ∧
    (Instr.mapUpdate cmT (.map (some w.heap.size)) (.string ⟨#[108, 101, 97, 100, 115]⟩) (.agg #[.int .i64 2, .func (.func 19) #[] #[]])).run Tryz.prog w4 = .ok () w5 ∧
    (Instr.mapUpdate cmT (.map (some w.heap.size)) (.string ⟨#[115, 116, 97, 109, 112]⟩) (.agg #[.int .i64 1, .func (.func 20) #[] #[]])).run Tryz.prog w5 = .ok () w6 ∧
    (Instr.mapUpdate cmT (.map (some w.heap.size)) (.string ⟨#[114, 105, 110, 103]⟩) (.agg #[.int .i64 0, .func (.func 21) #[] #[]])).run Tryz.prog w6 = .ok () w7 ∧
    (Instr.mapUpdate cmT (.map (some w.heap.size)) (.string ⟨#[100, 114, 111, 112]⟩) (.agg #[.int .i64 1, .func (.func 22) #[] #[]])).run Tryz.prog w7 = .ok () w8 ∧
    (Instr.mapUpdate cmT (.map (some w.heap.size)) (.string ⟨#[109, 105, 110]⟩) (.agg #[.int .i64 0, .func (.func 23) #[] #[]])).run Tryz.prog w8 = .ok () w9 ∧
    (Instr.mapUpdate cmT (.map (some w.heap.size)) (.string ⟨#[115, 105, 122, 101]⟩) (.agg #[.int .i64 0, .func (.func 24) #[] #[]])).run Tryz.prog w9 = .ok () w10 ∧
    (Instr.mapUpdate cmT (.map (some w.heap.size)) (.string ⟨#[99, 108, 101, 97, 114]⟩) (.agg #[.int .i64 0, .func (.func 25) #[] #[]])).run Tryz.prog w10 = .ok () w11 ∧
    CmdM w11 w.heap.size 11 eleven ∧ Below w.heap.size w w11 := by
  have h0 := CmdM.made w
  obtain ⟨w1, r1, h1, g1⟩ := h0.put (by decide) 0 (by decide) (by intro j hj; exact nm_differ 0 (by decide) j (by revert hj; simp; try omega))
  obtain ⟨w2, r2, h2, g2⟩ := h1.put (by decide) 1 (by decide) (by intro j hj; exact nm_differ 1 (by decide) j (by revert hj; simp; try omega))
  obtain ⟨w3, r3, h3, g3⟩ := h2.put (by decide) 2 (by decide) (by intro j hj; exact nm_differ 2 (by decide) j (by revert hj; simp; try omega))
  obtain ⟨w4, r4, h4, g4⟩ := h3.put (by decide) 3 (by decide) (by intro j hj; exact nm_differ 3 (by decide) j (by revert hj; simp; try omega))
  obtain ⟨w5, r5, h5, g5⟩ := h4.put (by decide) 4 (by decide) (by intro j hj; exact nm_differ 4 (by decide) j (by revert hj; simp; try omega))
  obtain ⟨w6, r6, h6, g6⟩ := h5.put (by decide) 5 (by decide) (by intro j hj; exact nm_differ 5 (by decide) j (by revert hj; simp; try omega))
  obtain ⟨w7, r7, h7, g7⟩ := h6.put (by decide) 6 (by decide) (by intro j hj; exact nm_differ 6 (by decide) j (by revert hj; simp; try omega))
  obtain ⟨w8, r8, h8, g8⟩ := h7.put (by decide) 7 (by decide) (by intro j hj; exact nm_differ 7 (by decide) j (by revert hj; simp; try omega))
  obtain ⟨w9, r9, h9, g9⟩ := h8.put (by decide) 8 (by decide) (by intro j hj; exact nm_differ 8 (by decide) j (by revert hj; simp; try omega))
  obtain ⟨w10, r10, h10, g10⟩ := h9.put (by decide) 9 (by decide) (by intro j hj; exact nm_differ 9 (by decide) j (by revert hj; simp; try omega))
  obtain ⟨w11, r11, h11, g11⟩ := h10.put (by decide) 10 (by decide) (by intro j hj; exact nm_differ 10 (by decide) j (by revert hj; simp; try omega))
  have hg := ((((((((((g1.trans g2).trans g3).trans g4).trans g5).trans g6).trans g7).trans g8).trans g9).trans g10).trans g11)
  exact ⟨w1, w2, w3, w4, w5, w6, w7, w8, w9, w10, w11, r1, r2, r3, r4, r5, r6, r7, r8, r9, r10, r11, h11, ((Below.refl w.heap.size w).alloc (Nat.le_refl _) (.map #[] 0)).grown hg (by simp) (fun k e => by cases e; exact Nat.le_refl _)⟩
end Go.Proofs.YtfjbnhacfficnaaGreatDoor

/- What a desk answers a line, plain. -/
namespace Go.Proofs.YtfjbnhacfficnaaGreatDoor
open Go.RowKit

/-- A command's outcome: an answer and what the desk holds then, or an error. -/
inductive DkO where
  | ok (ans : ByteArray) (l : List Ev)
  | no (e : Int)
open Classical in
/-- The event that a line is of. -/
noncomputable def evOf (s : ByteArray) : Option Ev := if h : ∃ e, isEv e = true ∧ lineB e = s then some (Classical.choose h) else none
theorem evOf_some {s : ByteArray} {x : Ev} (h : evOf s = some x) : isEv x = true ∧ lineB x = s := by
  unfold evOf at h
  split at h
  · rename_i hx
    injection h with h
    rw [← h]
    exact Classical.choose_spec hx
  · cases h
theorem evOf_none {s : ByteArray} (h : evOf s = none) : ∀ x, isEv x = true → lineB x ≠ s := by
  unfold evOf at h
  split at h
  · cases h
  · rename_i hx
    exact fun x h1 h2 => hx ⟨x, h1, h2⟩
theorem evOf_line {x : Ev} (h : isEv x = true) : evOf (lineB x) = some x := by
  cases he : evOf (lineB x) with
  | none => exact absurd rfl (evOf_none he x h)
  | some y => rw [line_inj (evOf_some he).1 h (evOf_some he).2]
/-- An event told. -/
noncomputable def dkTell (l : List Ev) (s : ByteArray) : DkO := match evOf s with
  | none => .no 3
  | some x => if (played (l ++ [x])).2.2 = 0 then .ok okB (l ++ [x]) else .no (played (l ++ [x])).2.2
open Classical in
/-- A command done. -/
noncomputable def dkCmd (k : Nat) (l : List Ev) (n : List Int) : DkO := match k with
  | 0 => .ok (toldB ((raceL l).map rcB)) l
  | 1 => .ok (toldB ((fFlags l l.length).map flB)) l
  | 2 => .ok (toldB ((qFlags l l.length).map flB)) l
  | 3 => .ok (toldB ((gWs l).map wrB)) l
  | 4 => if (n.getD 0 0).toNat < l.length ∧ (n.getD 1 0).toNat < l.length then .ok (ynB (R l (n.getD 1 0).toNat (n.getD 0 0).toNat)) l else .no 1
  | 5 => if (n.getD 0 0).toNat < l.length then .ok (toldB (((List.range 6).map (stampOf l (n.getD 0 0).toNat)).map itB)) l else .no 1
  | 6 => .ok (toldB ((ringP (edgeP (grOut l))).map itB)) l
  | 7 => if woOk l ((n.getD 0 0).toNat : Int) = true then .ok okB (l.eraseIdx (n.getD 0 0).toNat) else .no (woE l ((n.getD 0 0).toNat : Int))
  | 8 => if Racy l then .ok (itB (mini l).length) l else .no 7
  | 9 => .ok (itB l.length) l
  | _ => .ok okB []
/-- The number that a word spells. -/
def dkNum (s : ByteArray) : Option Int := match Lib.atoiAll s.data.toList with
  | .ok v => if itoaB v = s ∧ 0 ≤ v ∧ s.size ≤ 9 then some v else none
  | _ => none
def dkNums : List ByteArray → Option (List Int)
  | [] => some []
  | s :: r => match dkNum s with
    | none => none
    | some v => (dkNums r).map (v :: ·)
def fN (rs : List ByteArray) (j : Nat) : Int := (dkNum (rs.getD j ⟨#[]⟩)).getD 0
theorem fN_is {rs : List ByteArray} {j : Nat} (hj : j < rs.length) {v : Int} (h : dkNum rs[j] = some v) : fN rs j = v := by
  unfold fN
  rw [List.getD_eq_getElem?_getD, List.getElem?_eq_getElem hj]
  simp [h]
theorem dkNum_ok {s : ByteArray} {v : Int} (h : Lib.atoiAll s.data.toList = .ok v) (hok : itoaB v = s ∧ 0 ≤ v ∧ s.size ≤ 9) : dkNum s = some v := by
  unfold dkNum
  rw [h]
  simp only
  rw [if_pos hok]
theorem dkNum_bad {s : ByteArray} {v : Int} (h : Lib.atoiAll s.data.toList = .ok v) (hok : ¬ (itoaB v = s ∧ 0 ≤ v ∧ s.size ≤ 9)) : dkNum s = none := by
  unfold dkNum
  rw [h]
  simp only
  rw [if_neg hok]
theorem dkNum_no {s : ByteArray} (h : ¬ ∃ v, Lib.atoiAll s.data.toList = .ok v) : dkNum s = none := by
  unfold dkNum
  split
  · rename_i v hv
    exact absurd ⟨v, hv⟩ h
  · rfl
theorem dkNum_pos {s : ByteArray} {v : Int} (h : dkNum s = some v) : 0 ≤ v := by
  unfold dkNum at h
  split at h
  · split at h
    · rename_i hk
      cases h
      exact hk.2.1
    · cases h
  · cases h
/-- Which command is it? -/
def dkPick (s : ByteArray) : Option Nat := eleven.find? fun k => decide (nmA k = s)
/-- Is a line an event told? -/
def isTellB (ws : List ByteArray) : Bool := match ws with
  | [x, _, _] => x.size == 2 && x.data.toList.head? == some 116
  | _ => false
noncomputable def dkLine (l : List Ev) (s : ByteArray) : DkO :=
  if isTellB (wordsB s) then dkTell l (spB (wordsB s)) else
  match wordsB s with
  | [] => .no 3
  | c :: r => match dkPick c with
    | none => .no 3
    | some k => if r.length = nmN k then (match dkNums r with | none => .no 3 | some n => dkCmd k l n) else .no 3
noncomputable def dkF (l : List Ev) (s : ByteArray) : ByteArray × List Ev := match dkLine l s with
  | .ok a m => (a, m)
  | .no e => (errB e, l)
theorem dkPick_some {s : ByteArray} {k : Nat} (h : dkPick s = some k) : k ∈ eleven ∧ nmA k = s := by
  unfold dkPick at h
  exact ⟨List.mem_of_find?_eq_some h, by simpa using List.find?_some h⟩
theorem dkPick_none {s : ByteArray} (h : dkPick s = none) : ∀ k ∈ eleven, nmA k ≠ s := by
  unfold dkPick at h
  simpa using List.find?_eq_none.1 h
theorem dkNums_take : ∀ {r : List ByteArray} {n : List Int}, dkNums r = some n → n.length = r.length ∧ ∀ i (h : i < r.length), dkNum r[i] = n[i]?
  | [], n, h => by
    unfold dkNums at h
    cases h
    exact ⟨rfl, fun i h => by simp at h⟩
  | s :: r, n, h => by
    unfold dkNums at h
    cases hs : dkNum s with
    | none => rw [hs] at h; cases h
    | some v =>
      rw [hs] at h
      cases hr : dkNums r with
      | none => rw [hr] at h; cases h
      | some m =>
        rw [hr] at h
        cases h
        obtain ⟨h1, h2⟩ := dkNums_take hr
        refine ⟨by simp [h1], fun i hi => ?_⟩
        cases i with
        | zero => simpa using hs
        | succ i => simpa using h2 i (by simpa using hi)
theorem dkNums_none : ∀ {r : List ByteArray} {i : Nat} (h : i < r.length), dkNum r[i] = none → dkNums r = none
  | [], i, h, _ => by simp at h
  | s :: r, i, h, hn => by
    unfold dkNums
    cases hs : dkNum s with
    | none => rfl
    | some v =>
      cases i with
      | zero => simp [hs] at hn
      | succ i => rw [dkNums_none (r := r) (i := i) (by simpa using h) (by simpa using hn)]; rfl
theorem dkNums_all : ∀ {r : List ByteArray} (f : Nat → Int), (∀ i (h : i < r.length), dkNum r[i] = some (f i)) → dkNums r = some ((List.range r.length).map f)
  | [], f, _ => rfl
  | s :: r, f, h => by
    unfold dkNums
    have h0 := h 0 (by simp)
    simp only [List.getElem_cons_zero] at h0
    rw [h0, dkNums_all (r := r) (fun i => f (i + 1)) (fun i hi => by
      have := h (i + 1) (by simpa using hi)
      simpa using this)]
    simp [List.range_succ_eq_map]
end Go.Proofs.YtfjbnhacfficnaaGreatDoor

/- What a desk's line leaves behind its door. -/
namespace Go.Proofs.YtfjbnhacfficnaaGreatDoor
open Go.RowKit Go.Lib

/-- What a line leaves. -/
def LinePost (l : List Ev) (s : ByteArray) (d : Nat) (w : World) (r : Ending) (w' : World) : Prop := r = .returned (.string (dkF l s).1) ∧ DkI w' d (dkF l s).2 ∧ w.grownBy w' (some d)
theorem err_99 (s : St) (e : Ev) : I99 (err s e) := by
  unfold err
  (repeat' split) <;> exact ⟨by decide, by decide⟩
theorem playL_99 : ∀ (l : List Ev) (s : St) (i : Nat), I99 (playL s i l).2.2
  | [], _, _ => ⟨Int.le_refl _, by show (0 : Int) < 100; decide⟩
  | e :: l, s, i => by
    unfold playL
    split
    · exact playL_99 l _ _
    · exact err_99 s e
theorem played_99 (l : List Ev) : I99 (played l).2.2 := by
  unfold played
  split
  · exact ⟨by show (0 : Int) ≤ 2; decide, by show (2 : Int) < 100; decide⟩
  · exact playL_99 _ _ _
theorem woE_99 (l : List Ev) (i : Int) : I99 (woE l i) := by
  unfold woE
  split
  · exact played_99 l
  · split <;> exact ⟨by decide, by decide⟩
abbrev lnT : TypeId := 9
def dfr (p : Nat) : List Deferred := [{ target := .fn (.func 9) #[.pointer (some ⟨p, 0, none⟩)], args := #[] }]
theorem DkI.setStr {w : World} {d p : Nat} {l : List Ev} {x : ByteArray} (h : DkI w d l) (hP : Has w p #[.string x] lnT) (v : Value) : DkI (w.setCell ⟨p, 0, none⟩ v) d l := by
  obtain ⟨h0, a, c, hD, hS, hc, hT⟩ := h
  have hdp : d ≠ p := hD.ne_ty hP (by decide)
  have hT' : EvTy (w.setCell ⟨p, 0, none⟩ v) a l := by
    rcases hT with h0 | ⟨g, o, cs, ha, hg⟩
    · exact .inl h0
    · exact .inr ⟨g, o, cs, ha, hg.setCell_ne (hg.ne_ty hP (by decide)) v⟩
  refine ⟨h0, a, c, hD.setCell_ne hdp v, ⟨hS.big, ?_⟩, hc, hT'⟩
  rcases hS.ok with h0 | ⟨g, o, ha, hcl⟩
  · exact .inl h0
  · refine .inr ⟨g, o, ha, fun i hi => ?_⟩
    obtain ⟨d0, d1, d2⟩ := hcl i hi
    have hne : g ≠ p := by
      intro e
      subst e
      simp [World.cell?, hP.out] at d1
    have oth : ∀ (k : Nat), (w.setCell ⟨p, 0, none⟩ v).cell? ⟨g, k, none⟩ = w.cell? ⟨g, k, none⟩ := fun k => World.cell?_setCell_other _ _ _ _ (by intro e; exact hne (congrArg Addr.block e).symm)
    rw [oth, oth, oth]
    exact ⟨d0, d1, d2⟩
theorem grown_alloc {w W : World} {d : Nat} (h : w.grownBy W (some d)) (o : Obj) : w.grownBy (W.alloc o) (some d) := h.trans (World.grownBy_alloc W o _)
theorem door_ret {l : List Ev} {s : ByteArray} {d : Nat} {w W : World} {tmps : Array Value} {p : Nat} {ans : ByteArray} (ht : tmps.getD 4 undef = .pointer (some ⟨p, 0, none⟩)) (hP : Has W p #[.string ans] lnT) (hpost : LinePost l s d w (.returned (.string ans)) W) :
    Leaves Tryz.prog Tryz.f8 tmps (LinePost l s d w) (dfr p) .returning W := by
  have hc : W.cell? ⟨p, 0, none⟩ = some (.string ans) := hP.cell rfl
  unfold dfr
  refine leaves_cons (f := 9) (args := #[.pointer (some ⟨p, 0, none⟩)]) (by simp) (by simp [go_sem]) ?_
  refine (catch_idle p W).mono ?_
  rintro e u' w'' ⟨rfl, rfl, rfl⟩
  refine ⟨_, ?_, hpost⟩
  rw [Array.getD_eq_getD_getElem?] at ht
  simp [results, Tryz.results8, go_sem, ht, hc]
theorem door_err {l : List Ev} {s : ByteArray} {d : Nat} {w W : World} {tmps : Array Value} {p : Nat} {x : ByteArray} {e : Int} (h99 : I99 e) (ht : tmps.getD 4 undef = .pointer (some ⟨p, 0, none⟩)) (hP : Has W p #[.string x] lnT)
    (hp : w.heap.size ≤ p) (hI : DkI W d l) (hg : w.grownBy W (some d)) (hF : dkF l s = (errB e, l)) :
    Leaves Tryz.prog Tryz.f8 tmps (LinePost l s d w) (dfr p) (.panicking (thrown e)) W := by
  have hc : W.cell? ⟨p, 0, none⟩ = some (.string x) := hP.cell rfl
  have hP2 : Has ((W.setCell ⟨p, 0, none⟩ (.string (errB e))).alloc (.cells #[.int .i64 e] refT)) p #[.string (errB e)] lnT := ((hP.setCell 0 (.string (errB e))).to rfl).alloc _
  have hc2 := hP2.cell (i := 0) rfl
  have hI2 : DkI ((W.setCell ⟨p, 0, none⟩ (.string (errB e))).alloc (.cells #[.int .i64 e] refT)) d l := (hI.setStr hP _).below ((Below.refl _ _).alloc (Nat.le_refl _) _)
  have hg2 : w.grownBy ((W.setCell ⟨p, 0, none⟩ (.string (errB e))).alloc (.cells #[.int .i64 e] refT)) (some d) := grown_alloc (grownBy_setNew hg (a := ⟨p, 0, none⟩) hp _) _
  unfold dfr
  refine leaves_cons (f := 9) (args := #[.pointer (some ⟨p, 0, none⟩)]) (by simp [thrown]) (by simp [go_sem]) ?_
  refine (catch_thrown e h99 p _ W hc (hP.free 0)).mono ?_
  rintro r u' w'' ⟨rfl, rfl, rfl⟩
  refine ⟨.string (errB e), ?_, ?_⟩
  · rw [Array.getD_eq_getD_getElem?] at ht
    simp [results, Tryz.results8, go_sem, ht, hc2]
  · unfold LinePost
    rw [hF]
    exact ⟨rfl, hI2, hg2⟩
end Go.Proofs.YtfjbnhacfficnaaGreatDoor

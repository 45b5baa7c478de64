/- Equality of ends of runs, as the model runs it. -/
import Derived.Test.YthfeakfakjecoaaPgG
import Derived.DeepKeys
namespace Go.Proofs.Ythfeakfakjecoaa
open Go.RowKit

theorem mapM_some {α β : Type} {f : α → Option β} {g : α → β} : ∀ {l : List α}, (∀ x ∈ l, f x = some (g x)) → l.mapM f = some (l.map g)
  | [], _ => rfl
  | x :: l, h => by
    rw [List.mapM_cons, h x (by simp), mapM_some fun y hy => h y (by simp [hy])]
    rfl
theorem drop_take {cs : List Value} {o n : Nat} {V : Nat → Value} (h : ∀ i, i < n → cs[o + i]? = some (V i)) : (cs.drop o).take n = (List.range n).map V := by
  apply List.ext_getElem?
  intro i
  rw [List.getElem?_take]
  by_cases hi : i < n
  · simp [hi, List.getElem?_drop, h i hi]
  · simp [hi]
theorem flatten_one {α β : Type} (f : α → β) : ∀ (l : List α), (l.map fun i => [f i]).flatten = l.map f
  | [] => rfl
  | x :: l => by simp [flatten_one f l]
theorem lits_row {P : Program} {t e : TypeId} {n d : Nat} {V : Nat → Value} {L : Nat → Lit} (hu : P.underlying t = some (.array n e)) (hc : P.cellsOf e = 1) (ht : P.cellsOf t = n) (h : ∀ i, i < n → P.keyLits d e [V i] = some [L i]) :
    P.keyLits (d + 1) t ((List.range n).map V) = some ((List.range n).map L) := by
  unfold Program.keyLits
  simp only [hu]
  rw [if_pos (by simp [ht])]
  rw [mapM_some (g := fun i => [L i]) (fun i hi => by
    have hin : i < n := List.mem_range.1 hi
    rw [hc, Nat.mul_one, drop_take (V := fun _ => V i) (fun j hj => by
      obtain rfl : j = 0 := by omega
      simp [hin])]
    exact h i hin)]
  simp only [Option.map_some, flatten_one]
theorem lit_int {P : Program} {e : TypeId} {d : Nat} (he : P.underlying e = some (.int .i64)) {x : Int} (hx : I64 x) : P.keyLits (d + 1) e [.int .i64 x] = some [.int .i64 x] := by
  unfold Program.keyLits
  simp [he, WalkArith.wf_i64 hx]
theorem lit_bool {P : Program} {e : TypeId} {d : Nat} (he : P.underlying e = some .bool) (x : Bool) : P.keyLits (d + 1) e [.bool x] = some [.bool x] := by
  unfold Program.keyLits
  simp only [he]
/-- What an end reads as. -/
def litE (s : PS) (d k : Bool) : List Lit := (List.range 8).map (fun i => Lit.int .i64 (s.mem i)) ++ ((List.range 4).map (fun i => Lit.int .i64 (s.vols i)) ++ ((List.range 6).map (fun i => Lit.int .i64 (s.has i)) ++ [.bool d, .bool k]))
def NumOk (s : PS) : Prop := ∀ i, I64 (s.mem i) ∧ I64 (s.vols i) ∧ I64 (s.has i)
theorem VB.ok {s : PS} {B : Int} (h : VB s B) (hB : B ≤ 9000000000000000000) : NumOk s := fun i => by
  have := h i
  unfold I64
  omega
theorem endC_at (s : PS) (d k : Bool) {i : Nat} (h : i < 20) : (endC s d k).toList[i]? = some (psF s d k i) := by rw [Array.getElem?_toList]; exact endC_get s d k h
set_option maxRecDepth 100000 in
theorem lits_end {s : PS} (hs : NumOk s) (d k : Bool) : Try.prog.keyLits 3 endT (endC s d k).toList = some (litE s d k) := by
  have h1 : Try.prog.keyLits 2 26 (((endC s d k).toList.drop 0).take (Try.prog.cellsOf 26)) = some ((List.range 8).map (fun i => Lit.int .i64 (s.mem i))) := by
    rw [show Try.prog.cellsOf 26 = 8 by kernel_rfl, drop_take (V := fun i => .int .i64 (s.mem i)) (fun i hi => by rw [Nat.zero_add, endC_at s d k (by omega)]; simp [psF, hi])]
    exact lits_row Try.underlying26 (by kernel_rfl) (by kernel_rfl) (fun i _ => lit_int Try.underlying3 (hs i).1)
  have h2 : Try.prog.keyLits 2 27 (((endC s d k).toList.drop 8).take (Try.prog.cellsOf 27)) = some ((List.range 4).map (fun i => Lit.int .i64 (s.vols i))) := by
    rw [show Try.prog.cellsOf 27 = 4 by kernel_rfl, drop_take (V := fun i => .int .i64 (s.vols i)) (fun i hi => by rw [endC_at s d k (by omega)]; unfold psF; rw [if_neg (by omega), if_pos (by omega), Nat.add_sub_cancel_left])]
    exact lits_row Try.underlying27 (by kernel_rfl) (by kernel_rfl) (fun i _ => lit_int Try.underlying3 (hs i).2.1)
  have h3 : Try.prog.keyLits 2 28 (((endC s d k).toList.drop 12).take (Try.prog.cellsOf 28)) = some ((List.range 6).map (fun i => Lit.int .i64 (s.has i))) := by
    rw [show Try.prog.cellsOf 28 = 6 by kernel_rfl, drop_take (V := fun i => .int .i64 (s.has i)) (fun i hi => by rw [endC_at s d k (by omega)]; unfold psF; rw [if_neg (by omega), if_neg (by omega), if_pos (by omega), Nat.add_sub_cancel_left])]
    exact lits_row Try.underlying28 (by kernel_rfl) (by kernel_rfl) (fun i _ => lit_int Try.underlying3 (hs i).2.2)
  have h4 : Try.prog.keyLits 2 4 (((endC s d k).toList.drop 18).take (Try.prog.cellsOf 4)) = some [.bool d] := by
    rw [show Try.prog.cellsOf 4 = 1 by kernel_rfl, drop_take (V := fun _ => .bool d) (fun i hi => by obtain rfl : i = 0 := (by omega); rw [endC_at s d k (by omega)]; rfl)]
    exact lit_bool Try.underlying4 d
  have h5 : Try.prog.keyLits 2 4 (((endC s d k).toList.drop 19).take (Try.prog.cellsOf 4)) = some [.bool k] := by
    rw [show Try.prog.cellsOf 4 = 1 by kernel_rfl, drop_take (V := fun _ => .bool k) (fun i hi => by obtain rfl : i = 0 := (by omega); rw [endC_at s d k (by omega)]; rfl)]
    exact lit_bool Try.underlying4 k
  unfold Program.keyLits
  simp only [Try.underlying30]
  rw [if_pos ⟨by simp [endC_size]; kernel_rfl, by kernel_rfl⟩]
  simp only [List.mapM_cons, List.mapM_nil, h1, h2, h3, h4, h5, Option.bind_eq_bind, Option.bind_some, Option.pure_def, Option.map_some]
  unfold litE
  simp
set_option maxRecDepth 100000 in
theorem end_deep : EqAt Try.prog 10000 endT := run_equalIn_deep 9997 3 endT (by kernel_rfl)
theorem endC_formed (s : PS) (d k : Bool) : (Value.agg (endC s d k)).formed Try.prog endT = true := by simp only [Value.formed, Try.underlying30]; rw [endC_size]; kernel_rfl
/-- Two ends are equal where what they read as is. -/
theorem eql_end {s s' : PS} (hs : NumOk s) (hs' : NumOk s') (d k d' k' : Bool) (w : World) :
    ∃ r : Bool, (binOp .eql endT (.agg (endC s d k)) (.agg (endC s' d' k'))).run Try.prog w = .ok (.bool r) w ∧ (r = true ↔ litE s d k = litE s' d' k') := by
  obtain ⟨r, hr, hiff⟩ := end_deep w 3 3 (.agg (endC s d k)) (.agg (endC s' d' k')) _ _ (endC_formed s d k) (endC_formed s' d' k') (lits_end hs d k) (lits_end hs' d' k')
  refine ⟨r, ?_, hiff⟩
  rw [run_eql_struct]
  generalize hD : (10000 : Nat) = D at *
  rw [hr]
  rfl
theorem eql_end_refl {s : PS} (hs : NumOk s) (d k : Bool) (w : World) : (binOp .eql endT (.agg (endC s d k)) (.agg (endC s d k))).run Try.prog w = .ok (.bool true) w := by
  obtain ⟨r, hr, hiff⟩ := eql_end hs hs d k d k w
  rw [hr, hiff.2 rfl]
theorem wpList_yes {P : Program} {ops : Array Oper} {Q : Exit → Act → World → Prop} {a : Act} {w : World} {rest : List Oper} {o : Oper} (hw : Region.wanted o (yielded ops a.tmps) = true)
    (h : ∀ K : Act → World → Prop, (∀ a w, wpList P ops Q rest a w → K a w) → o.wp P a w K Q) : wpList P ops Q (o :: rest) a w := wpList_step fun K hK => by rw [if_pos hw]; exact h K hK
theorem zero_ok : NumOk PS.zero := fun i => by unfold I64; simp [PS.zero]
/-- The end that Run answers is equal to itself. -/
theorem eql_endR (p : List (List Ev)) (picks : List Int) (w : World) : (binOp .eql endT (.agg (endR p picks)) (.agg (endR p picks))).run Try.prog w = .ok (.bool true) w := by
  by_cases he : errR p picks.length = 0
  · have hX : chkP p = 0 := by
      unfold errR at he
      split at he
      · assumption
      · exact he
    have hl : picks.length ≤ 100 := by
      unfold errR at he
      rw [if_pos hX] at he
      split at he
      · cases he
      · omega
    unfold endR
    rw [if_pos he]
    exact eql_end_refl ((runP_VB (chkP_ok hX) picks).ok (by omega)) _ _ w
  · unfold endR
    rw [if_neg he]
    exact eql_end_refl zero_ok _ _ w
set_option maxRecDepth 100000 in
/-- An end, loaded whole. -/
theorem Has.loadEnd {w : World} {B : Nat} {Y : Array Value} (h : Has w B Y endT) (hs : Y.size = 20) : (Instr.loadAt endT (.pointer (some ⟨B, 0, none⟩))).run Try.prog w = .ok (.agg Y) w := by
  have hr : w.rangeAt B 0 Y.toList := fun j v hv => by
    rw [Array.getElem?_toList] at hv
    rw [Nat.zero_add]
    exact h.cell hv
  have := run_loadAt_mid (P := Try.prog) w B 0 endT Y.toList _ hr Try.underlying30 rfl (by rw [Array.length_toList, hs]; rfl)
  rw [Array.toArray_toList] at this
  exact this
theorem endR_size (p : List (List Ev)) (picks : List Int) : (endR p picks).size = 20 := by unfold endR; split <;> exact endC_size _ _ _
theorem endR_one (p : List (List Ev)) (picks : List Int) : (endR p picks).all (·.oneCell') = true := by unfold endR; split <;> exact endC_one _ _ _
end Go.Proofs.Ythfeakfakjecoaa

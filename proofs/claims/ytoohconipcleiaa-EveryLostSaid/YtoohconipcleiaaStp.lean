/- Steps of a region that draws, each with a world of its own name: a variable laid, a slice literal of one cell laid. No program. -/
import Derived.Test.YtoohconipcleiaaMD
import Derived.Great.BuildSlice
import Derived.Laws.Tables
namespace Go.Proofs.Ytoohconipcleiaa
open Go.RowKit

section
variable {P : Program} (w : World)
theorem alloc_step {ops : Array Oper} {o : Oper} {a : Act} {K : Act → World → Prop} {Q : Exit → Act → World → Prop} {E : Prop} (hgd : o.guard = none) (ty : TypeId) (ho : o.op = .alloc ty)
    {i : TypeInfo} {z : Value} (hi : P.info? ty = some i) (hz : i.zero = some z)
    (h : ∀ w', w' = w.alloc (.cells z.cells ty) → K (a.put o.dst (.pointer (some ⟨w.heap.size, 0, none⟩))) w') :
    if Region.wanted o (yielded ops a.tmps) = true then Oper.wp P o a w K Q else E := by
  have hw : Region.wanted o (yielded ops a.tmps) = true := by simp [Region.wanted, hgd]
  rw [if_pos hw]
  have hrun : (execOp a.eval o).run P w = .ok (.value (.pointer (some ⟨w.heap.size, 0, none⟩))) (w.alloc (.cells z.cells ty)) := by
    unfold execOp
    simp [ho, Instr.alloc, zeroValue, typeInfo, hi, hz, newVar, go_sem]
  unfold Oper.wp
  rw [hrun, Oper.upon_value]
  exact h _ rfl
theorem build_step {ops : Array Oper} {o : Oper} {a : Act} {K : Act → World → Prop} {Q : Exit → Act → World → Prop} {E : Prop} (hgd : o.guard = none) (t e : TypeId) (x : Operand) (ho : o.op = .buildSlice t 1 #[(0, x)])
    {ie : TypeInfo} (hu : P.underlying t = some (.slice e)) (hie : P.info? e = some ie) (hz : ie.zero = some (.int .i64 0)) (hs : ie.size = 1) {n : Int} (hx : a.eval x = .int .i64 n)
    (h : ∀ w', w' = w.alloc (.cells #[.int .i64 n] e) → K (a.put o.dst (.slice (some ⟨w.heap.size, 0, none⟩) 1 1)) w') :
    if Region.wanted o (yielded ops a.tmps) = true then Oper.wp P o a w K Q else E := by
  have hw : Region.wanted o (yielded ops a.tmps) = true := by simp [Region.wanted, hgd]
  rw [if_pos hw]
  refine wp_buildSlice t e 1 _ ho #[.int .i64 n] ie (.int .i64 0) hu hie hz (by rw [hs]; decide) (by rw [hs]; decide) ?_ (h _ rfl)
  rw [hs]
  rw [show 1 * 1 = 1 from rfl, show Array.range 1 = #[0] from by decide]
  simp [hx, Instr.fill, Value.cells]
theorem store_row_step {ops : Array Oper} {o : Oper} {a : Act} {K : Act → World → Prop} {Q : Exit → Act → World → Prop} {E : Prop} (hgd : o.guard = none) (ty : TypeId) (x y : Operand) (ho : o.op = .store ty x y)
    {g : Nat} {cells : Array Value} (hx : a.eval x = .pointer (some ⟨g, 0, none⟩)) (hy : a.eval y = .agg cells)
    {t : TypeId} {old : Array Value} (hg : Has w g old t) (hi : (P.info? ty).map (·.size) = some cells.size) (hold : old.size = cells.size) (h1 : cells.all (·.oneCell') = true)
    (h : ∀ w', w' = w.setRow g cells → K (a.put o.dst undef) w') :
    if Region.wanted o (yielded ops a.tmps) = true then Oper.wp P o a w K Q else E := by
  have hw : Region.wanted o (yielded ops a.tmps) = true := by simp [Region.wanted, hgd]
  rw [if_pos hw]
  exact wp_store_row ty x y ho g cells hx hy t old hg.out hi hold h1 (h _ rfl)
/-- As app_step, with a fact of the world ahead handed on. -/
theorem app_stepF (F : World → Prop) (hF : F w) {ops : Array Oper} {o : Oper} {a : Act} {K : Act → World → Prop} {Q : Exit → Act → World → Prop} {E : Prop} (hgd : o.guard = none) (s x : Operand) (t : TypeId) (ho : o.op = .call { callee := .builtin .append, args := #[s, x], argTypes := #[t, t] })
    {base : Nat} {e : TypeId} {i : TypeInfo} {z : Value} {size bytes : Nat} (ht : P.underlying t = some (.slice e)) (hi : P.info? e = some i) (hz : i.zero = some z)
    (hsize : i.size = size) (hby : i.bytes = bytes) (hzs : z.cells.size = size) (hsz : 0 < size)
    {v : Value} {n : Nat} {xs : List Value} (hv : a.eval s = v) (hown : w.ownsRow base e size v n xs) {A : Option Addr} {m c : Nat} {news : List Value} (hx : a.eval x = .slice A m c) (hs : Src w size A m news) (h1 : ∀ u ∈ news, u.oneCell' = true)
    (h63 : n + m ≤ maxLen) (hbytes : (n + m) * bytes ≤ 140737488355328) (hbase : base ≤ w.heap.size)
    (h : ∀ v' w', F w → Appended w w' base e size v v' (n + m) (xs ++ news) → K (a.put o.dst v') w') :
    if Region.wanted o (yielded ops a.tmps) = true then Oper.wp P o a w K Q else E :=
  app_step w hgd s x t ho ht hi hz hsize hby hzs hsz hv hown hx hs h1 h63 hbytes hbase fun v' w' hA => h v' w' hF hA
theorem of_alloc {w w' : World} {o : Obj} (h : w' = w.alloc o) : Below w.heap.size w w' := by rw [h]; exact (Below.refl _ _).alloc (Nat.le_refl _) _
theorem has_of_alloc {w w' : World} {cs : Array Value} {t : TypeId} (h : w' = w.alloc (.cells cs t)) : Has w' w.heap.size cs t := by rw [h]; exact Has.new w cs t
/-- A block of another type is no row's own. -/
theorem Has.not_own {w : World} {b : Nat} {cs : Array Value} {t : TypeId} (h : Has w b cs t) {base e size n : Nat} {v : Value} {xs : List Value} (ho : w.ownsRow base e size v n xs) (hte : t ≠ e) : some b ≠ v.ownBlock := by
  intro hb
  rcases ho.2 with ⟨rfl, _⟩ | ⟨g, cap, cur, rfl, _, hh, _⟩
  · cases hb
  · simp only [Value.ownBlock, Option.some.injEq] at hb
    subst hb
    rw [h.out] at hh
    injection hh with hh
    injection hh with h1 h2
    exact hte h2
end
end Go.Proofs.Ytoohconipcleiaa

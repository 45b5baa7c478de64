/- Contract of board.Tell. -/
import Derived.Test.YtoohconipcleiaaBdA
import Derived.Test.YtoohconipcleiaaMX
import Derived.Test.YtoohconipcleiaaMT
import Derived.ArgAppend
namespace Go.Proofs.Ytoohconipcleiaa
open Go.RowKit
open Go.RwLone

theorem EvS.other {w : World} {a : Option Addr} {l : List Ev} {b i : Nat} {v : Value} (hS : EvS w a l) (hn : ∀ y, a = some y → y.block ≠ b) : EvS (w.setCell ⟨b, i, none⟩ v) a l := by
  refine ⟨hS.big, ?_⟩
  rcases hS.ok with h0 | ⟨g, o, ha, hc⟩
  · exact .inl h0
  · refine .inr ⟨g, o, ha, fun i hi => ?_⟩
    have hg := hn _ ha
    obtain ⟨d0, d1, d2⟩ := hc i hi
    exact ⟨(World.cell?_setCell_other _ _ _ _ (by intro e; exact hg (congrArg Addr.block e).symm)).trans d0, (World.cell?_setCell_other _ _ _ _ (by intro e; exact hg (congrArg Addr.block e).symm)).trans d1, (World.cell?_setCell_other _ _ _ _ (by intro e; exact hg (congrArg Addr.block e).symm)).trans d2⟩
/-- One event more behind a slice that is full. -/
theorem bd_app {w : World} {a : Option Addr} {l : List Ev} {g : Nat} {x : Ev} (hS : EvS w a l) (hG : Has w g (evC x) 36) (h24 : (l.length + 1) * 24 ≤ 140737488351232) :
    ∃ v' w', (Builtin.append_ #[30, 30] 30 #[.slice a l.length l.length, .slice (some ⟨g, 0, none⟩) 1 1]).run Try.prog w = .ok v' w' ∧ w'.ownsRow w.heap.size 36 3 v' (l ++ [x]).length (evL (l ++ [x])) ∧ w.grownBy w' none := by
  obtain ⟨i0, hi, hz0, hz1, hz2⟩ := info_parts infoE
  have hc : ∀ j u, (evL [x])[j]? = some u → w.cell? ((⟨g, 0, none⟩ : Addr).add j) = some u := fun j u hu => hG.cell_add (by simpa [evL] using hu)
  have hap : evL (l ++ [x]) = evL l ++ evL [x] := evL_append _ _
  rw [hap, List.length_append]
  have h1c := evL_one [x]
  cases a with
  | none =>
    have hl : l = [] := by
      rcases hS.ok with h0 | ⟨b, o, ha, _⟩
      · exact h0
      · cases ha
    subst hl
    obtain ⟨v', w', hrun, r1, r2, _⟩ := run_append_own (P := Try.prog) w w.heap.size 30 30 36 i0 _ 3 24 Try.underlying30 hi hz0 hz1 hz2 rfl (by decide) (.slice none 0 0) 0 [] (World.ownsRow_nil w _ _ 3) ⟨g, 0, none⟩ 1 1 (evL [x]) rfl hc h1c (by unfold maxLen; omega) (by omega) (Nat.le_refl _)
    exact ⟨v', w', hrun, r1, r2⟩
  | some y =>
    refine run_append_arg_grows (P := Try.prog) w 30 30 36 i0 _ 3 24 Try.underlying30 hi hz0 hz1 hz2 rfl (by decide) y l.length l.length (evL l) (evL_length l) ?_ ⟨g, 0, none⟩ 1 1 (evL [x]) rfl hc (by omega) (by unfold maxLen; omega) (by omega)
    intro j u hu
    rcases hS.src.2 with h0 | ⟨b, hb, hcell⟩
    · rw [h0.1] at hu; simp at hu
    · cases hb
      exact hcell j u hu
theorem bd_step {P : Program} {o : Oper} {A : Act} {w w' : World} {K : Act → World → Prop} {Q : Exit → Act → World → Prop} {s x : Operand} {t : TypeId} {v1 v2 v' : Value} (ho : o.op = .call { callee := .builtin .append, args := #[s, x], argTypes := #[t, t] })
    (hv : A.eval s = v1) (hx : A.eval x = v2) (hrun : (Builtin.append_ #[t, t] o.type #[v1, v2]).run P w = .ok v' w') (hK : K (A.put o.dst v') w') : o.wp P A w K Q := by
  unfold Oper.wp
  simp [execOp, ho, resolve, invoke, builtin, hv, hx, hrun, Result.andThen]
  exact hK
/-- A slice literal of one event. -/
def BdLit (n : Nat) (x : Ev) (v : Value) (w : World) : Prop := ∃ g, v = .slice (some ⟨g, 0, none⟩) 1 1 ∧ n ≤ g ∧ Has w g (evC x) 36
theorem BdLit.keep {n : Nat} {x : Ev} {v : Value} {w w' : World} (h : BdLit n x v w) (k : Below w.heap.size w w') : BdLit n x v w' := by
  obtain ⟨g, h1, h2, h3⟩ := h
  exact ⟨g, h1, h2, h3.below k h3.lt⟩
/-- The events with one more, in a row of their own. -/
def BdRow (n : Nat) (l : List Ev) (v : Value) (w : World) : Prop := ∃ m, n ≤ m ∧ w.ownsRow m 36 3 v l.length (evL l)
theorem BdRow.keep {n : Nat} {l : List Ev} {v : Value} {w w' : World} (h : BdRow n l v w) (k : Below w.heap.size w w') : BdRow n l v w' := by
  obtain ⟨m, h1, h2⟩ := h
  exact ⟨m, h1, own_below h2 k⟩
/-- What Tell leaves. -/
def TellP (l : List Ev) (x : Ev) (a : Option Addr) (c b : Nat) (w : World) (r : Ending) (w' : World) : Prop :=
  w.grownBy w' (some b) ∧ (((played (l ++ [x])).2.2 = 0 ∧ r = .returned (.tuple #[.int .i64 l.length, .int .i64 0]) ∧ ∃ a' c', Has w' b (bdC 0 (.slice a' (l.length + 1) c')) bdT ∧ EvS w' a' (l ++ [x]) ∧ (∀ y : Addr, a' = some y → y.block ≠ b) ∧ l.length + 1 ≤ c') ∨
    ((played (l ++ [x])).2.2 ≠ 0 ∧ r = .returned (.tuple #[.int .i64 0, .int .i64 (played (l ++ [x])).2.2]) ∧ Has w' b (bdC 0 (.slice a l.length c)) bdT))
theorem grown_below {w0 w w' : World} {b : Nat} (h : w0.grownBy w (some b)) (k : Below w.heap.size w w') : w0.grownBy w' (some b) :=
  h.trans ⟨k.os, k.tape, k.output, k.size, fun j hj _ => k.block j hj⟩
theorem grown_cell {w0 w : World} {b : Nat} (h : w0.grownBy w (some b)) (i : Nat) (v : Value) : w0.grownBy (w.setCell ⟨b, i, none⟩ v) (some b) :=
  h.trans ⟨rfl, rfl, rfl, by simp, fun j _ hj => Below.heap_setCell _ _ _ _ (by intro e; exact hj (by rw [e]))⟩
set_option maxRecDepth 100000 in
set_option maxHeartbeats 4000000 in
theorem bdTell_any (l : List Ev) (x : Ev) (a : Option Addr) (c b : Nat) (w : World) (hB : Has w b (bdC 0 (.slice a l.length c)) bdT) (hS : EvS w a l) (hn : ∀ y, a = some y → y.block ≠ b) (h24 : (l.length + 1) * 24 ≤ 140737488351232) (hlc : l.length ≤ c) :
    Calls Try.prog 39 #[.pointer (some ⟨b, 0, none⟩), evV x] w (TellP l x a c b w) := by
  have hX := Has.new w (evC x) 36
  have hB0 := hB.alloc (.cells (evC x) 36)
  have hS0 := hS.below ((Below.refl _ _).alloc (Nat.le_refl _) (.cells (evC x) 36))
  have hbl := hB.lt
  go_enter_defers Try.func39, Try.ntmps39
  go_upto_region 1 with fail
  have hs0 : (w.alloc (.cells (evC x) 36)).heap.size = w.heap.size + 1 := by simp
  have hbk0 : Below w.heap.size w (w.alloc (.cells (evC x) 36)) := (Below.refl _ _).alloc (Nat.le_refl _) _
  generalize w.alloc (.cells (evC x) 36) = W0 at *
  have c0 : W0.cell? ⟨b, 0, none⟩ = some (.int .i32 0) := hB0.cell rfl
  have c2 : W0.cell? ⟨b, 0 + 2, none⟩ = some (.int .u32 0) := hB0.cell rfl
  have c3 : W0.cell? ⟨b, 0 + 3, none⟩ = some (.int .u32 0) := hB0.cell rfl
  have c4 : W0.cell? ⟨b, 0 + 4, none⟩ = some (.int .i32 0) := hB0.cell rfl
  have z0 : W0.frozen? ⟨b, 0, none⟩ = false := hB0.free 0
  have z4 : W0.frozen? ⟨b, 0 + 4, none⟩ = false := hB0.free 4
  go_wp2_with fail
  refine (wlock_free rwWLib b 0 _ _ _ c0 c2 c3 c4 z0 z4).mono ?_
  rintro e w' ⟨rfl, rfl⟩
  have hB1 : Has ((W0.setCell ⟨b, 0, none⟩ (.int .i32 1)).setCell ⟨b, 0 + 4, none⟩ (.int .i32 (-1073741824))) b #[.int .i32 1, .int .u32 0, .int .u32 0, .int .u32 0, .int .i32 (-1073741824), .int .i32 0, .slice a l.length c] bdT := ((hB0.setCell 0 (.int .i32 1)).setCell 4 (.int .i32 (-1073741824))).to rfl
  have hX1 := (hX.setCell_ne (a := ⟨b, 0, none⟩) (show w.heap.size ≠ b by omega) (.int .i32 1)).setCell_ne (a := ⟨b, 0 + 4, none⟩) (show w.heap.size ≠ b by omega) (.int .i32 (-1073741824))
  have hS1 := (hS0.other hn (i := 0) (v := .int .i32 1)).other hn (i := 0 + 4) (v := .int .i32 (-1073741824))
  clear c0 c2 c3 c4 z0 z4
  have hg1 : w.grownBy ((W0.setCell ⟨b, 0, none⟩ (.int .i32 1)).setCell ⟨b, 0 + 4, none⟩ (.int .i32 (-1073741824))) (some b) := grown_cell (grown_cell (grown_below (World.grownBy.refl w _) hbk0) 0 _) (0 + 4) _
  generalize hW1 : (W0.setCell ⟨b, 0, none⟩ (.int .i32 1)).setCell ⟨b, 0 + 4, none⟩ (.int .i32 (-1073741824)) = W1 at *
  go_upto_region 3 with fail
  have k6 : ∀ w3, Below W1.heap.size W1 w3 → w3.cell? ⟨b, 6, none⟩ = some (.slice a l.length c) := fun w3 h3 => (hB1.below h3 hB1.lt).cell rfl
  have q1 : (l.length : Int) ≤ c := by omega
  have q2 : (0 : Int) ≤ l.length := by omega
  have hXs := hX1.lt
  refine wp_region_fac 18 (fun _ => false) [.one ?bt0, .one ?bt1, .one ?bt2, .one ?bt3, .one ?bt4, .one ?bt5, .one ?bt6, .one ?bt7, .one ?bt8, .one ?bt9, .one ?bt10, .one ?bt11, .one ?bt12, .one ?bt13, .one ?bt14, .one ?bt15, .rel (BdLit W1.heap.size x), .rel (BdRow W1.heap.size (l++[x]))] (by kernel_rfl) (by kernel_rfl) (by kernel_rfl) ?stbt ?gobt
  case stbt =>
    intro F hF
    simp at hF
    rcases hF with rfl | rfl
    · exact fun _ _ _ h1 h2 => h1.keep h2
    · exact fun _ _ _ h1 h2 => h1.keep h2
  case gobt =>
  simp only [List.take_succ_cons, List.take_zero, List.drop_succ_cons, List.drop_zero]
  repeat (with_reducible refine wpFac_one rfl (fun w1 hw1 hd => ?_) (fun a1 ha1 => ?_); (· have ek6 := k6 w1 hw1; go_simp; first | exact rfl | (refine ⟨atD_some ?_, Below.refl _ _⟩; simp only [List.getElem?_toArray, List.getElem?_cons_succ, List.getElem?_cons_zero]; exact rfl)); simp [Act.put] at ha1; subst ha1)
  with_reducible refine wpFac_one rfl (fun w1 hw1 hd => ?_) (fun a1 ha1 => ?_)
  · refine asked rfl ?_
    refine wp_load_row 36 _ rfl w.heap.size rfl 36 (evC x) (0, 0) _ (hX1.below hw1 hX1.lt).out Try.underlying36 rfl rfl ?_
    refine ⟨rfl, atD_some ?_, Below.refl _ _⟩
    simp [Act.put]
    exact rfl
  simp [Act.put] at ha1; subst ha1
  with_reducible refine wpFac_rel rfl (fun w1 hw1 hd => ?_) (fun p a1 ha1 => ?_)
  · go_simp
    exact ⟨_, atD_some (by simp), ⟨w1.heap.size, rfl, hw1.size, Has.new w1 _ _⟩, (Below.refl _ _).alloc (Nat.le_refl _) _⟩
  simp [Act.put] at ha1; subst ha1
  with_reducible refine wpFac_rel rfl (fun w1 hw1 hd => ?_) (fun v a1 ha1 => ?_)
  · obtain ⟨g, rfl, hg, hG⟩ : BdLit W1.heap.size x p w1 := hd 16 (by kernel_rfl)
    obtain ⟨v', w', hrun, ho, hgr⟩ := bd_app (hS1.below hw1) hG h24
    have hbw : Below w1.heap.size w1 w' := ⟨hgr.os, hgr.tape, hgr.output, hgr.size, fun k hk => hgr.block k hk (by simp)⟩
    refine asked rfl ?_
    refine bd_step rfl rfl rfl hrun ?_
    exact ⟨rfl, v', atD_some (by simp [Act.put]), ⟨w1.heap.size, hw1.size, ho⟩, hbw⟩
  simp [Act.put] at ha1; subst ha1
  refine wpFac_nil ?_
  intro w3 hw3 hG
  obtain ⟨m, hm, ho3⟩ : BdRow W1.heap.size (l ++ [x]) v w3 := hG 17 (by decide) (by kernel_rfl)
  have hLl : (l ++ [x]).length = l.length + 1 := by simp
  have hB3 := hB1.below hw3 hB1.lt
  have hb1 := hB1.lt
  have hw3s := hw3.size
  have hg3 := grown_below hg1 hw3
  obtain ⟨L, hLe⟩ : ∃ L, l ++ [x] = L := ⟨_, rfl⟩
  have HLx := Lib.hid hLe
  rw [hLe] at ho3 hLl
  clear hLe
  obtain ⟨a', c', rfl, hS3, hlow⟩ := evS_own ho3 (by omega)
  have hcap : l.length + 1 ≤ c' := by
    rcases ho3.2 with ⟨_, h0⟩ | ⟨g, cap, cur, e, _, _, hnc, _⟩
    · omega
    · cases e; omega
  have hfar : ∀ y : Addr, a' = some y → y.block ≠ b := fun y e h0 => by
    have := hlow y.block (by rw [e]; rfl)
    omega
  have HL := Lib.hid hLl
  clear hG k6 hW1 hs0 hLl hX1 hX hB0 hS0 hS1 hw3 ho3 hB1 q1 q2
  go_wp2_with fail
  refine (check_any L a' c' _ hS3).mono ?_
  rintro r w4 ⟨rfl, hk4⟩
  have hB4 := hB3.below hk4 hB3.lt
  have hg4 := grown_below hg3 hk4
  have hS4 := hS3.below hk4
  by_cases he : (played L).2.2 = 0
  · have HE := Lib.hid he
    rw [he]
    have hLl := HL.out
    rw [hLl]
    have c6 : w4.cell? ⟨b, 6, none⟩ = some (.slice a l.length c) := hB4.cell rfl
    have f6 : w4.frozen? ⟨b, 6, none⟩ = false := hB4.free 6
    clear he hLl
    generalize (played L).2.1 = M at *
    go_wp2
    have hB5 : Has (w4.setCell ⟨b, 6, none⟩ (.slice a' (l.length + 1) c')) b #[.int .i32 1, .int .u32 0, .int .u32 0, .int .u32 0, .int .i32 (-1073741824), .int .i32 0, .slice a' (l.length + 1) c'] bdT := (hB4.setCell 6 (.slice a' (l.length + 1) c')).to rfl
    have hg5 := grown_cell hg4 6 (.slice a' (l.length + 1) c')
    have hS5 := hS4.other hfar (i := 6) (v := .slice a' (l.length + 1) c')
    clear c6 f6 hB4 hg4 hS4
    generalize w4.setCell ⟨b, 6, none⟩ (.slice a' (l.length + 1) c') = w5 at *
    have d0 : w5.cell? ⟨b, 0, none⟩ = some (.int .i32 1) := hB5.cell rfl
    have d2 : w5.cell? ⟨b, 0 + 2, none⟩ = some (.int .u32 0) := hB5.cell rfl
    have d3 : w5.cell? ⟨b, 0 + 3, none⟩ = some (.int .u32 0) := hB5.cell rfl
    have d4 : w5.cell? ⟨b, 0 + 4, none⟩ = some (.int .i32 (-1073741824)) := hB5.cell rfl
    have y0 : w5.frozen? ⟨b, 0, none⟩ = false := hB5.free 0
    have y4 : w5.frozen? ⟨b, 0 + 4, none⟩ = false := hB5.free 4
    have hB6 : Has ((w5.setCell ⟨b, 0 + 4, none⟩ (.int .i32 0)).setCell ⟨b, 0, none⟩ (.int .i32 0)) b (bdC 0 (.slice a' (l.length + 1) c')) bdT := ((hB5.setCell 4 (.int .i32 0)).setCell 0 (.int .i32 0)).to rfl
    have hg6 := grown_cell (grown_cell hg5 (0 + 4) (.int .i32 0)) 0 (.int .i32 0)
    have hS6 := (hS5.other hfar (i := 0 + 4) (v := .int .i32 0)).other hfar (i := 0) (v := .int .i32 0)
    refine leaves_cons (f := 71) (args := #[.pointer (some ⟨b, 0, none⟩)]) (by simp) (by simp [go_sem]) ?_
    refine (wunlock_deferred rwWLib b 0 _ _ .returning _ d0 d2 d3 d4 y0 y4).mono ?_
    rintro e u' w'' ⟨rfl, rfl, rfl⟩
    exact ⟨_, results_tmp2 rfl _ _ _, hg6, .inl ⟨by rw [HLx.out]; exact HE.out, rfl, a', c', hB6, by rw [HLx.out]; exact hS6, hfar, hcap⟩⟩
  · have e1 : ((played L).2.2 != 0) = true := bne_iff_ne.2 he
    have HE := Lib.hid he
    obtain ⟨E, hE⟩ : ∃ E, (played L).2.2 = E := ⟨_, rfl⟩
    have HEE := Lib.hid hE
    rw [hE] at e1 ⊢
    clear he hE
    generalize (played L).2.1 = M at *
    have d0 : w4.cell? ⟨b, 0, none⟩ = some (.int .i32 1) := hB4.cell rfl
    have d2 : w4.cell? ⟨b, 0 + 2, none⟩ = some (.int .u32 0) := hB4.cell rfl
    have d3 : w4.cell? ⟨b, 0 + 3, none⟩ = some (.int .u32 0) := hB4.cell rfl
    have d4 : w4.cell? ⟨b, 0 + 4, none⟩ = some (.int .i32 (-1073741824)) := hB4.cell rfl
    have y0 : w4.frozen? ⟨b, 0, none⟩ = false := hB4.free 0
    have y4 : w4.frozen? ⟨b, 0 + 4, none⟩ = false := hB4.free 4
    have hB6 : Has ((w4.setCell ⟨b, 0 + 4, none⟩ (.int .i32 0)).setCell ⟨b, 0, none⟩ (.int .i32 0)) b (bdC 0 (.slice a l.length c)) bdT := ((hB4.setCell 4 (.int .i32 0)).setCell 0 (.int .i32 0)).to rfl
    have hg6 := grown_cell (grown_cell hg4 (0 + 4) (.int .i32 0)) 0 (.int .i32 0)
    go_wp2
    refine leaves_cons (f := 71) (args := #[.pointer (some ⟨b, 0, none⟩)]) (by simp) (by simp [go_sem]) ?_
    refine (wunlock_deferred rwWLib b 0 _ _ .returning _ d0 d2 d3 d4 y0 y4).mono ?_
    rintro e u' w'' ⟨rfl, rfl, rfl⟩
    exact ⟨_, results_tmp2 rfl _ _ _, hg6, .inr ⟨by rw [HLx.out]; exact HE.out, by rw [HLx.out, HEE.out]; rfl, hB6⟩⟩
end Go.Proofs.Ytoohconipcleiaa

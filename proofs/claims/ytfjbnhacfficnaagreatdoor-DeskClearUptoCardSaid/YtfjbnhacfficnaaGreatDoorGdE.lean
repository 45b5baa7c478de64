/- Contract of guard.run: all guards, all warnings. -/
import Derived.Test.YtfjbnhacfficnaaGreatDoorZL
import Derived.OneCell
import Derived.Sort.CutIn
import Derived.Test.YtfjbnhacfficnaaGreatDoorZB
namespace Go.Proofs.YtfjbnhacfficnaaGreatDoor
open Go.RowKit Go.Shelf
attribute [local go_sem] Oper.semAt_some

abbrev gsT : TypeId := 123
def gI (G : Nat → GV) (i : Nat) : Int := if i % 3 = 0 then (G (i / 3)).st else if i % 3 = 1 then (G (i / 3)).th else ((G (i / 3)).lk : Int)
abbrev gsC (G : Nat → GV) : Array Value := rowI 24 (gI G)
theorem gI_0 (G : Nat → GV) (x : Nat) : gI G (x * 3) = (G x).st := by unfold gI; rw [if_pos (by omega)]; congr 2; omega
theorem gI_1 (G : Nat → GV) (x : Nat) : gI G (x * 3 + 1) = (G x).th := by unfold gI; rw [if_neg (by omega), if_pos (by omega)]; congr 2; omega
theorem gI_2 (G : Nat → GV) (x : Nat) : gI G (x * 3 + 2) = ((G x).lk : Int) := by unfold gI; rw [if_neg (by omega), if_neg (by omega)]; congr 3; omega
theorem gsC_set (G : Nat → GV) (x : Nat) (g : GV) : (((gsC G).setIfInBounds (x * 3) (.int .i64 g.st)).setIfInBounds (x * 3 + 1) (.int .i64 g.th)).setIfInBounds (x * 3 + 2) (.int .i64 ((g.lk : Nat) : Int)) = gsC (upG G x g) := by
  rw [rowI_set, rowI_set, rowI_set]
  refine rowI_congr fun i _ => ?_
  unfold gI upG
  by_cases e2 : i = x * 3 + 2
  · subst e2
    rw [if_pos rfl, if_neg (by omega), if_neg (by omega), if_pos (by omega)]
  · rw [if_neg e2]
    by_cases e1 : i = x * 3 + 1
    · subst e1
      rw [if_pos rfl, if_neg (by omega), if_pos (by omega), if_pos (by omega)]
    · rw [if_neg e1]
      by_cases e0 : i = x * 3
      · subst e0
        rw [if_pos rfl, if_pos (by omega), if_pos (by omega)]
      · rw [if_neg e0, if_neg (show ¬ i / 3 = x by omega)]
        repeat' split
        all_goals rfl
theorem gsC_lk (G : Nat → GV) (x : Nat) (L : Nat) : (gsC G).setIfInBounds (x * 3 + 2) (.int .i64 ((L : Nat) : Int)) = gsC (upG G x ⟨(G x).st, (G x).th, L⟩) := by
  rw [← gsC_set, rowI_set, rowI_set, rowI_set, rowI_set]
  refine rowI_congr fun i _ => ?_
  by_cases e2 : i = x * 3 + 2
  · rw [if_pos e2, if_pos e2]
  · rw [if_neg e2, if_neg e2]
    by_cases e1 : i = x * 3 + 1
    · rw [if_pos e1, e1, gI_1]
    · rw [if_neg e1]
      by_cases e0 : i = x * 3
      · rw [if_pos e0, e0, gI_0]
      · rw [if_neg e0]
def gZero : GV := ⟨0, 0, 0⟩
theorem infoG : (Tryz.prog.info? 78).map (fun i => (i.zero, i.size, i.bytes)) = some (some (evV ⟨0, 0, 0⟩), 3, 24) := by kernel_rfl
/-- What run leaves: the guards in cells, the warnings, the fault. -/
def GdRun (l : List Ev) (w : World) (r : Ending) (w' : World) : Prop :=
  if (played l).2.2 = 0 then ∃ v, r = .returned (.tuple #[.agg (gsC (gdL l l.length).G), v, .int .i64 0]) ∧ w'.ownsRow w.heap.size 78 3 v (gdL l l.length).W.length (evL (gdL l l.length).W) ∧ Below w.heap.size w w'
  else r = .returned (.tuple #[.agg (gsC fun _ => gZero), .slice none 0 0, .int .i64 (played l).2.2]) ∧ Below w.heap.size w w'
theorem accesses_any (a : Option Addr) (n c : Nat) (w : World) :
    Calls Tryz.prog 95 #[.slice a n c] w fun r w' => r = .returned (.func (.func 118) #[] #[.pointer (some ⟨w.heap.size, 0, none⟩)]) ∧ w' = w.alloc (.cells #[.slice a n c] 29) := by
  go_enter Tryz.func95, Tryz.ntmps95
  go_wp2
  go_ret
  exact ⟨rfl, rfl⟩
/-- Between two rounds. -/
structure GdInv (w : World) (H0 : Nat) (l : List Ev) (a : Option Addr) (c : Nat) (i : Nat) (W : World) : Prop where
  box : Has W w.heap.size #[.slice a l.length c] 29
  gs : Has W (w.heap.size + 1) (gsC (gdL l i).G) gsT
  ws : ∃ v, Has W (w.heap.size + 1 + 1) #[v] 73 ∧ W.ownsRow w.heap.size 78 3 v (gdL l i).W.length (evL (gdL l i).W) ∧ ∀ g, v.ownBlock = some g → w.heap.size + 1 + 1 < g ∧ (g < H0 ∨ H0 + 2 < g)
  below : Below w.heap.size w W
theorem GdInv.grown {w : World} {H0 : Nat} {l : List Ev} {a : Option Addr} {c i : Nat} {W W' : World} {row : Option Nat} (h : GdInv w H0 l a c i W) (h2 : w.heap.size + 1 + 1 < H0) (hg : W.grownBy W' row) (hr : ∀ r, row = some r → H0 ≤ r ∧ r ≤ H0 + 2) : GdInv w H0 l a c i W' := by
  have hne : ∀ b, b < H0 → some b ≠ row := fun b hb e => by have := hr _ e.symm; omega
  obtain ⟨v, hv, ho, hx⟩ := h.ws
  refine ⟨h.box.grown hg (hne _ (by omega)), h.gs.grown hg (hne _ (by omega)), ⟨v, hv.grown hg (hne _ (by omega)), ho.kept hg ?_, hx⟩, h.below.grown hg h.below.size (fun k e => by have := hr k e; omega)⟩
  cases hv2 : v.ownBlock with
  | none => exact .inl rfl
  | some g =>
    right
    intro e
    have h1 := hr g e.symm
    have h3 := (hx g hv2).2
    omega
theorem wpQuiet_load_row {P : Program} {ops : Array Oper} {C : World → Prop} {Q : Act → Prop} {a : Act} {o : Oper} {rest : List Oper} (hgd : o.guard = none) (ty : TypeId) (x : Operand) (ho : o.op = .load ty x)
    (g : Nat) (hx : a.eval x = .pointer (some ⟨g, 0, none⟩)) (t : TypeId) (cs : Array Value) (fr : Nat × Nat) (d : TypeDesc) (hg : ∀ w', C w' → w'.heap[g]? = some (.cells cs t fr))
    (hu : P.underlying ty = some d) (hd : (match d with | .struct _ | .array _ _ => true | _ => false) = true) (hi : (P.info? ty).map (·.size) = some cs.size)
    (h : wpQuiet P ops C Q rest (a.put o.dst (.agg cs))) : wpQuiet P ops C Q (o :: rest) a := by
  refine wpQuiet_step fun K hK => ?_
  simp only [Region.wanted, hgd, if_true]
  refine ⟨.agg cs, fun w' hw' => ?_, hK _ h⟩
  unfold Oper.quietAt execOp
  simp only [ho, hx, Instr.loadAt, Instr.sureAddr, Sem.run_bind, Sem.run_pure, Result.andThen_ok, run_loadVar_row w' g t ty cs fr d (hg w' hw') hu hd hi]
  exact ⟨rfl, rfl⟩
theorem wp_then {P : Program} {c : Code} {K : Act → World → Prop} {Q : Exit → Act → World → Prop} {a : Act} {w : World} (h : c.wp P (Exit.then K (fun _ _ _ => False)) a w) : c.wp P (Exit.then K Q) a w :=
  wp_mono h fun e a w h => by
    cases e with
    | normal => exact h
    | ret => exact h.elim
    | exit id => exact h.elim
    | goto t => exact h.elim
    | panic ch => exact h.elim
    | outgrown => exact h.elim
theorem app_listIn {F : Fence} {n₁ : Nat} {P : Program} (w : World) {ops : Array Oper} {rest : List Oper} {o : Oper} {a : Act} {Q : Exit → Act → World → Prop} (hgd : o.guard = none) (s x : Operand) (t : TypeId) (ho : o.op = .call { callee := .builtin .append, args := #[s, x], argTypes := #[t, t] })
    {base : Nat} {e : TypeId} {i : TypeInfo} {z : Value} {size bytes : Nat} (ht : P.underlying t = some (.slice e)) (hi : P.info? e = some i) (hz : i.zero = some z)
    (hsize : i.size = size) (hby : i.bytes = bytes) (hzs : z.cells.size = size) (hsz : 0 < size)
    {v : Value} {n : Nat} {xs : List Value} (hv : a.eval s = v) (hown : w.ownsRow base e size v n xs) {A : Option Addr} {m c : Nat} {news : List Value} (hx : a.eval x = .slice A m c) (hs : Src w size A m news) (h1 : ∀ u ∈ news, u.oneCell' = true)
    (h63 : n + m ≤ maxLen) (hbytes : (n + m) * bytes ≤ 140737488355328) (hbase : base ≤ w.heap.size)
    (h : ∀ v' w', Appended w w' base e size v v' (n + m) (xs ++ news) → wpListIn F n₁ P ops Q rest (a.put o.dst v') w') : wpListIn F n₁ P ops Q (o :: rest) a w := by
  refine wpListIn_plain hgd fun K hK' => ?_
  obtain ⟨v', w', hrun, hA⟩ := app_run (P := P) (ty := o.type) w ht hi hz hsize hby hzs hsz hown (c := c) hs h1 h63 hbytes hbase
  unfold Oper.wpIn
  refine ⟨?_, ?_⟩
  · simp [Oper.about, ho, resolve, Target.leads, Sem.run_pure]
  · rw [Oper.semAt_plain F _ _ (by rw [ho]; intro c hc'; cases hc')]
    simp [execOp, ho, resolve, invoke, builtin, hv, hx, hrun, Result.andThen]
    exact hK' _ _ (h v' w' hA)
set_option maxRecDepth 100000 in
set_option maxHeartbeats 8000000 in
theorem gdrun_ok (l : List Ev) (a : Option Addr) (c : Nat) (w : World) (h : EvS w a l) (hp : (played l).2.2 = 0) :
    Calls Tryz.prog 64 #[.slice a l.length c] w (GdRun l w) := by
  have hbig := h.big
  obtain ⟨f0, hi, hz0, hz1, hz2⟩ := info_parts infoG
  have HP := Lib.hid hp
  clear hp
  refine (callsIn_wide (n := 9)).1 ?_
  refine callsIn_of_wp_marks Tryz.func64 rfl trivial ?_ rfl
  simp only [Tryz.ntmps64, List.size_toArray, List.length_cons, List.length_nil, Nat.reduceAdd, Nat.reduceSub, Array.replicate_succ, Array.replicate_zero, List.push_toArray, List.append_toArray, List.nil_append, List.cons_append]
  gi_wp2_with fail
  generalize hW : World.alloc (World.alloc (World.alloc w _) _) _ = W
  have hb : Below w.heap.size w W := by rw [← hW]; exact (((Below.refl _ _).alloc (Nat.le_refl _) _).alloc (by simp) _).alloc (by simp; omega) _
  have hL : Has W w.heap.size #[.slice a l.length c] 29 := by rw [← hW]; exact ((Has.new w _ _).alloc _).alloc _
  have hG : Has W (w.heap.size + 1) (gsC fun _ => gZero) gsT := by rw [← hW]; exact (((Has.new (w.alloc _) _ _).at (by simp)).alloc _).to rfl
  have hV : Has W (w.heap.size + 1 + 1) #[.slice none 0 0] 73 := by rw [← hW]; exact (Has.new ((w.alloc _).alloc _) _ _).at (by simp)
  clear hW
  refine ⟨trivial, (callsIn_wide.2 (check_any l a c W (h.below hb))).mono ?_⟩
  rintro r w1 ⟨rfl, hk⟩
  rw [HP.out]
  have hb1 := hb.trans (hk.mono hb.size)
  have hL1 := hL.below hk hL.lt
  have hG1 := hG.below hk hG.lt
  have hV1 := hV.below hk hV.lt
  clear hb hL hG hV hk
  gi_wp2
  gi_loopw [20] (fun p wr => ∃ k : Nat, k ≤ 8 ∧ p = .int .i64 k ∧ Has wr w.heap.size #[.slice a l.length c] 29 ∧ Has wr (w.heap.size + 1) (gsC fun x => if x < k then ⟨0, 0, 31⟩ else gZero) gsT ∧ Has wr (w.heap.size + 1 + 1) #[.slice none 0 0] 73 ∧ Below w.heap.size w wr) (fun p _ => 8 - (intOf p).toNat)
  case atStart => exact ⟨0, Nat.zero_le _, rfl, hL1, hG1, hV1, hb1⟩
  case round =>
    clear hb1 hL1 hG1 hV1
    obtain ⟨k, hk, rfl, hL, hG, hV, hb⟩ := hrel
    by_cases hlt : k < 8
    · have k0 : (0 : Int) ≤ k := by omega
      have k1 : (k : Int) < 8 := by omega
      have cS := hG.addI (show k * 3 + 2 < 24 by omega)
      have fS := hG.free (k * 3 + 2)
      have hG2 := (hG.setCell (k * 3 + 2) (.int .i64 ((31 : Nat) : Int))).to (gsC_lk _ k 31)
      have hL2 := hL.setCell_ne (a := ⟨w.heap.size + 1, k * 3 + 2, none⟩) (by simp) (.int .i64 ((31 : Nat) : Int))
      have hV2 := hV.setCell_ne (a := ⟨w.heap.size + 1, k * 3 + 2, none⟩) (by simp) (.int .i64 ((31 : Nat) : Int))
      have hb2 := hb.setCell (p := ⟨w.heap.size + 1, k * 3 + 2, none⟩) (by simp) (.int .i64 ((31 : Nat) : Int))
      clear hG hL hV hb
      gi_wp2
      go_roundw
      case rel => exact ⟨k + 1, by omega, by go_num, hL2, hG2.to (rowI_congr fun i _ => by
        have e : upG (fun x => if x < k then (⟨0, 0, 31⟩ : GV) else gZero) k ⟨(if k < k then (⟨0, 0, 31⟩ : GV) else gZero).st, (if k < k then (⟨0, 0, 31⟩ : GV) else gZero).th, 31⟩ = fun x => if x < k + 1 then ⟨0, 0, 31⟩ else gZero := by
          funext x
          unfold upG
          by_cases e : x = k
          · subst e; simp [gZero]
          · rw [if_neg e]
            dsimp only
            by_cases e2 : x < k
            · rw [if_pos e2, if_pos (by omega)]
            · rw [if_neg e2, if_neg (by omega)]
        rw [e]), hV2, hb2⟩
      case measure => (simp [intOf]; try omega)
    · obtain rfl : k = 8 := by omega
      have hG0 : Has wr (w.heap.size + 1) (gsC (gdL l 0).G) gsT := hG.to (rowI_congr fun i hi => by
        show gI _ i = gI (fun _ => ⟨0, 0, 31⟩) i
        unfold gI
        have : i / 3 < 8 := by omega
        simp only [this, if_true])
      clear hG
      have hLc : wr.cell? ⟨w.heap.size, 0, none⟩ = some (.slice a l.length c) := hL.cell rfl
      gi_wp2_with fail
      refine ⟨trivial, (callsIn_wide.2 (accesses_any a l.length c wr)).mono ?_⟩
      rintro r w5 ⟨rfl, hw5⟩
      have hl5 : w5.cell? ⟨wr.heap.size, 0, none⟩ = some (.slice a l.length c) := by rw [hw5]; exact (Has.new wr _ _).cell rfl
      have hL5 : Has w5 w.heap.size #[.slice a l.length c] 29 := by rw [hw5]; exact hL.alloc _
      have hG5 : Has w5 (w.heap.size + 1) (gsC (gdL l 0).G) gsT := by rw [hw5]; exact hG0.alloc _
      have hV5 : Has w5 (w.heap.size + 1 + 1) #[.slice none 0 0] 73 := by rw [hw5]; exact hV.alloc _
      have hb5 : Below w.heap.size w w5 := by rw [hw5]; exact hb.alloc hb.size _
      have hs5 : w5.heap.size = wr.heap.size + 1 := by rw [hw5]; simp
      have hlt5 := hV.lt
      clear hw5 hL hV hb hG0 hLc
      gi_wp2
      have hI0 : GdInv w w5.heap.size l a c 0 w5 := ⟨hL5, hG5, ⟨_, hV5, World.ownsRow_nil w5 w.heap.size _ _, fun g e => by simp [Value.ownBlock] at e⟩, hb5⟩
      have h05 : w.heap.size + 1 + 1 < w5.heap.size := by omega
      clear hL5 hG5 hV5 hb5 hs5 hlt5
      apply wp_range_acc rfl rfl hl5 h hI0.below HP.out (GdInv w w5.heap.size l a c) (fun i W W' row hi hg hr => hi.grown h05 hg hr) ?hn hI0
      case hn =>
        intro i W hil hacc hi
        have e1 : gdL l (i + 1) = ⟨hStep (gdL l i).H (evAt l i), (gdL l i).G, (gdL l i).W⟩ := by show gStep _ _ _ = _; unfold gStep; rw [if_neg (by rw [hacc]; decide)]
        exact ⟨hi.box, by rw [e1]; exact hi.gs, by rw [e1]; exact hi.ws, hi.below⟩
      case hassign =>
        intro l i W K hK
        gi_wp2
        exact hK
      case hbody =>
        intro lp i W hil hacc hv hlt
        obtain ⟨g, q, rfl, e0, e1, e2⟩ := (h.below hv.below).at hil
        have hev := evAt_lt hil
        have hE := isEv_iff.2 (ev_at HP.out hil)
        have hok := gdL_ok HP.out (Nat.le_of_lt hil)
        have hLk := lkAt_lt HP.out hil
        have hst : gdL l (i + 1) = ⟨hStep (gdL l i).H (evAt l i), upG (gdL l i).G (evAt l i).o.toNat (gAcc ((gdL l i).G (evAt l i).o.toNat) (evAt l i) (lkAt l i)), if gWarn (gAcc ((gdL l i).G (evAt l i).o.toNat) (evAt l i) (lkAt l i)) then (gdL l i).W ++ [⟨i, (evAt l i).o, 0⟩] else (gdL l i).W⟩ := by
          show gStep _ _ _ = _
          unfold gStep
          rw [if_pos hacc]
          rfl
        rw [← hev] at e0 e1 e2
        have HST := Lib.hid hst
        clear hst hev
        generalize hx : evAt l i = x at *
        obtain ⟨t0, t6, o0, oM⟩ := isEv_iff.1 hE
        have o8 : x.o < 8 := by have := manyOf_le x.k; omega
        obtain ⟨xk, xt, xo⟩ := x
        simp only at t0 t6 o0 o8 e0 e1 e2
        obtain ⟨m, rfl⟩ := Int.eq_ofNat_of_zero_le o0
        have hm : m < 8 := by omega
        rw [show ((⟨xk, xt, (m : Int)⟩ : Ev).o.toNat) = m from Int.toNat_natCast m] at HST
        have hGl := hok.lk m
        have hWl := hok.W
        obtain ⟨v, hV, hO, hX⟩ := hv.ws
        have hG := hv.gs
        have hL := hv.box
        have hb := hv.below
        have i0 : (0 : Int) ≤ i := by omega
        have i1 : (i : Int) < l.length := by omega
        have m8 : (m : Int) < 8 := by omega
        have m0 : (0 : Int) ≤ m := by omega
        have cL : W.cell? ⟨w.heap.size, 0, none⟩ = some (.slice (some ⟨g, q, none⟩) l.length c) := hL.cell rfl
        clear hok hE oM t0 t6 o0 o8 hv hx
        generalize lkAt l i = L at *
        generalize gdL l i = s at *
        obtain ⟨s', hs'⟩ : ∃ s', gdL l (i + 1) = s' := ⟨_, rfl⟩
        rw [hs'] at HST
        have HS' := Lib.hid hs'
        clear hs'
        gi_wp2
        have HACC := Lib.hid fun p : Beyond W => beyond_of (access_any (s.G m) ⟨xk, xt, m⟩ L p.to hGl hLk)
        have b0 : ∀ p : Beyond W, p.to.cell? ⟨w.heap.size + 1, m * 3, none⟩ = some (.int .i64 (s.G m).st) := fun p => p.cell (by rw [hG.addI (show m * 3 < 24 by omega), gI_0])
        have b1 : ∀ p : Beyond W, p.to.cell? ⟨w.heap.size + 1, m * 3 + 1, none⟩ = some (.int .i64 (s.G m).th) := fun p => p.cell (by rw [hG.addI (show m * 3 + 1 < 24 by omega), gI_1])
        have b2 : ∀ p : Beyond W, p.to.cell? ⟨w.heap.size + 1, m * 3 + 2, none⟩ = some (.int .i64 ((s.G m).lk : Int)) := fun p => p.cell (by rw [hG.addI (show m * 3 + 2 < 24 by omega), gI_2])
        have d0 : ∀ p : Beyond W, p.to.cell? ⟨g, q + i * 3, none⟩ = some (.int .i64 xk) := fun p => p.cell e0
        have d1 : ∀ p : Beyond W, p.to.cell? ⟨g, q + i * 3 + 1, none⟩ = some (.int .i64 xt) := fun p => p.cell e1
        have d2 : ∀ p : Beyond W, p.to.cell? ⟨g, q + i * 3 + 2, none⟩ = some (.int .i64 m) := fun p => p.cell e2
        have dL : ∀ p : Beyond W, p.to.cell? ⟨w.heap.size, 0, none⟩ = some (.slice (some ⟨g, q, none⟩) l.length c) := fun p => p.cell cL
        clear e0 e1 e2 cL
        refine wpIn_region_tail 11 (by kernel_rfl) (by kernel_rfl) (by kernel_rfl) ?_
        simp only [List.take_succ_cons, List.take_zero, List.drop_succ_cons, List.drop_zero]
        repeat (with_reducible refine wpQuiet_step (fun K hK => ?_); go_simp; first | (with_reducible refine hK _ ?_) | (refine ⟨_, HACC.out, ?_⟩; with_reducible refine hK _ ?_); clear hK K)
        with_reducible refine wpQuiet_nil ?_
        rintro _ ⟨p9, rfl⟩
        have hb2 := hb.trans (p9.below.mono hb.size)
        have hL2 := hL.below p9.below hL.lt
        have hG2 := hG.below p9.below hG.lt
        have hV2 := hV.below p9.below hV.lt
        have hO2 := own_below hO p9.below
        have hk2 : Below w.heap.size W p9.to := p9.below.mono hb.size
        have hbs := hb.size
        have hU2 : ∀ r, w5.heap.size ≤ r → r ≤ w5.heap.size + 2 → p9.to.heap[r]? = W.heap[r]? := fun r _ h2 => p9.below.block r (by omega)
        clear b0 b1 b2 d0 d1 d2 dL HACC hb hL hG hV hO hGl
        generalize p9.to = W2 at *
        have c0 := hG2.addI (show m * 3 < 24 by omega)
        have c1 := hG2.addI (show m * 3 + 1 < 24 by omega)
        have c2 := hG2.addI (show m * 3 + 2 < 24 by omega)
        have y0 := hG2.free (m * 3)
        have y1 := hG2.free (m * 3 + 1)
        have y2 := hG2.free (m * 3 + 2)
        generalize gAcc (s.G m) ⟨xk, xt, m⟩ L = G' at *
        obtain ⟨gs, gt, gk⟩ := G'
        have hG3 := (((hG2.setCell (m * 3) (.int .i64 gs)).setCell (m * 3 + 1) (.int .i64 gt)).setCell (m * 3 + 2) (.int .i64 ((gk : Nat) : Int))).to (gsC_set s.G m ⟨gs, gt, gk⟩)
        gi_upto_region 14 with fail
        have hne : v.ownBlock ≠ some (w.heap.size + 1) := fun e => by have := (hX _ e).1; omega
        have hL3 := ((hL2.setCell_ne (a := ⟨w.heap.size + 1, m * 3, none⟩) (by simp) (.int .i64 gs)).setCell_ne (a := ⟨w.heap.size + 1, m * 3 + 1, none⟩) (by simp) (.int .i64 gt)).setCell_ne (a := ⟨w.heap.size + 1, m * 3 + 2, none⟩) (by simp) (.int .i64 ((gk : Nat) : Int))
        have hV3 := ((hV2.setCell_ne (a := ⟨w.heap.size + 1, m * 3, none⟩) (by simp) (.int .i64 gs)).setCell_ne (a := ⟨w.heap.size + 1, m * 3 + 1, none⟩) (by simp) (.int .i64 gt)).setCell_ne (a := ⟨w.heap.size + 1, m * 3 + 2, none⟩) (by simp) (.int .i64 ((gk : Nat) : Int))
        have hO3 := Go.ownsRow_setCell_other (Go.ownsRow_setCell_other (Go.ownsRow_setCell_other hO2 (a := ⟨w.heap.size + 1, m * 3, none⟩) hne (.int .i64 gs)) (a := ⟨w.heap.size + 1, m * 3 + 1, none⟩) hne (.int .i64 gt)) (a := ⟨w.heap.size + 1, m * 3 + 2, none⟩) hne (.int .i64 ((gk : Nat) : Int))
        have hb3 := ((hb2.setCell (p := ⟨w.heap.size + 1, m * 3, none⟩) (by simp) (.int .i64 gs)).setCell (p := ⟨w.heap.size + 1, m * 3 + 1, none⟩) (by simp) (.int .i64 gt)).setCell (p := ⟨w.heap.size + 1, m * 3 + 2, none⟩) (by simp) (.int .i64 ((gk : Nat) : Int))
        have hk3 := ((hk2.setCell (p := ⟨w.heap.size + 1, m * 3, none⟩) (by simp) (.int .i64 gs)).setCell (p := ⟨w.heap.size + 1, m * 3 + 1, none⟩) (by simp) (.int .i64 gt)).setCell (p := ⟨w.heap.size + 1, m * 3 + 2, none⟩) (by simp) (.int .i64 ((gk : Nat) : Int))
        have hU3 : ∀ r, w5.heap.size ≤ r → r ≤ w5.heap.size + 2 → (((W2.setCell ⟨w.heap.size + 1, m * 3, none⟩ (.int .i64 gs)).setCell ⟨w.heap.size + 1, m * 3 + 1, none⟩ (.int .i64 gt)).setCell ⟨w.heap.size + 1, m * 3 + 2, none⟩ (.int .i64 ((gk : Nat) : Int))).heap[r]? = W.heap[r]? := fun r h1 h2 => by
          rw [Below.heap_setCell _ _ _ _ (by dsimp only; omega), Below.heap_setCell _ _ _ _ (by dsimp only; omega), Below.heap_setCell _ _ _ _ (by dsimp only; omega)]
          exact hU2 r h1 h2
        clear c0 c1 c2 y0 y1 y2 hL2 hG2 hV2 hO2 hb2 hk2 hU2
        generalize ((W2.setCell ⟨w.heap.size + 1, m * 3, none⟩ (.int .i64 gs)).setCell ⟨w.heap.size + 1, m * 3 + 1, none⟩ (.int .i64 gt)).setCell ⟨w.heap.size + 1, m * 3 + 2, none⟩ (.int .i64 ((gk : Nat) : Int)) = W3 at *
        have c0 := hG3.addI (show m * 3 < 24 by omega)
        have c2 := hG3.addI (show m * 3 + 2 < 24 by omega)
        rw [gI_0, show (upG s.G m ⟨gs, gt, gk⟩ m).st = gs by simp [upG]] at c0
        rw [gI_2, show (upG s.G m ⟨gs, gt, gk⟩ m).lk = gk by simp [upG]] at c2
        have hi0 : W3.cell? ⟨w.heap.size + 1 + 1, 0, none⟩ = some v := hV3.cell rfl
        have hf0 : W3.frozen? ⟨w.heap.size + 1 + 1, 0, none⟩ = false := hV3.free 0
        have h80 := (played_evs HP.out).1
        by_cases q1 : gs = 3
        · subst q1
          by_cases q2 : gk = 0
          · subst q2
            have hst : s'.G = upG s.G m ⟨3, gt, 0⟩ ∧ s'.W = s.W ++ [⟨i, m, 0⟩] := by rw [HST.out]; exact ⟨rfl, by simp [gWarn]⟩
            have HST2 := Lib.hid hst
            clear hst HST
            gi_upto_region 15 with fail
            have hT := Has.new W3 (evC ⟨i, m, 0⟩) 78
            have hb4 := hb3.alloc hb3.size (.cells (evC ⟨i, m, 0⟩) 78)
            have hk4 := hk3.alloc (Nat.le_trans hbs hk3.size) (.cells (evC ⟨i, m, 0⟩) 78)
            have hs3 := hk3.size
            have hs0 := hb3.size
            gi_wp2_with (gi_at_builtin; refine app_listIn _ rfl (.tmp 59) (.tmp 63) 73 rfl Tryz.underlying73 hi hz0 hz1 hz2 rfl (by decide) rfl (hO3.alloc _) rfl (news := evL [⟨i, m, 0⟩]) ⟨rfl, .inr ⟨_, rfl, fun j u hu => hT.cell_add (by simpa [evL] using hu)⟩⟩ (by intro q hq; simp [evL] at hq; rcases hq with rfl | rfl | rfl <;> rfl) ?c3 ?c4 ?c5 ?_)
            case c3 => unfold maxLen; omega
            case c4 => omega
            case c5 => simp; omega
            intro v8 w8 hAp
            have hg8 := hAp.grown
            have hne8 : ∀ b : Nat, (b ≤ w.heap.size + 1 + 1 ∨ w5.heap.size ≤ b ∧ b ≤ w5.heap.size + 2) → some b ≠ v.ownBlock := fun b hb e => by have := hX b e.symm; omega
            have hL8 := (hL3.alloc (.cells (evC ⟨i, m, 0⟩) 78)).grown hg8 (hne8 _ (by omega))
            have hG8 := (hG3.alloc (.cells (evC ⟨i, m, 0⟩) 78)).grown hg8 (hne8 _ (by omega))
            have hV8 := (hV3.alloc (.cells (evC ⟨i, m, 0⟩) 78)).grown hg8 (hne8 _ (by omega))
            have hv8 : ∀ q, v.ownBlock = some q → w.heap.size ≤ q := fun q hq => (hO3.lt q hq).1
            have hb8 := hb4.grown hg8 (by simp; omega) hv8
            have hk8 := hk4.grown hg8 (by simp; omega) hv8
            have hO8 : w8.ownsRow w.heap.size 78 3 v8 (s.W ++ [(⟨i, m, 0⟩ : Ev)]).length (evL (s.W ++ [(⟨i, m, 0⟩ : Ev)])) := by
              have := hAp.own
              rw [evL_append _ [_], List.length_append]
              exact this
            have hX8 : ∀ g, v8.ownBlock = some g → w.heap.size + 1 + 1 < g ∧ (g < w5.heap.size ∨ w5.heap.size + 2 < g) := fun g hg => by
              rcases hAp.lies with e | e
              · exact hX g (e ▸ hg)
              · rw [e] at hg
                cases hg
                have := hV3.lt
                simp
                omega
            have hU8 : ∀ r, w5.heap.size ≤ r → r ≤ w5.heap.size + 2 → w8.heap[r]? = W.heap[r]? := fun r h1 h2 => by
              rw [hg8.block r (by simp; omega) (hne8 r (.inr ⟨h1, h2⟩)), Below.heap_alloc _ _ _ (by omega)]
              exact hU3 r h1 h2
            obtain ⟨A8, c8, e8, _⟩ := evS_own hO8 (by simp; omega)
            rw [List.length_append, List.length_singleton] at e8
            subst e8
            clear hAp hT hb4 hk4 hg8 hv8 hO3 hV3 hL3 hG3 hb3 hk3 hU3 hne8 hne c0 c2 hi0 hf0
            have hf8 : w8.frozen? ⟨w.heap.size + 1 + 1, 0, none⟩ = false := hV8.free 0
            have hc8 : w8.cell? ⟨w.heap.size + 1 + 1, 0, none⟩ = some v := hV8.cell rfl
            have hne9 : (Value.slice A8 (s.W.length + 1) c8).ownBlock ≠ some (w.heap.size + 1 + 1) := fun e => by have := (hX8 (w.heap.size + 1 + 1) e).1; omega
            have hL9 := hL8.setCell_ne (a := ⟨w.heap.size + 1 + 1, 0, none⟩) (by dsimp only; omega) (.slice A8 (s.W.length + 1) c8)
            have hG9 := hG8.setCell_ne (a := ⟨w.heap.size + 1 + 1, 0, none⟩) (by simp) (.slice A8 (s.W.length + 1) c8)
            have hV9 := hV8.setCell 0 (.slice A8 (s.W.length + 1) c8)
            have hO9 := Go.ownsRow_setCell_other hO8 (a := ⟨w.heap.size + 1 + 1, 0, none⟩) hne9 (.slice A8 (s.W.length + 1) c8)
            have hb9 := hb8.setCell (p := ⟨w.heap.size + 1 + 1, 0, none⟩) (by simp; omega) (.slice A8 (s.W.length + 1) c8)
            have hk9 := hk8.setCell (p := ⟨w.heap.size + 1 + 1, 0, none⟩) (by simp; omega) (.slice A8 (s.W.length + 1) c8)
            have hU9 : ∀ r, w5.heap.size ≤ r → r ≤ w5.heap.size + 2 → (w8.setCell ⟨w.heap.size + 1 + 1, 0, none⟩ (.slice A8 (s.W.length + 1) c8)).heap[r]? = W.heap[r]? := fun r h1 h2 => by
              rw [Below.heap_setCell _ _ _ _ (by dsimp only; omega)]
              exact hU8 r h1 h2
            clear hL8 hG8 hV8 hO8 hb8 hk8 hU8 hne9
            have HALL := Lib.hid (And.intro hU9 (And.intro hk9 (And.intro hL9 (And.intro hG9 (And.intro hV9 (And.intro hO9 (And.intro hX8 hb9)))))))
            clear hU9 hk9 hL9 hG9 hV9 hO9 hX8 hb9
            gi_wp2
            obtain ⟨hU9, hk9, hL9, hG9, hV9, hO9, hX8, hb9⟩ := HALL.out
            exact ⟨hU9, hk9, hL9, by rw [HS'.out, HST2.out.1]; exact hG9, ⟨_, hV9.to rfl, by rw [HS'.out, HST2.out.2]; exact hO9, hX8⟩, hb9⟩
          · have q3 : ((gk : Int) == 0) = false := beq_eq_false_iff_ne.2 (by omega)
            have hst : s'.G = upG s.G m ⟨3, gt, gk⟩ ∧ s'.W = s.W := by rw [HST.out]; exact ⟨rfl, by simp [gWarn, q2]⟩
            have HST2 := Lib.hid hst
            clear hst HST
            gi_wp2
            exact ⟨hU3, hk3, hL3, by rw [HS'.out, HST2.out.1]; exact hG3, ⟨v, hV3, by rw [HS'.out, HST2.out.2]; exact hO3, hX⟩, hb3⟩
        · have q3 : (gs == 3) = false := beq_eq_false_iff_ne.2 q1
          have hst : s'.G = upG s.G m ⟨gs, gt, gk⟩ ∧ s'.W = s.W := by rw [HST.out]; exact ⟨rfl, by simp [gWarn, q1]⟩
          have HST2 := Lib.hid hst
          clear hst HST
          gi_wp2
          exact ⟨hU3, hk3, hL3, by rw [HS'.out, HST2.out.1]; exact hG3, ⟨v, hV3, by rw [HS'.out, HST2.out.2]; exact hO3, hX⟩, hb3⟩
      case hdone =>
        intro W hv hK
        obtain ⟨v, hV, hO, hX⟩ := hv.ws
        have hG := hv.gs
        have hb := hv.below
        clear hv
        have h80 := (played_evs HP.out).1
        have hWl := (gdL_ok HP.out (Nat.le_refl _)).W
        obtain ⟨A8, c8, rfl, _⟩ := evS_own hO (by omega)
        have HR := Lib.hid (show GdRun l w = fun r w' => ∃ v, r = .returned (.tuple #[.agg (gsC (gdL l l.length).G), v, .int .i64 0]) ∧ w'.ownsRow w.heap.size 78 3 v (gdL l l.length).W.length (evL (gdL l l.length).W) ∧ Below w.heap.size w w' by
          funext r w'
          unfold GdRun
          rw [if_pos HP.out])
        generalize hC : (gsC (gdL l l.length).G).toList = L at *
        have hLs : L.length = 24 := by rw [← hC]; simp [rowI_size]
        have hsz : (Tryz.prog.info? gsT).map (·.size) = some L.length := by rw [hLs]; kernel_rfl
        have hone : ∀ v ∈ L, v.oneCell' = true := by
          intro v hv
          rw [← hC] at hv
          exact Array.all_eq_true_iff_forall_mem.1 (rowI_one 24 (gI (gdL l l.length).G)) v (by simpa using hv)
        have hsame : W.drew.setCells (w.heap.size + 1) 0 L = W.drew := hG.drew.setSames L 0 fun j v hv => by rw [Nat.zero_add, ← Array.getElem?_toList, hC]; exact hv
        have hrg : W.drew.rangeAt (w.heap.size + 1) 0 L := hC ▸ hG.drew.rangeW
        have hth : W.drew.there (w.heap.size + 1) 0 24 := by have := hG.drew.thereW; rwa [rowI_size] at this
        have hun := Tryz.underlying123
        have hL2 : L.toArray = gsC (gdL l l.length).G := by rw [← hC]
        have HL2 := Lib.hid hL2
        clear hC hL2
        gi_upto_region 16 with fail
        refine wpIn_wide.2 (wp_then ?_)
        refine wp_region_held_drew (S := fun W => W.rangeAt (w.heap.size + 1) 0 L ∧ W.there (w.heap.size + 1) 0 24 ∧ W.cell? ⟨w.heap.size + 1 + 1, 0, none⟩ = some (.slice A8 (gdL l l.length).W.length c8)) (by kernel_rfl) ⟨hrg, hth, hV.drew.cell rfl⟩ (fun hHeld => ?_)
        refine' wpAnyH_take (i := 0) (oi := _) (v := _) rfl (by kernel_rfl) (by kernel_rfl) (by kernel_rfl) (fun _ _ _ h => h) (yieldsIf_load_mid (by rfl) _ _ rfl _ _ rfl L _ ?hS ?hu ?hd ?hi) (by assumption) ?rest
        case hS => exact fun W hW => hW.1
        case hu => exact hun
        case hd => rfl
        case hi => exact hsz
        case rest =>
        simp only [Act.put, List.setIfInBounds_toArray, List.set_cons_zero, List.set_cons_succ, List.getElem_toArray, List.getElem_cons_zero]
        refine wpAnyH_take (i := 1) (oi := _) (v := ?_) rfl (by kernel_rfl) (by kernel_rfl) (by kernel_rfl) (fun _ _ _ h => h) (Or.inl ⟨by rfl, ?_⟩) (by assumption) ?_
        case refine_1 => exact .slice A8 (gdL l l.length).W.length c8
        case refine_2 =>
          intro w hSw
          obtain ⟨_, _, hSc⟩ := hSw
          go_simp
        simp only [Act.put, List.setIfInBounds_toArray, List.set_cons_zero, List.set_cons_succ, List.getElem_toArray, List.getElem_cons_zero, List.getElem_cons_succ]
        refine wpAnyH_ready (rs := [2]) (by kernel_rfl) (by simp) ?_
        refine AllReadyH.cons (o := _) rfl (fun K hK => ?_) ?_
        · rw [if_pos (by rfl)]
          refine wp_store_mid _ _ _ rfl _ _ (List.toArray L) rfl rfl (by have := hth; rw [← hLs, ← List.size_toArray] at this; exact this) (by rw [List.size_toArray]; exact hsz) (all_oneCell_toArray hone) ?_
          simp only [Act.put, List.setIfInBounds_toArray]
          rw [hsame]
          refine hK.out _ _ ⟨hrg, hth, hV.drew.cell rfl⟩ (fun hHeld => ?_)
          clear hK K
          have hc := hV.drew.cell (i := 0) (v := .slice A8 (gdL l l.length).W.length c8) rfl
          have hf := hV.drew.free 0
          have hG2 := (hG.setCell_ne (a := ⟨w.heap.size + 1 + 1, 0, none⟩) (by simp) (.slice A8 (gdL l l.length).W.length c8)).drew
          have hV2 := ((hV.setCell 0 (.slice A8 (gdL l l.length).W.length c8)).to (ds := #[(.slice A8 (gdL l l.length).W.length c8)]) rfl).drew
          have hb2 := (hb.setCell (p := ⟨w.heap.size + 1 + 1, 0, none⟩) (by simp; omega) (.slice A8 (gdL l l.length).W.length c8)).drew
          have hO2 := World.ownsRow.drew (Go.ownsRow_setCell_other hO (a := ⟨w.heap.size + 1 + 1, 0, none⟩) (fun e => by have := (hX (w.heap.size + 1 + 1) e).1; omega) (.slice A8 (gdL l l.length).W.length c8))
          have hK2 : (W.setCell ⟨w.heap.size + 1 + 1, 0, none⟩ (.slice A8 (gdL l l.length).W.length c8)).drew.heap[w5.heap.size]? = some (.deferred (some [])) := (Below.heap_setCell _ _ _ _ (by dsimp only; omega)).trans hK
          have hrg2 : (W.setCell ⟨w.heap.size + 1 + 1, 0, none⟩ (.slice A8 (gdL l l.length).W.length c8)).drew.rangeAt (w.heap.size + 1) 0 L := by rw [← show (gsC (gdL l l.length).G).toList = L by rw [← HL2.out]]; exact hG2.rangeW
          have hth2 : (W.setCell ⟨w.heap.size + 1 + 1, 0, none⟩ (.slice A8 (gdL l l.length).W.length c8)).drew.there (w.heap.size + 1) 0 24 := by have := hG2.thereW; rwa [rowI_size] at this
          refine wpAnyH_ready (rs := [3]) (by kernel_rfl) (by simp) ?_
          refine AllReadyH.cons (o := _) rfl (fun K hK => ?_) ?_
          · rw [if_pos (by rfl)]
            go_simp
            generalize (W.setCell ⟨w.heap.size + 1 + 1, 0, none⟩ (.slice A8 (gdL l l.length).W.length c8)).drew = W9 at *
            refine hK.out _ _ ⟨hrg2, hth2, hV2.cell rfl⟩ (fun hHeld => ?_)
            clear hK K
            refine wpAnyH_ready (rs := [4]) (by kernel_rfl) (by simp) ?_
            refine AllReadyH.cons (o := _) rfl (fun K hK => ?_) ?_
            · rw [if_pos (by rfl)]
              go_simp
              refine hK.out _ _ ⟨hrg2, hth2, hV2.cell rfl⟩ (fun hHeld => ?_)
              clear hK K
              refine wpAnyH_done (by kernel_rfl) ?_ _
              gi_wp2
              refine ⟨by simp, .inl ⟨_, _, rfl, run_takeDeferred hK2, ?_⟩⟩
              have hg10 := grownBy_putObj' W9 w5.heap.size (.deferred none)
              have hG10 := hG2.grown hg10 (fun e => by injection e; omega)
              have hV10 := hV2.grown hg10 (fun e => by injection e; omega)
              have hO10 := World.ownsRow.kept hO2 hg10 (by
                cases e : (Value.slice A8 (gdL l l.length).W.length c8).ownBlock with
                | none => exact .inl rfl
                | some q => exact .inr (fun e2 => by cases e2; have := (hX _ e).2; omega))
              have hb10 := hb2.grown hg10 (by have := hV2.lt; omega) (fun k e => by cases e; omega)
              clear hg10 hG2 hV2 hO2 hb2 hK2 hrg2 hth2
              generalize W9.putObj w5.heap.size (.deferred none) = W10 at *
              have hv1 := run_loadVar_row (P := Tryz.prog) W10 (w.heap.size + 1) gsT gsT (gsC (gdL l l.length).G) (0, 0) _ hG10.out hun rfl (by rw [hsz, hLs]; rfl)
              have hv2 : W10.cell? ⟨w.heap.size + 1 + 1, 0, none⟩ = some (.slice A8 (gdL l l.length).W.length c8) := hV10.cell rfl
              refine ⟨.tuple #[.agg (gsC (gdL l l.length).G), .slice A8 (gdL l l.length).W.length c8, .int .i64 0], ?_, ?_⟩
              · have hv3 : (loadVar 73 ⟨w.heap.size + 1 + 1, 0, none⟩).run Tryz.prog W10 = .ok (.slice A8 (gdL l l.length).W.length c8) W10 := by simp [go_sem, hv2]
                simp [results, Tryz.results64, asAddr, hv1, hv3]
              · rw [HR.out]
                exact ⟨_, rfl, hO10, hb10⟩
            · exact AllReadyH.nil
          · exact AllReadyH.nil
        · exact AllReadyH.nil
end Go.Proofs.YtfjbnhacfficnaaGreatDoor

/- Contract of guard.Common at a good trace, a variable that there is. -/
import Derived.Test.YtfaoehpmkhmdhaaGdF
namespace Go.Proofs.Ytfaoehpmkhmdhaa
open Go.RowKit Go.Shelf
attribute [local go_sem] Oper.semAt_some

/-- Between two rounds. -/
structure GcInv (w : World) (S H0 : Nat) (l : List Ev) (a : Option Addr) (c : Nat) (x : Int) (i : Nat) (W : World) : Prop where
  box : Has W w.heap.size #[.slice a l.length c] 28
  bx : Has W (w.heap.size + 1) #[.int .i64 x] 3
  set : Has W S #[.int .i64 (coL l x i : Int)] 3
  below : Below w.heap.size w W
  big : H0 ≤ W.heap.size
theorem GcInv.grown {w : World} {S H0 : Nat} {l : List Ev} {a : Option Addr} {c i : Nat} {x : Int} {W W' : World} {row : Option Nat} (h : GcInv w S H0 l a c x i W) (h2 : w.heap.size + 1 < H0) (h3 : S < H0) (hg : W.grownBy W' row) (hr : ∀ r, row = some r → H0 ≤ r ∧ r ≤ H0 + 2) : GcInv w S H0 l a c x i W' := by
  have hne : ∀ b, b < H0 → some b ≠ row := fun b hb e => by have := hr _ e.symm; omega
  exact ⟨h.box.grown hg (hne _ (by omega)), h.bx.grown hg (hne _ (by omega)), h.set.grown hg (hne _ (by omega)), h.below.grown hg h.below.size (fun k e => by have := hr k e; omega), Nat.le_trans h.big hg.size⟩
set_option maxRecDepth 100000 in
set_option maxHeartbeats 8000000 in
theorem common_ok (l : List Ev) (a : Option Addr) (c : Nat) (x : Nat) (w : World) (h : EvS w a l) (hp : (played l).2.2 = 0) (hx : x < 8) :
    Calls Try.prog 22 #[.slice a l.length c, .int .i64 (x : Int)] w fun r w' => r = .returned (.tuple #[.int .i64 (coL l x l.length : Int), .int .i64 0]) ∧ Below w.heap.size w w' := by
  have hbig := h.big
  have HP := Lib.hid hp
  clear hp
  have x0 : (0 : Int) ≤ x := by omega
  have x8 : (x : Int) < 8 := by omega
  refine (callsIn_wide (n := 9)).1 ?_
  refine callsIn_of_wp_marks Try.func22 rfl trivial ?_ rfl
  simp only [Try.ntmps22, List.size_toArray, List.length_cons, List.length_nil, Nat.reduceAdd, Nat.reduceSub, Array.replicate_succ, Array.replicate_zero, List.push_toArray, List.append_toArray, List.nil_append, List.cons_append]
  gi_wp2_with fail
  generalize hW : World.alloc (World.alloc w _) _ = W
  have hb : Below w.heap.size w W := by rw [← hW]; exact ((Below.refl _ _).alloc (Nat.le_refl _) _).alloc (by simp) _
  have hL : Has W w.heap.size #[.slice a l.length c] 28 := by rw [← hW]; exact (Has.new w _ _).alloc _
  have hX : Has W (w.heap.size + 1) #[.int .i64 (x : Int)] 3 := by rw [← hW]; exact (Has.new (w.alloc _) _ _).at (by simp)
  clear hW
  refine ⟨trivial, (callsIn_wide.2 (check_any l a c W (h.below hb))).mono ?_⟩
  rintro r w1 ⟨rfl, hk⟩
  rw [HP.out]
  have hb1 := hb.trans (hk.mono hb.size)
  have hL1 := hL.below hk hL.lt
  have hX1 := hX.below hk hX.lt
  have cX : w1.cell? ⟨w.heap.size + 1, 0, none⟩ = some (.int .i64 (x : Int)) := hX1.cell rfl
  clear hb hL hX hk
  have cL : w1.cell? ⟨w.heap.size, 0, none⟩ = some (.slice a l.length c) := hL1.cell rfl
  have hS1 : w.heap.size + 1 < w1.heap.size := hX1.lt
  have hS0 : w.heap.size < w1.heap.size := hL1.lt
  gi_wp2_with fail
  generalize hW : World.alloc w1 _ = wr
  have hb : Below w.heap.size w wr := by rw [← hW]; exact hb1.alloc hb1.size _
  have hL : Has wr w.heap.size #[.slice a l.length c] 28 := by rw [← hW]; exact hL1.alloc _
  have hX : Has wr (w.heap.size + 1) #[.int .i64 (x : Int)] 3 := by rw [← hW]; exact hX1.alloc _
  have hS : Has wr w1.heap.size #[.int .i64 31] 3 := by rw [← hW]; exact Has.new w1 _ _
  clear hW hb1 hL1 hX1 cX cL
  generalize w1.heap.size = S at *
  refine ⟨trivial, (callsIn_wide.2 (accesses_any a l.length c wr)).mono ?_⟩
  rintro r w5 ⟨rfl, hw5⟩
  have hl5 : w5.cell? ⟨wr.heap.size, 0, none⟩ = some (.slice a l.length c) := by rw [hw5]; exact (Has.new wr _ _).cell rfl
  have hL5 : Has w5 w.heap.size #[.slice a l.length c] 28 := by rw [hw5]; exact hL.alloc _
  have hX5 : Has w5 (w.heap.size + 1) #[.int .i64 (x : Int)] 3 := by rw [hw5]; exact hX.alloc _
  have hS5 : Has w5 S #[.int .i64 31] 3 := by rw [hw5]; exact hS.alloc _
  have hb5 : Below w.heap.size w w5 := by rw [hw5]; exact hb.alloc hb.size _
  have h05 : S < w5.heap.size := hS5.lt
  clear hw5 hL hX hS hb
  gi_wp2
  have hI0 : GcInv w S w5.heap.size l a c x 0 w5 := ⟨hL5, hX5, hS5.to rfl, hb5, Nat.le_refl _⟩
  clear hL5 hX5 hS5 hb5
  have h06 : w.heap.size + 1 < w5.heap.size := by omega
  apply wp_range_acc rfl rfl hl5 h hI0.below HP.out (GcInv w S w5.heap.size l a c x) (fun i W W' row hi hg hr => hi.grown h06 h05 hg hr) ?hn hI0
  case hn =>
    intro i W hil hacc hi
    have e1 : coL l x (i + 1) = coL l x i := by show (if _ then _ else _) = _; rw [if_neg (by rw [hacc]; simp)]
    exact ⟨hi.box, hi.bx, by rw [e1]; exact hi.set, hi.below, hi.big⟩
  case hassign =>
    intro l i W K hK
    gi_wp2
    exact hK
  case hbody =>
    intro lp i W hil hacc hv hlt
    obtain ⟨g, q, rfl, e0, e1, e2⟩ := (h.below hv.below).at hil
    have hLk := lkAt_lt HP.out hil
    have hCo := coL_lt l x i
    have hst : coL l x (i + 1) = if (evAt l i).o == x then coL l x i &&& lkAt l i else coL l x i := by
      show (if _ then _ else _) = _
      rw [hacc, Bool.true_and]
    have hev := evAt_lt hil
    rw [← hev] at e0 e1 e2
    clear hev
    have HV := Lib.hid hv
    have hS := hv.set
    have cL := hv.box.cell (i := 0) (v := .slice (some ⟨g, q, none⟩) l.length c) rfl
    have cX := hv.bx.cell (i := 0) (v := .int .i64 (x : Int)) rfl
    have hsz := hv.below.size
    clear hv
    generalize evAt l i = ev at *
    obtain ⟨xk, xt, xo⟩ := ev
    simp only at e0 e1 e2 hst
    have HST := Lib.hid hst
    clear hst
    have i0 : (0 : Int) ≤ i := by omega
    have i1 : (i : Int) < l.length := by omega
    have d2 : ∀ p : Beyond W, p.to.cell? ⟨g, q + i * 3 + 2, none⟩ = some (.int .i64 xo) := fun p => p.cell e2
    have dL : ∀ p : Beyond W, p.to.cell? ⟨w.heap.size, 0, none⟩ = some (.slice (some ⟨g, q, none⟩) l.length c) := fun p => p.cell cL
    have dX : ∀ p : Beyond W, p.to.cell? ⟨w.heap.size + 1, 0, none⟩ = some (.int .i64 (x : Int)) := fun p => p.cell cX
    clear e0 e1 e2 cL cX
    gi_upto_region 10 with fail
    refine wpIn_region_tail 6 (by kernel_rfl) (by kernel_rfl) (by kernel_rfl) ?_
    simp only [List.take_succ_cons, List.take_zero, List.drop_succ_cons, List.drop_zero]
    repeat (with_reducible refine wpQuiet_step (fun K hK => ?_); go_simp; with_reducible refine hK _ ?_; clear hK K)
    with_reducible refine wpQuiet_nil ?_
    rintro _ ⟨p9, rfl⟩
    have hv2 : GcInv w S w5.heap.size l (some ⟨g, q, none⟩) c x i p9.to :=
      ⟨HV.out.box.below p9.below HV.out.box.lt, HV.out.bx.below p9.below HV.out.bx.lt, HV.out.set.below p9.below HV.out.set.lt, HV.out.below.trans (p9.below.mono hsz), Nat.le_trans HV.out.big p9.below.size⟩
    have hk2 : Below w.heap.size W p9.to := p9.below.mono hsz
    have hU2 : ∀ r, w5.heap.size ≤ r → r ≤ w5.heap.size + 2 → p9.to.heap[r]? = W.heap[r]? := fun r _ h2 => p9.below.block r (by omega)
    clear d2 dL dX HV hS
    generalize p9.to = W2 at *
    have hS2 := hv2.set
    have cS := hS2.cell (i := 0) (v := .int .i64 (coL l x i : Int)) rfl
    have fS := hS2.free 0
    obtain ⟨bq, hbq⟩ : ∃ bq, (xo == (x : Int)) = bq := ⟨_, rfl⟩
    rw [hbq] at HST
    cases bq
    · have HALL := Lib.hid (And.intro hU2 (And.intro hk2 hv2))
      clear hU2 hk2 hv2 hS2
      gi_wp2
      obtain ⟨h1, h2, h3⟩ := HALL.out
      have hst := HST.out
      rw [if_neg (by simp)] at hst
      exact ⟨h1, h2, h3.box, h3.bx, by rw [hst]; exact h3.set, h3.below, h3.big⟩
    · have TAB := Lib.hid (show bits .and .i64 (coL l x i : Int) (lkAt l i : Int) = ((coL l x i &&& lkAt l i : Nat) : Int) from adB ⟨_, hCo⟩ ⟨_, hLk⟩)
      have hst := HST.out
      rw [if_pos rfl] at hst
      have hbS : w.heap.size ≤ S := by omega
      have hU3 : ∀ r, w5.heap.size ≤ r → r ≤ w5.heap.size + 2 → (W2.setCell ⟨S, 0, none⟩ (.int .i64 (coL l x (i + 1) : Int))).heap[r]? = W.heap[r]? := fun r h1 h2 => by
        rw [Below.heap_setCell _ _ _ _ (by dsimp only; omega)]
        exact hU2 r h1 h2
      have hk3 := hk2.setCell (p := ⟨S, 0, none⟩) hbS (.int .i64 (coL l x (i + 1) : Int))
      have hv3 : GcInv w S w5.heap.size l (some ⟨g, q, none⟩) c x (i + 1) (W2.setCell ⟨S, 0, none⟩ (.int .i64 (coL l x (i + 1) : Int))) :=
        ⟨hv2.box.setCell_ne (by dsimp only; omega) _, hv2.bx.setCell_ne (by dsimp only; omega) _, (hv2.set.setCell 0 _).to rfl, hv2.below.setCell (p := ⟨S, 0, none⟩) hbS _, by have := hv2.big; simpa [World.setCell] using this⟩
      have HALL := Lib.hid (And.intro hU3 (And.intro hk3 hv3))
      have HT := Lib.hid hst
      clear hU2 hk2 hv2 hU3 hk3 hv3 hS2 hst HST
      gi_wp2
      rw [TAB.out, ← HT.out]
      exact ⟨HALL.out.1, HALL.out.2.1, HALL.out.2.2⟩
  case hdone =>
    intro W hv hK
    have cS := hv.set.cell (i := 0) (v := .int .i64 (coL l x l.length : Int)) rfl
    gi_wp2
    refine ⟨by simp, .inl ⟨_, _, rfl, run_takeDeferred hK, ?_⟩⟩
    refine ⟨.tuple #[.int .i64 (coL l x l.length : Int), .int .i64 0], ?_, rfl, ?_⟩
    · simp [results, Try.results22]
    · exact hv.below.grown (grownBy_putObj' W w5.heap.size (.deferred none)) hv.below.size (fun k e => by injection e; omega)
end Go.Proofs.Ytfaoehpmkhmdhaa

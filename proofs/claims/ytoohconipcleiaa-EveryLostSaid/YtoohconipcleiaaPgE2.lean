/- Contract of Step: kinds, part 2. -/
import Derived.Test.YtoohconipcleiaaME
namespace Go.Proofs.Ytoohconipcleiaa
open Go.RowKit

set_option maxRecDepth 100000 in
set_option maxHeartbeats 8000000 in
theorem step_k4 (p : List (List Ev)) (s : PS) (n : Nat) (a : Option Addr) (c b : Nat) (R : List Value) (T : TypeId) (w0 w : World) (h : PgS w0 a p) (hb0 : Below w0.heap.size w0 w) (hbb : w0.heap.size ≤ b) (hs : Has w b (psR s R) T) (hp : OkP p) (hI : IP p s) (hc : canB p s n = true) (hk : (opN p s n).k = 4) :
    Calls Try.prog 47 #[.pointer (some ⟨b, 0, none⟩), .slice a p.length c, .int .i64 n] w (StepP w b T R (stepP p s n)) := by
  have h6 := hp.six
  obtain ⟨_, t1, t2, _⟩ := nextB_iff.1 (canB_next hc)
  have hl : n < p.length := by omega
  have hat := nextB_at hI (canB_next hc)
  have hbad := nextB_op hp hI (canB_next hc)
  have h12 := hp.plen n
  rw [Int.toNat_natCast] at t2 hat hbad
  obtain ⟨o0, oM, oL, oU⟩ := bad_iff.1 hbad
  obtain ⟨x, hx⟩ : ∃ x, opN p s n = x := ⟨_, rfl⟩
  have HST : Hid (stepP p s n = doOp p (tick s n) n x) := Lib.hid (by unfold stepP; rw [hx])
  have hbH := hs.lt
  have hB0 : Below w.heap.size w ((w.alloc (.cells #[.int .i64 n] 3)).alloc (.cells (evC ⟨0, 0, 0⟩) 36)) := ((Below.refl _ _).alloc (Nat.le_refl _) _).alloc (by simp) _
  have hT0 : Has ((w.alloc (.cells #[.int .i64 n] 3)).alloc (.cells (evC ⟨0, 0, 0⟩) 36)) w.heap.size #[.int .i64 n] 3 := (Has.new w _ _).alloc _
  have hR0 : Has ((w.alloc (.cells #[.int .i64 n] 3)).alloc (.cells (evC ⟨0, 0, 0⟩) 36)) (w.heap.size + 1) (evC ⟨0, 0, 0⟩) 36 := (Has.new (w.alloc _) _ _).at (by simp)
  have hS0 := (hs.alloc (.cells #[.int .i64 n] 3)).alloc (.cells (evC ⟨0, 0, 0⟩) 36)
  have hsz : ((w.alloc (.cells #[.int .i64 n] 3)).alloc (.cells (evC ⟨0, 0, 0⟩) 36)).heap.size = w.heap.size + 2 := by simp
  have HSZ := Lib.hid hsz
  have HYP := fun W hB hS => next_yes p s n a c b R T w0 W h hB hS h6 hl t2 hat
  rw [hx] at HYP o0 oM oL oU
  have HXX := Lib.hid hx
  rw [hx] at hk
  clear hc hbad hsz hp t1 hx h
  go_enter Try.func47, Try.ntmps47
  go_wp2_with fail
  generalize ((w.alloc (.cells #[.int .i64 n] 3)).alloc (.cells (evC ⟨0, 0, 0⟩) 36)) = W0 at *
  refine (HYP W0 (hb0.trans (hB0.mono hb0.size)) hS0).mono ?_
  rintro r w1 ⟨g, q, rfl, hC, hb⟩
  have hg : g < w0.heap.size := World.block_lt_of_cell? _ _ hC.k
  have hB1 := hB0.trans (hb.mono hB0.size)
  have hC1 := hC.below (hb0.trans (hB1.mono hb0.size))
  have hS1 := hS0.below hb hS0.lt
  have hT1 := hT0.below hb hT0.lt
  have hR1 := hR0.below hb hR0.lt
  have hs1 := hb.size
  rw [HSZ.out] at hs1
  clear hS0 hT0 hR0 hB0 hb hC hs HYP HSZ hb0
  go_upto_region 2 with fail
  have hP2 := Has.new w1 #[.pointer (some ⟨g, q, none⟩)] 150
  have hM : Mid w (w1.alloc (.cells #[.pointer (some ⟨g, q, none⟩)] 150)) b w.heap.size w1.heap.size g q n x s R T :=
    ⟨hS1.alloc _, (hT1.alloc _).cell rfl, hR1.alloc _, hP2.cell rfl, hC1.below ((Below.refl _ _).alloc (Nat.le_refl _) _), (grown_of hB1).trans (grown_of ((Below.refl _ _).alloc (Nat.le_refl _) _))⟩
  generalize w1.alloc (.cells #[.pointer (some ⟨g, q, none⟩)] 150) = w2 at *
  have n1 : w.heap.size ≠ b := by omega
  have n2 : w.heap.size + 1 ≠ b := by omega
  have n3 : w1.heap.size ≠ b := by omega
  have n4 : g ≠ b := by omega
  clear hP2 hS1 hT1 hR1 hC1 hB1 hs1 hbb hg hbH
  generalize w1.heap.size = B2 at *
  obtain ⟨H, hHe⟩ : ∃ H, w.heap.size = H := ⟨_, rfl⟩
  have HH2 : Hid (w.heap.size ≤ H + 1) := Lib.hid (by omega)
  rw [hHe] at hM n1 n2 ⊢
  clear hHe
  have n6 : (n : Int) < 6 := by omega
  have n0 : (0 : Int) ≤ n := by omega
  have hn6 : n < 6 := by omega
  have cA := ps_at hM.st hn6
  have fA := hM.st.free (20 + n)
  have cT := hM.box
  have hM2 := (hM.set (s' := tick s n) n1 n2 n3 n4 (20 + n) (.int .i64 ((s.at_ n : Int) + 1)) (psR_tick s R hn6)).below (Below.refl _ _).drew
  have A0 : (0 : Int) ≤ s.at_ n := by omega
  have A1 : (s.at_ n : Int) < 12 := by omega
  generalize s.at_ n = A at *
  clear hM
  go_still_tail 10, (by kernel_rfl)
  change wpList _ _ _ _ _ w2.drew
  go_upto_region 3 with fail
  clear cA fA cT A0 A1 hat h12
  generalize (w2.setCell ⟨b, 20 + n, none⟩ (.int .i64 ((A : Int) + 1))).drew = w3 at *
  obtain ⟨xk, xt, xo⟩ := x
  obtain ⟨m, rfl⟩ : ∃ m : Nat, xt = m := ⟨xt.toNat, by simp only at o0; omega⟩
  obtain ⟨e0, e1, e2⟩ := hM2.op
  have cT := hM2.box
  have cP := hM2.ptr
  have cR0 : w3.cell? ⟨H + 1, 0, none⟩ = some (.int .i64 0) := hM2.res.cell rfl
  have cR1 : w3.cell? ⟨H + 1, 1, none⟩ = some (.int .i64 0) := hM2.res.cell rfl
  have cR2 : w3.cell? ⟨H + 1, 2, none⟩ = some (.int .i64 0) := hM2.res.cell rfl
  simp only at e0 e1 e2 o0 oM oL oU
  obtain rfl : xk = 4 := hk
  have hm : m < 5 := by have : (m : Int) < boundK 4 := oM; have e : boundK 4 = 5 := rfl; omega
  have hmi : (m : Int) < 5 := by omega
  have HD : Hid (stepP p s n = ({ tick s n with owner := upZ (tick s n).owner m (n + 1) }, some ⟨3, n, m⟩)) := Lib.hid (by rw [HST.out]; exact do4 rfl)
  generalize tick s n = s1 at *
  have hM3 := (hM2.set (s' := _) n1 n2 n3 n4 (32 + m) (.int .i64 ((n : Int) + 1)) (psR_owner s1 R hm (n + 1))).below (Below.refl _ _).drew
  have cO := ps_owner hM2.st hm
  have fS := hM2.st.free (32 + m)
  go_upto_region 15 with fail
  go_still_tail 10, (by kernel_rfl)
  change wpList _ _ _ _ _ w3.drew
  go_upto_region 16 with fail
  generalize (w3.setCell ⟨b, 32 + m, none⟩ (.int .i64 ((n : Int) + 1))).drew = w4 at *
  clear cR0 cR1 cR2 cT cP e0 e1 e2
  have hTL := tells_any 3 n H B2 g q _ w4 hM3.box hM3.ptr hM3.op
  go_wp2_with fail
  refine hTL.mono ?_
  rintro r w5 ⟨rfl, hk5⟩
  have hM5 := hM3.below hk5
  have cR0 : w5.cell? ⟨H + 1, 0, none⟩ = some (.int .i64 0) := hM5.res.cell rfl
  have cR1 : w5.cell? ⟨H + 1, 1, none⟩ = some (.int .i64 0) := hM5.res.cell rfl
  have cR2 : w5.cell? ⟨H + 1, 2, none⟩ = some (.int .i64 0) := hM5.res.cell rfl
  have fR0 := hM5.res.free 0
  have fR1 := hM5.res.free 1
  have fR2 := hM5.res.free 2
  clear hTL hk5 hM3
  go_wp2
  refine bodyPost_ret (v := .tuple #[evV ⟨3, n, m⟩, .bool true]) (by simp [results, Try.results47, go_sem, *]) rfl ?_
  rw [HD.out]
  exact ⟨rfl, (hM5.fin HH2.out n2 _ _ _).1, (hM5.fin HH2.out n2 _ _ _).2⟩
set_option maxRecDepth 100000 in
set_option maxHeartbeats 8000000 in
theorem step_k5y (p : List (List Ev)) (s : PS) (n : Nat) (a : Option Addr) (c b : Nat) (R : List Value) (T : TypeId) (w0 w : World) (h : PgS w0 a p) (hb0 : Below w0.heap.size w0 w) (hbb : w0.heap.size ≤ b) (hs : Has w b (psR s R) T) (hp : OkP p) (hI : IP p s) (hc : canB p s n = true) (hk : (opN p s n).k = 5) (ho : s.owner (opN p s n).t.toNat = n + 1) :
    Calls Try.prog 47 #[.pointer (some ⟨b, 0, none⟩), .slice a p.length c, .int .i64 n] w (StepP w b T R (stepP p s n)) := by
  have h6 := hp.six
  obtain ⟨_, t1, t2, _⟩ := nextB_iff.1 (canB_next hc)
  have hl : n < p.length := by omega
  have hat := nextB_at hI (canB_next hc)
  have hbad := nextB_op hp hI (canB_next hc)
  have h12 := hp.plen n
  rw [Int.toNat_natCast] at t2 hat hbad
  obtain ⟨o0, oM, oL, oU⟩ := bad_iff.1 hbad
  obtain ⟨x, hx⟩ : ∃ x, opN p s n = x := ⟨_, rfl⟩
  have HST : Hid (stepP p s n = doOp p (tick s n) n x) := Lib.hid (by unfold stepP; rw [hx])
  have hbH := hs.lt
  have hB0 : Below w.heap.size w ((w.alloc (.cells #[.int .i64 n] 3)).alloc (.cells (evC ⟨0, 0, 0⟩) 36)) := ((Below.refl _ _).alloc (Nat.le_refl _) _).alloc (by simp) _
  have hT0 : Has ((w.alloc (.cells #[.int .i64 n] 3)).alloc (.cells (evC ⟨0, 0, 0⟩) 36)) w.heap.size #[.int .i64 n] 3 := (Has.new w _ _).alloc _
  have hR0 : Has ((w.alloc (.cells #[.int .i64 n] 3)).alloc (.cells (evC ⟨0, 0, 0⟩) 36)) (w.heap.size + 1) (evC ⟨0, 0, 0⟩) 36 := (Has.new (w.alloc _) _ _).at (by simp)
  have hS0 := (hs.alloc (.cells #[.int .i64 n] 3)).alloc (.cells (evC ⟨0, 0, 0⟩) 36)
  have hsz : ((w.alloc (.cells #[.int .i64 n] 3)).alloc (.cells (evC ⟨0, 0, 0⟩) 36)).heap.size = w.heap.size + 2 := by simp
  have HSZ := Lib.hid hsz
  have HYP := fun W hB hS => next_yes p s n a c b R T w0 W h hB hS h6 hl t2 hat
  rw [hx] at HYP o0 oM oL oU
  have HXX := Lib.hid hx
  rw [hx] at hk
  rw [hx] at ho
  have HO := Lib.hid ho
  clear ho
  clear hc hbad hsz hp t1 hx h
  go_enter Try.func47, Try.ntmps47
  go_wp2_with fail
  generalize ((w.alloc (.cells #[.int .i64 n] 3)).alloc (.cells (evC ⟨0, 0, 0⟩) 36)) = W0 at *
  refine (HYP W0 (hb0.trans (hB0.mono hb0.size)) hS0).mono ?_
  rintro r w1 ⟨g, q, rfl, hC, hb⟩
  have hg : g < w0.heap.size := World.block_lt_of_cell? _ _ hC.k
  have hB1 := hB0.trans (hb.mono hB0.size)
  have hC1 := hC.below (hb0.trans (hB1.mono hb0.size))
  have hS1 := hS0.below hb hS0.lt
  have hT1 := hT0.below hb hT0.lt
  have hR1 := hR0.below hb hR0.lt
  have hs1 := hb.size
  rw [HSZ.out] at hs1
  clear hS0 hT0 hR0 hB0 hb hC hs HYP HSZ hb0
  go_upto_region 2 with fail
  have hP2 := Has.new w1 #[.pointer (some ⟨g, q, none⟩)] 150
  have hM : Mid w (w1.alloc (.cells #[.pointer (some ⟨g, q, none⟩)] 150)) b w.heap.size w1.heap.size g q n x s R T :=
    ⟨hS1.alloc _, (hT1.alloc _).cell rfl, hR1.alloc _, hP2.cell rfl, hC1.below ((Below.refl _ _).alloc (Nat.le_refl _) _), (grown_of hB1).trans (grown_of ((Below.refl _ _).alloc (Nat.le_refl _) _))⟩
  generalize w1.alloc (.cells #[.pointer (some ⟨g, q, none⟩)] 150) = w2 at *
  have n1 : w.heap.size ≠ b := by omega
  have n2 : w.heap.size + 1 ≠ b := by omega
  have n3 : w1.heap.size ≠ b := by omega
  have n4 : g ≠ b := by omega
  clear hP2 hS1 hT1 hR1 hC1 hB1 hs1 hbb hg hbH
  generalize w1.heap.size = B2 at *
  obtain ⟨H, hHe⟩ : ∃ H, w.heap.size = H := ⟨_, rfl⟩
  have HH2 : Hid (w.heap.size ≤ H + 1) := Lib.hid (by omega)
  rw [hHe] at hM n1 n2 ⊢
  clear hHe
  have n6 : (n : Int) < 6 := by omega
  have n0 : (0 : Int) ≤ n := by omega
  have hn6 : n < 6 := by omega
  have cA := ps_at hM.st hn6
  have fA := hM.st.free (20 + n)
  have cT := hM.box
  have hM2 := (hM.set (s' := tick s n) n1 n2 n3 n4 (20 + n) (.int .i64 ((s.at_ n : Int) + 1)) (psR_tick s R hn6)).below (Below.refl _ _).drew
  have A0 : (0 : Int) ≤ s.at_ n := by omega
  have A1 : (s.at_ n : Int) < 12 := by omega
  generalize s.at_ n = A at *
  clear hM
  go_still_tail 10, (by kernel_rfl)
  change wpList _ _ _ _ _ w2.drew
  go_upto_region 3 with fail
  clear cA fA cT A0 A1 hat h12
  generalize (w2.setCell ⟨b, 20 + n, none⟩ (.int .i64 ((A : Int) + 1))).drew = w3 at *
  obtain ⟨xk, xt, xo⟩ := x
  obtain ⟨m, rfl⟩ : ∃ m : Nat, xt = m := ⟨xt.toNat, by simp only at o0; omega⟩
  obtain ⟨e0, e1, e2⟩ := hM2.op
  have cT := hM2.box
  have cP := hM2.ptr
  have cR0 : w3.cell? ⟨H + 1, 0, none⟩ = some (.int .i64 0) := hM2.res.cell rfl
  have cR1 : w3.cell? ⟨H + 1, 1, none⟩ = some (.int .i64 0) := hM2.res.cell rfl
  have cR2 : w3.cell? ⟨H + 1, 2, none⟩ = some (.int .i64 0) := hM2.res.cell rfl
  simp only at e0 e1 e2 o0 oM oL oU
  obtain rfl : xk = 5 := hk
  have hm : m < 5 := by have : (m : Int) < boundK 5 := oM; have e : boundK 5 = 5 := rfl; omega
  have hmi : (m : Int) < 5 := by omega
  have ho2 : (tick s n).owner m = (n : Int) + 1 := HO.out
  have hcY : ((tick s n).owner m == (n : Int) + 1) = true := beq_iff_eq.2 ho2
  have hcY2 : decide ((tick s n).owner m = (n : Int) + 1) = true := decide_eq_true ho2
  have HD : Hid (stepP p s n = ({ tick s n with owner := upZ (tick s n).owner m 0 }, some ⟨4, n, m⟩)) := Lib.hid (by rw [HST.out]; exact do5y rfl ho2)
  clear ho2
  generalize tick s n = s1 at *
  have hw : IntKind.i64.wrap ((n : Int) + 1) = (n : Int) + 1 := IntWalk.i64_in _ (by omega)
  have cO := ps_owner hM2.st hm
  go_upto_region 18 with fail
  refine wp_region_quiet_lit (by kernel_rfl) (by kernel_rfl) ?_
  repeat (with_reducible refine wpQuiet_step (fun K hK => ?_); go_simp; with_reducible refine hK _ ?_; clear hK K)
  with_reducible refine wpQuiet_nil ?_
  rintro _ ⟨nq, rfl⟩
  have hMq := hM2.below (below_drewN (Below.refl _ _) nq)
  clear hM2
  generalize w3.drewN nq = wq at *
  clear e0 e1 e2 cT cP cR0 cR1 cR2
  obtain ⟨e0, e1, e2⟩ := hMq.op
  have cT := hMq.box
  have cP := hMq.ptr
  have cR0 : wq.cell? ⟨H + 1, 0, none⟩ = some (.int .i64 0) := hMq.res.cell rfl
  have cR1 : wq.cell? ⟨H + 1, 1, none⟩ = some (.int .i64 0) := hMq.res.cell rfl
  have cR2 : wq.cell? ⟨H + 1, 2, none⟩ = some (.int .i64 0) := hMq.res.cell rfl
  simp only at e0 e1 e2
  have hM3 := (hMq.set (s' := _) n1 n2 n3 n4 (32 + m) (.int .i64 0) (psR_owner s1 R hm 0)).below (Below.refl _ _).drew
  have cO2 := ps_owner hMq.st hm
  have fS := hMq.st.free (32 + m)
  go_upto_region 19 with fail
  go_still_tail 8, (by kernel_rfl)
  change wpList _ _ _ _ _ wq.drew
  go_upto_region 20 with fail
  generalize (wq.setCell ⟨b, 32 + m, none⟩ (.int .i64 0)).drew = w4 at *
  clear cR0 cR1 cR2 cT cP e0 e1 e2
  have hTL := tells_any 4 n H B2 g q _ w4 hM3.box hM3.ptr hM3.op
  go_wp2_with fail
  refine hTL.mono ?_
  rintro r w5 ⟨rfl, hk5⟩
  have hM5 := hM3.below hk5
  have cR0 : w5.cell? ⟨H + 1, 0, none⟩ = some (.int .i64 0) := hM5.res.cell rfl
  have cR1 : w5.cell? ⟨H + 1, 1, none⟩ = some (.int .i64 0) := hM5.res.cell rfl
  have cR2 : w5.cell? ⟨H + 1, 2, none⟩ = some (.int .i64 0) := hM5.res.cell rfl
  have fR0 := hM5.res.free 0
  have fR1 := hM5.res.free 1
  have fR2 := hM5.res.free 2
  clear hTL hk5 hM3
  go_wp2
  refine bodyPost_ret (v := .tuple #[evV ⟨4, n, m⟩, .bool true]) (by simp [results, Try.results47, go_sem, *]) rfl ?_
  rw [HD.out]
  exact ⟨rfl, (hM5.fin HH2.out n2 _ _ _).1, (hM5.fin HH2.out n2 _ _ _).2⟩
set_option maxRecDepth 100000 in
set_option maxHeartbeats 8000000 in
theorem step_k5n (p : List (List Ev)) (s : PS) (n : Nat) (a : Option Addr) (c b : Nat) (R : List Value) (T : TypeId) (w0 w : World) (h : PgS w0 a p) (hb0 : Below w0.heap.size w0 w) (hbb : w0.heap.size ≤ b) (hs : Has w b (psR s R) T) (hp : OkP p) (hI : IP p s) (hc : canB p s n = true) (hk : (opN p s n).k = 5) (ho : ¬ s.owner (opN p s n).t.toNat = n + 1) :
    Calls Try.prog 47 #[.pointer (some ⟨b, 0, none⟩), .slice a p.length c, .int .i64 n] w (StepP w b T R (stepP p s n)) := by
  have h6 := hp.six
  obtain ⟨_, t1, t2, _⟩ := nextB_iff.1 (canB_next hc)
  have hl : n < p.length := by omega
  have hat := nextB_at hI (canB_next hc)
  have hbad := nextB_op hp hI (canB_next hc)
  have h12 := hp.plen n
  rw [Int.toNat_natCast] at t2 hat hbad
  obtain ⟨o0, oM, oL, oU⟩ := bad_iff.1 hbad
  obtain ⟨x, hx⟩ : ∃ x, opN p s n = x := ⟨_, rfl⟩
  have HST : Hid (stepP p s n = doOp p (tick s n) n x) := Lib.hid (by unfold stepP; rw [hx])
  have hbH := hs.lt
  have hB0 : Below w.heap.size w ((w.alloc (.cells #[.int .i64 n] 3)).alloc (.cells (evC ⟨0, 0, 0⟩) 36)) := ((Below.refl _ _).alloc (Nat.le_refl _) _).alloc (by simp) _
  have hT0 : Has ((w.alloc (.cells #[.int .i64 n] 3)).alloc (.cells (evC ⟨0, 0, 0⟩) 36)) w.heap.size #[.int .i64 n] 3 := (Has.new w _ _).alloc _
  have hR0 : Has ((w.alloc (.cells #[.int .i64 n] 3)).alloc (.cells (evC ⟨0, 0, 0⟩) 36)) (w.heap.size + 1) (evC ⟨0, 0, 0⟩) 36 := (Has.new (w.alloc _) _ _).at (by simp)
  have hS0 := (hs.alloc (.cells #[.int .i64 n] 3)).alloc (.cells (evC ⟨0, 0, 0⟩) 36)
  have hsz : ((w.alloc (.cells #[.int .i64 n] 3)).alloc (.cells (evC ⟨0, 0, 0⟩) 36)).heap.size = w.heap.size + 2 := by simp
  have HSZ := Lib.hid hsz
  have HYP := fun W hB hS => next_yes p s n a c b R T w0 W h hB hS h6 hl t2 hat
  rw [hx] at HYP o0 oM oL oU
  have HXX := Lib.hid hx
  rw [hx] at hk
  rw [hx] at ho
  have HO := Lib.hid ho
  clear ho
  clear hc hbad hsz hp t1 hx h
  go_enter Try.func47, Try.ntmps47
  go_wp2_with fail
  generalize ((w.alloc (.cells #[.int .i64 n] 3)).alloc (.cells (evC ⟨0, 0, 0⟩) 36)) = W0 at *
  refine (HYP W0 (hb0.trans (hB0.mono hb0.size)) hS0).mono ?_
  rintro r w1 ⟨g, q, rfl, hC, hb⟩
  have hg : g < w0.heap.size := World.block_lt_of_cell? _ _ hC.k
  have hB1 := hB0.trans (hb.mono hB0.size)
  have hC1 := hC.below (hb0.trans (hB1.mono hb0.size))
  have hS1 := hS0.below hb hS0.lt
  have hT1 := hT0.below hb hT0.lt
  have hR1 := hR0.below hb hR0.lt
  have hs1 := hb.size
  rw [HSZ.out] at hs1
  clear hS0 hT0 hR0 hB0 hb hC hs HYP HSZ hb0
  go_upto_region 2 with fail
  have hP2 := Has.new w1 #[.pointer (some ⟨g, q, none⟩)] 150
  have hM : Mid w (w1.alloc (.cells #[.pointer (some ⟨g, q, none⟩)] 150)) b w.heap.size w1.heap.size g q n x s R T :=
    ⟨hS1.alloc _, (hT1.alloc _).cell rfl, hR1.alloc _, hP2.cell rfl, hC1.below ((Below.refl _ _).alloc (Nat.le_refl _) _), (grown_of hB1).trans (grown_of ((Below.refl _ _).alloc (Nat.le_refl _) _))⟩
  generalize w1.alloc (.cells #[.pointer (some ⟨g, q, none⟩)] 150) = w2 at *
  have n1 : w.heap.size ≠ b := by omega
  have n2 : w.heap.size + 1 ≠ b := by omega
  have n3 : w1.heap.size ≠ b := by omega
  have n4 : g ≠ b := by omega
  clear hP2 hS1 hT1 hR1 hC1 hB1 hs1 hbb hg hbH
  generalize w1.heap.size = B2 at *
  obtain ⟨H, hHe⟩ : ∃ H, w.heap.size = H := ⟨_, rfl⟩
  have HH2 : Hid (w.heap.size ≤ H + 1) := Lib.hid (by omega)
  rw [hHe] at hM n1 n2 ⊢
  clear hHe
  have n6 : (n : Int) < 6 := by omega
  have n0 : (0 : Int) ≤ n := by omega
  have hn6 : n < 6 := by omega
  have cA := ps_at hM.st hn6
  have fA := hM.st.free (20 + n)
  have cT := hM.box
  have hM2 := (hM.set (s' := tick s n) n1 n2 n3 n4 (20 + n) (.int .i64 ((s.at_ n : Int) + 1)) (psR_tick s R hn6)).below (Below.refl _ _).drew
  have A0 : (0 : Int) ≤ s.at_ n := by omega
  have A1 : (s.at_ n : Int) < 12 := by omega
  generalize s.at_ n = A at *
  clear hM
  go_still_tail 10, (by kernel_rfl)
  change wpList _ _ _ _ _ w2.drew
  go_upto_region 3 with fail
  clear cA fA cT A0 A1 hat h12
  generalize (w2.setCell ⟨b, 20 + n, none⟩ (.int .i64 ((A : Int) + 1))).drew = w3 at *
  obtain ⟨xk, xt, xo⟩ := x
  obtain ⟨m, rfl⟩ : ∃ m : Nat, xt = m := ⟨xt.toNat, by simp only at o0; omega⟩
  obtain ⟨e0, e1, e2⟩ := hM2.op
  have cT := hM2.box
  have cP := hM2.ptr
  have cR0 : w3.cell? ⟨H + 1, 0, none⟩ = some (.int .i64 0) := hM2.res.cell rfl
  have cR1 : w3.cell? ⟨H + 1, 1, none⟩ = some (.int .i64 0) := hM2.res.cell rfl
  have cR2 : w3.cell? ⟨H + 1, 2, none⟩ = some (.int .i64 0) := hM2.res.cell rfl
  simp only at e0 e1 e2 o0 oM oL oU
  obtain rfl : xk = 5 := hk
  have hm : m < 5 := by have : (m : Int) < boundK 5 := oM; have e : boundK 5 = 5 := rfl; omega
  have hmi : (m : Int) < 5 := by omega
  have ho2 : ¬ (tick s n).owner m = (n : Int) + 1 := HO.out
  have hcY : ((tick s n).owner m == (n : Int) + 1) = false := beq_eq_false_iff_ne.2 ho2
  have hcY2 : decide ((tick s n).owner m = (n : Int) + 1) = false := decide_eq_false ho2
  have HD : Hid (stepP p s n = (tick s n, none)) := Lib.hid (by rw [HST.out]; exact do5n rfl ho2)
  clear ho2
  generalize tick s n = s1 at *
  have hw : IntKind.i64.wrap ((n : Int) + 1) = (n : Int) + 1 := IntWalk.i64_in _ (by omega)
  have cO := ps_owner hM2.st hm
  go_upto_region 18 with fail
  refine wp_region_quiet_lit (by kernel_rfl) (by kernel_rfl) ?_
  repeat (with_reducible refine wpQuiet_step (fun K hK => ?_); go_simp; with_reducible refine hK _ ?_; clear hK K)
  with_reducible refine wpQuiet_nil ?_
  rintro _ ⟨nq, rfl⟩
  have hMq := hM2.below (below_drewN (Below.refl _ _) nq)
  clear hM2
  generalize w3.drewN nq = wq at *
  clear e0 e1 e2 cT cP cR0 cR1 cR2
  obtain ⟨e0, e1, e2⟩ := hMq.op
  have cT := hMq.box
  have cP := hMq.ptr
  have cR0 : wq.cell? ⟨H + 1, 0, none⟩ = some (.int .i64 0) := hMq.res.cell rfl
  have cR1 : wq.cell? ⟨H + 1, 1, none⟩ = some (.int .i64 0) := hMq.res.cell rfl
  have cR2 : wq.cell? ⟨H + 1, 2, none⟩ = some (.int .i64 0) := hMq.res.cell rfl
  simp only at e0 e1 e2
  go_upto_region 33 with fail
  generalize wq = w4 at *
  clear cR0 cR1 cR2 cT cP e0 e1 e2
  have hM5 := hMq
  clear hMq cO
  have cR0 : w4.cell? ⟨H + 1, 0, none⟩ = some (.int .i64 0) := hM5.res.cell rfl
  have cR1 : w4.cell? ⟨H + 1, 1, none⟩ = some (.int .i64 0) := hM5.res.cell rfl
  have cR2 : w4.cell? ⟨H + 1, 2, none⟩ = some (.int .i64 0) := hM5.res.cell rfl
  have fR0 := hM5.res.free 0
  have fR1 := hM5.res.free 1
  have fR2 := hM5.res.free 2
  go_wp2
  refine bodyPost_ret (v := .tuple #[evV ⟨0, 0, 0⟩, .bool false]) (by simp [results, Try.results47, go_sem, *]) rfl ?_
  rw [HD.out]
  exact ⟨rfl, (hM5.fin HH2.out n2 _ _ _).1, (hM5.fin HH2.out n2 _ _ _).2⟩
end Go.Proofs.Ytoohconipcleiaa

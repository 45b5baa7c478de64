/- GuardKeeps: the locks of a guard include the common locks: for every trace. -/
import Derived.Test.YtfaoehpmkhmdhaaRows
import Derived.Test.YtfaoehpmkhmdhaaGdI
import Derived.Test.YtfaoehpmkhmdhaaOpenE
namespace Go.Proofs.Ytfaoehpmkhmdhaa
open Go.ChangeShapes Go.WideShapes Go.ChangeAt Go.RowKit

theorem common_n (l : List Ev) (a : Option Addr) (c : Nat) (x : Nat) (w : World) (h : EvS w a l) (hp : (played l).2.2 = 0) (hx : x < 8) (n : Int) (hn : (coL l x l.length : Int) = n) :
    Calls Try.prog 22 #[.slice a l.length c, .int .i64 (x : Int)] w fun r w' => r = .returned (.tuple #[.int .i64 n, .int .i64 0]) ∧ Below w.heap.size w w' := hn ▸ common_ok l a c x w h hp hx
set_option maxRecDepth 100000 in
set_option maxHeartbeats 8000000 in
theorem guardKeeps_walk (a : Option Addr) (z : List Ev) (c : Nat) (w : World) (hf : EvS w a z ∧ z.length ≤ c ∧ z.length * 24 ≤ 140737488351232 ∧ ∀ e ∈ z, I64 e.k ∧ I64 e.t ∧ I64 e.o) :
    Calls Try.prog 5 #[.slice a z.length c] w fun e w' => e = .returned (.bool true) ∧ Below w.heap.size w w' := by
  have h := hf.1
  clear hf
  obtain ⟨Z, hZ⟩ : ∃ Z, gsC (gEnd z) = Z := ⟨_, rfl⟩
  have hZs : Z.size = 24 := by rw [← hZ]; exact gsC_size _
  have hZ1 : Z.all (·.oneCell') = true := by rw [← hZ]; exact gsC_one _
  have hun := Try.underlying44
  have hsz : (Try.prog.info? gsT).map (·.size) = some Z.size := by rw [hZs]; kernel_rfl
  have HZ := Lib.hid hZ
  clear hZ
  go_enter Try.func5, Try.ntmps5
  go_wp2_with fail
  refine (guarded_any _).mono ?_
  rintro r w0 ⟨rfl, hb⟩
  go_wp2_with fail
  refine (guards_any z a c _ (h.below hb)).mono ?_
  rintro r w1 ⟨rfl, hk⟩
  rw [HZ.out]
  have hb1 := hb.trans (hk.mono hb.size)
  clear hk hb
  generalize hE : (played z).2.2 = E at *
  by_cases hp : E = 0
  · subst hp
    go_wp2_with (
      (refine wpList_store_row rfl gsT _ _ rfl w1.heap.size Z rfl rfl gsT _ (Has.new w1 (gsC fun _ => gZero) gsT).out hsz (by rw [hZs]; exact gsC_size _) hZ1 ?_
       generalize hW2 : World.setRow _ w1.heap.size Z = W2
       have hN : Has W2 w1.heap.size Z gsT := by rw [← hW2]; exact (Has.new w1 (gsC fun _ => gZero) gsT).setRow
       have hb2 : Below w.heap.size w W2 := by rw [← hW2]; exact below_setRow (hb1.alloc hb1.size (.cells (gsC fun _ => gZero) gsT)) hb1.size Z
       clear hW2))
    generalize w1.heap.size = G at *
    go_loopw [20] (fun p wr => ∃ k : Nat, k ≤ 8 ∧ p = .int .i64 k ∧ Has wr G Z gsT ∧ Below w.heap.size w wr) (fun p _ => 8 - (intOf p).toNat)
    case atStart => exact ⟨0, Nat.zero_le _, rfl, hN, hb2⟩
    case round =>
      clear hN hb2
      obtain ⟨k, hk, rfl, hN, hb⟩ := hrel
      by_cases hlt : k < 8
      · have k0 : (0 : Int) ≤ k := by omega
        have k1 : (k : Int) < 8 := by omega
        obtain ⟨n, hn⟩ : ∃ n : Int, (coL z k z.length : Int) = n := ⟨_, rfl⟩
        obtain ⟨m, hm⟩ : ∃ m : Int, ((gEnd z k).lk : Int) = m := ⟨_, rfl⟩
        have hge : gEnd z = (gdL z z.length).G := by unfold gEnd; rw [if_pos hE]
        have t1 : bits .andNot .i64 n m = 0 := by
          rw [← hn, ← hm, hge]
          exact na_sub (coL_lt z k _) ((gdL_ok hE (Nat.le_refl _)).lk k) (keeps_sub hE k _ (Nat.le_refl _))
        have t2 : bits .andNot .i64 m 31 = 0 := by
          rw [← hm, hge]
          exact na_31 ((gdL_ok hE (Nat.le_refl _)).lk k)
        go_wp2_with fail
        refine (common_n z a c k wr (h.below hb) hE hlt n hn).mono ?_
        rintro r w3 ⟨rfl, hk3⟩
        have hN3 := hN.below hk3 hN.lt
        have hb3 := hb.trans (hk3.mono hb.size)
        have c2 : w3.cell? ⟨G, k * 3 + 2, none⟩ = some (.int .i64 m) := by
          have h1 := (hN3.to HZ.out.symm).addI (show k * 3 + 2 < 24 by omega)
          rw [gI_2, hm] at h1
          exact h1
        clear hn hm hge hk3 hN hb
        go_wp2
        go_roundw
        case rel => exact ⟨k + 1, by omega, by go_num, hN3, hb3⟩
        case measure => (simp [intOf]; try omega)
      · obtain rfl : k = 8 := by omega
        go_wp2
        go_ret
        exact ⟨rfl, hb⟩
  · have r1 : (E == 0) = false := beq_eq_false_iff_ne.2 hp
    have hq : ∀ W, (binOp .eql 44 (.agg Z) (.agg #[.int .i64 0, .int .i64 0, .int .i64 0, .int .i64 0, .int .i64 0, .int .i64 0, .int .i64 0, .int .i64 0, .int .i64 0, .int .i64 0, .int .i64 0, .int .i64 0, .int .i64 0, .int .i64 0, .int .i64 0, .int .i64 0, .int .i64 0, .int .i64 0, .int .i64 0, .int .i64 0, .int .i64 0, .int .i64 0, .int .i64 0, .int .i64 0])).run Try.prog W = .ok (.bool true) W := fun W => by
      rw [← HZ.out, show gsC (gEnd z) = gsC fun _ => gZero by unfold gEnd; rw [if_neg (by rw [hE]; exact hp)]]
      exact eql_gs W
    go_wp2_with (first
      | (refine wpList_store_row rfl gsT _ _ rfl w1.heap.size Z rfl rfl gsT _ (Has.new w1 (gsC fun _ => gZero) gsT).out hsz (by rw [hZs]; exact gsC_size _) hZ1 ?_
         generalize hW2 : World.setRow _ w1.heap.size Z = W2
         have hN : Has W2 w1.heap.size Z gsT := by rw [← hW2]; exact (Has.new w1 (gsC fun _ => gZero) gsT).setRow
         have hb2 : Below w.heap.size w W2 := by rw [← hW2]; exact below_setRow (hb1.alloc hb1.size (.cells (gsC fun _ => gZero) gsT)) hb1.size Z
         clear hW2)
      | (refine wpList_load_row rfl gsT _ rfl w1.heap.size rfl gsT Z (0, 0) _ hN.out hun rfl hsz ?_))
    go_ret
    exact ⟨rfl, hb2⟩
/-! The frame of the law GuardKeeps, by program. -/
set_option maxRecDepth 100000 in
theorem guardKeeps_lifted (os : Os) (started : os.Started) (H : Type) (enc : TypeId × Value → H) :
    ReturnsInHanded {} Try.checked os 5 .any (Rows.guardKeepsSpec.pre6 enc Try.prog Try.f5 Rows.guardKeepsRow.domain false) (Rows.guardKeepsSpec.post enc Try.prog Try.f5 false true false false) := by
  refine returnsInHanded_of_change_shaped (C := Try.checked) frame_own started (by kernel_rfl) Try.func5
    (ChangeSpec.witness6 (enc := enc) (C := Try.checked) false ⟨#[], #[.slice none 0 0], []⟩ 8 (by kernel_rfl) (by kernel_rfl) (by kernel_rfl) (by kernel_rfl)) ?_
  intro W base args ds gs before hval0 hW hcnd hsz hshaped hroom
  clear hcnd hshaped
  have hval : ∀ (j : Nat) t v, Try.f5.params[j]? = some t → args[j]? = some v → Value.okWide Try.prog W .any base t v := hval0
  have hW' := hW
  obtain ⟨p, q, hA0, hV, rfl, hfz, hnd⟩ := hW
  have hA : DataW.TrodAll enc Try.prog W 0 (fun _ => true) true Try.f5.params.toList args.toList ds p := hA0
  rw [Try.params5] at hA hval
  obtain ⟨v0, vs0, d0, ds0, p0, q0, hargs, rfl, rfl, h0, r0⟩ := trodAll_cons hA
  obtain ⟨rfl, rfl, rfl⟩ := trodAll_nil r0
  obtain rfl : args = #[v0] := by cases args; simp_all
  obtain ⟨rfl, rfl⟩ := trodVars_none hV
  have k0 := h0
  have lt0 : ∀ x ∈ p0, x.block < W.heap.size := by obtain ⟨m, hm⟩ := k0; exact DataW.trod_lt m _ _ _ hm
  obtain ⟨a0, z0, c0, rfl, w0⟩ := open_evs (hval 0 28 v0 rfl rfl) h0 (fun els sp hd => sized_slice hsz (j := 0) rfl (by rw [hd]; rfl) Try.underlying28)
  clear hA0 hval0
  refine (guardKeeps_walk a0 z0 c0 W w0).mono fun e W' ⟨he, bel⟩ => ?_
  subst he
  exact ⟨_, rfl, _, _, _, [], _, [], hW', trodAll_mk1 (shut_bool Try.underlying4 _), (trodAll_cons_mk (Below.trod frame_laid (by kernel_rfl) (of_decide_eq_true (by kernel_rfl)) k0 bel lt0) trodAll_mk0), rfl, bel.frame _, fun h => by cases h⟩

theorem guardKeeps_over : Rows.guardKeepsRow.holds Try.pinned (OpenSpec.ofChange Rows.guardKeepsSpec) :=
  OpenClaim.holds_of_wide 5 Try.f5 rfl rfl rfl rfl rfl rfl rfl ⟨rfl, rfl, rfl, rfl, rfl⟩ rfl rfl rfl rfl rfl (by kernel_rfl) Try.func5 (by kernel_rfl)
    (of_decide_eq_true (by kernel_rfl)) (by unfold Func.isWrapper; first | (rw [if_pos (by decide +kernel)]; kernel_rfl) | (rw [if_neg (by decide +kernel)]; exact ⟨rfl, rfl⟩))
    (fun os started H enc _ => guardKeeps_lifted os started H enc)

/-- The statement. -/
theorem guardKeeps_holds : Rows.GuardKeepsSaid := guardKeeps_over

end Go.Proofs.Ytfaoehpmkhmdhaa

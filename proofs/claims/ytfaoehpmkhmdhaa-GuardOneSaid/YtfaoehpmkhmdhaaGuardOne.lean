/- GuardOne: a variable of one thread has no warning, and its guard keeps all locks: for every trace and every variable. -/
import Derived.Test.YtfaoehpmkhmdhaaRows
import Derived.Test.YtfaoehpmkhmdhaaGdJ
import Derived.Test.YtfaoehpmkhmdhaaTwo
import Derived.Test.YtfaoehpmkhmdhaaRest
import Derived.Test.YtfaoehpmkhmdhaaOpenE
namespace Go.Proofs.Ytfaoehpmkhmdhaa
open Go.ChangeShapes Go.WideShapes Go.ChangeAt Go.RowKit

def isMine (x : Int) (e : Ev) : Bool := decide (e.k > 2) || e.o != x || e.t == 0
theorem mine_ok {l : List Ev} (hp : (played l).2.2 = 0) (x : Nat) (hx : ∀ e ∈ l, isMine x e = true) : ∀ i, i ≤ l.length →
    ((gdL l i).G x).lk = 31 ∧ (((gdL l i).G x).st = 0 ∨ ((gdL l i).G x).st = 1) ∧ ((gdL l i).G x).th = 0 ∧ ∀ f ∈ (gdL l i).W, f.t ≠ x
  | 0, _ => ⟨rfl, .inl rfl, rfl, fun f hf => by cases hf⟩
  | i + 1, hi => by
    have hE := isEv_iff.2 (ev_at hp (show i < l.length by omega))
    have ho := (isEv_iff.1 hE).2.2.1
    have hm := hx l[i] (List.getElem_mem (show i < l.length by omega))
    rw [← evAt_lt] at hm
    obtain ⟨h1, h2, h3, h4⟩ := mine_ok hp x hx i (by omega)
    have hu : gdL l (i + 1) = gStep (gdL l i) i (evAt l i) := rfl
    rw [hu]
    unfold gStep
    by_cases ha : isAcc (evAt l i) = true
    · rw [if_pos ha]
      show (upG (gdL l i).G (evAt l i).o.toNat (gAcc ((gdL l i).G (evAt l i).o.toNat) (evAt l i) (lkAt l i)) x).lk = 31 ∧ ((upG (gdL l i).G (evAt l i).o.toNat (gAcc ((gdL l i).G (evAt l i).o.toNat) (evAt l i) (lkAt l i)) x).st = 0 ∨ (upG (gdL l i).G (evAt l i).o.toNat (gAcc ((gdL l i).G (evAt l i).o.toNat) (evAt l i) (lkAt l i)) x).st = 1) ∧ (upG (gdL l i).G (evAt l i).o.toNat (gAcc ((gdL l i).G (evAt l i).o.toNat) (evAt l i) (lkAt l i)) x).th = 0 ∧
        ∀ f ∈ (if gWarn (gAcc ((gdL l i).G (evAt l i).o.toNat) (evAt l i) (lkAt l i)) then (gdL l i).W ++ [⟨i, (evAt l i).o, 0⟩] else (gdL l i).W), f.t ≠ x
      by_cases hy : (evAt l i).o = x
      · have hyn : (evAt l i).o.toNat = x := by omega
        have ht : (evAt l i).t = 0 := by
          unfold isMine at hm
          rw [hy] at hm
          have := (acc_iff hE).1 ha
          simp only [bne_self_eq_false, Bool.or_false, Bool.or_eq_true, decide_eq_true_eq, beq_iff_eq] at hm
          rcases hm with h | h
          · exact absurd h this
          · exact h
        rw [hyn]
        have hg : gAcc ((gdL l i).G x) (evAt l i) (lkAt l i) = ⟨1, 0, 31⟩ := by
          generalize (gdL l i).G x = g at *
          obtain ⟨s, th, lk⟩ := g
          simp only at h1 h2 h3
          subst h1 h3
          unfold gAcc
          rcases h2 with rfl | rfl
          · rw [if_pos rfl, ht]
          · rw [if_neg (by show ¬ (1 : Int) = 0; decide), if_pos ⟨rfl, ht.symm⟩]
        rw [hg]
        unfold upG
        rw [if_pos rfl]
        exact ⟨rfl, .inr rfl, rfl, by rw [if_neg (by decide)]; exact h4⟩
      · unfold upG
        rw [if_neg (by omega)]
        refine ⟨h1, h2, h3, fun f hf => ?_⟩
        split at hf
        · rcases List.mem_append.1 hf with h5 | h5
          · exact h4 f h5
          · obtain rfl := List.mem_singleton.1 h5
            exact hy
        · exact h4 f hf
    · rw [if_neg ha]
      exact ⟨h1, h2, h3, h4⟩

set_option maxRecDepth 100000 in
set_option maxHeartbeats 8000000 in
theorem guardOne_walk (a : Option Addr) (z : List Ev) (c : Nat) (xx : Int) (w : World) (hf : EvS w a z ∧ z.length ≤ c ∧ z.length * 24 ≤ 140737488351232 ∧ ∀ e ∈ z, I64 e.k ∧ I64 e.t ∧ I64 e.o) (_ : I64 xx) :
    Calls Try.prog 7 #[.slice a z.length c, .int .i64 xx] w fun e w' => e = .returned (.bool true) ∧ Below w.heap.size w w' := by
  obtain ⟨h, hzc, hz24, h64⟩ := hf
  have hbig := h.big
  obtain ⟨x, hxx, hx8⟩ : ∃ k : Nat, xx % 8 = k ∧ k < 8 := ⟨(xx % 8).toNat, by omega, by omega⟩
  obtain ⟨i0, hi, hz0, hz1, hz2⟩ := info_parts infoE
  go_enter Try.func7, Try.ntmps7
  go_wp2_with fail
  refine (guarded_any _).mono ?_
  rintro r w1 ⟨rfl, hb⟩
  replace h := h.below hb
  go_wp2_with fail
  refine (rest_any xx 8 _ (by omega) (by omega)).mono ?_
  rintro r w3 ⟨rfl, hw⟩
  rw [hw]
  clear hw
  rw [hxx]
  go_wp2
  go_loopw [5, 20] (fun v i wr => ∃ k : Nat, k ≤ z.length ∧ i = .int .i64 k ∧ wr.ownsRow w1.heap.size 39 3 v (fK (isMine x) z k).length (evL (fK (isMine x) z k)) ∧ Below w1.heap.size w1 wr) (fun _ i _ => z.length - (intOf i).toNat)
  case atStart => exact ⟨0, Nat.zero_le _, rfl, World.ownsRow_nil _ _ _ _, Below.refl _ _⟩
  case round =>
    obtain ⟨k, hk, rfl, hv, hb4⟩ := hrel
    by_cases hlt : k < z.length
    · obtain ⟨b', o', rfl, d0, d1, d2⟩ := (h.below hb4).at hlt
      have y1 := fK_yes (p := isMine x) hlt
      have n1 := fK_no (p := isMine x) hlt
      have l1 := fK_len (isMine x) z k
      generalize z[k] = y at *
      have Y1 := Lib.hid y1
      have N1 := Lib.hid n1
      have hN := Has.new wr (evC y) 39
      have hv1 := hv.alloc (.cells (evC y) 39)
      have hb5 := hb4.alloc hb4.size (.cells (evC y) 39)
      have hs5 := hb4.size
      obtain ⟨yk, yt, yo⟩ := y
      obtain ⟨q1, hq1⟩ : ∃ q, decide (yk > 2) = q := ⟨_, rfl⟩
      obtain ⟨q2, hq2⟩ : ∃ q, (yo != (x : Int)) = q := ⟨_, rfl⟩
      obtain ⟨q3, hq3⟩ : ∃ q, (yt == 0) = q := ⟨_, rfl⟩
      have HIO := Lib.hid (show isMine x ⟨yk, yt, yo⟩ = (q1 || q2 || q3) by rw [← hq1, ← hq2, ← hq3]; rfl)
      have k0 : (0 : Int) ≤ k := by omega
      have k1 : (k : Int) < z.length := by omega
      clear y1 n1 hv hb4
      go_upto_region 8 with fail
      clear d0 d1 d2
      generalize hwx : wr.alloc (.cells (evC ⟨yk, yt, yo⟩) 39) = w4 at *
      have hs4 : w4.heap.size = wr.heap.size + 1 := by rw [← hwx]; simp
      clear hwx
      obtain ⟨x0, x1, x2⟩ : w4.cell? ⟨wr.heap.size, 0, none⟩ = some (.int .i64 yk) ∧ w4.cell? ⟨wr.heap.size, 1, none⟩ = some (.int .i64 yt) ∧ w4.cell? ⟨wr.heap.size, 2, none⟩ = some (.int .i64 yo) := ⟨hN.cell rfl, hN.cell rfl, hN.cell rfl⟩
      go_cut [37] (fun v wz => v = .bool (q1 || q2 || q3) ∧ wz = w4)
      case first =>
        cases q1
        · cases q2
          · go_wp2
            go_meet
            exact ⟨rfl, rfl⟩
          · go_wp2
            go_meet
            exact ⟨rfl, rfl⟩
        · go_wp2
          go_meet
          exact ⟨rfl, rfl⟩
      case rest =>
        obtain ⟨rfl, rfl⟩ := hcut
        clear hq1 hq2 hq3 hs4
        generalize (q1 || q2 || q3) = qq at *
        cases qq
        · have HR1 := Lib.hid (N1.out HIO.out)
          clear Y1 N1 HIO
          go_wp2
          go_roundw
          case rel => exact ⟨k + 1, by omega, by go_num, (by rw [HR1.out]; exact hv1), hb5⟩
          case measure => (simp [intOf]; try omega)
        · have HR1 := Lib.hid (Y1.out HIO.out)
          clear Y1 N1 HIO
          have hT := Has.new wc (evC ⟨yk, yt, yo⟩) 39
          have hb6 := hb5.alloc hb5.size (.cells (evC ⟨yk, yt, yo⟩) 39)
          have hs6 := hb5.size
          go_wp2_with (at_builtin; refine app_list _ rfl (.tmp 38) (.tmp 40) 28 rfl Try.underlying28 hi hz0 hz1 hz2 rfl (by decide) rfl (hv1.alloc _) rfl (news := evL [⟨yk, yt, yo⟩]) ⟨rfl, .inr ⟨_, rfl, fun j u hu => hT.cell_add (by simpa [evL] using hu)⟩⟩ (by intro q hq; simp [evL] at hq; rcases hq with rfl | rfl | rfl <;> rfl) ?c3 ?c4 ?c5 ?_)
          case c3 => unfold maxLen; omega
          case c4 => omega
          case c5 => simp; omega
          intro v6 w6 hAp
          have hb7 := hAp.below (hv1.alloc _) hb6 (by simp; omega)
          have hv6 : w6.ownsRow w1.heap.size 39 3 v6 (fK (isMine x) z (k + 1)).length (evL (fK (isMine x) z (k + 1))) := by
            have := hAp.own
            rw [HR1.out, evL_append _ [_], List.length_append]
            exact this
          clear hAp hT hb6 x0 x1 x2 hN hv1 hb5
          go_wp2
          go_roundw
          case rel => exact ⟨k + 1, by omega, by go_num, hv6, hb7⟩
          case measure => (simp [intOf]; try omega)
    · obtain rfl : k = z.length := by omega
      have l1 := fK_len (isMine x) z z.length
      have hmem : ∀ e ∈ fK (isMine x) z z.length, isMine x e = true := fun e he => fK_mem he
      generalize fK (isMine x) z z.length = M at *
      have hex : ∃ a2 c2, u5 = .slice a2 M.length c2 ∧ EvS wr a2 M := by
        obtain ⟨a, c, h1, h2, _⟩ := evS_own hv (by omega)
        exact ⟨a, c, h1, h2⟩
      obtain ⟨a3, c3, rfl, hA⟩ := hex
      replace hb := hb.trans (hb4.mono hb.size)
      clear hv hb4 h
      obtain ⟨Z, hZ⟩ : ∃ Z, gsC (gEnd M) = Z := ⟨_, rfl⟩
      have hZs : Z.size = 24 := by rw [← hZ]; exact gsC_size _
      have hZ1 : Z.all (·.oneCell') = true := by rw [← hZ]; exact gsC_one _
      have hsz : (Try.prog.info? gsT).map (·.size) = some Z.size := by rw [hZs]; kernel_rfl
      have HZ := Lib.hid hZ
      have hWs : gWs M = (if (played M).2.2 = 0 then (gdL M M.length).W else []) := rfl
      have HWS := Lib.hid hWs
      have hWl := gWs_len M
      clear hZ hWs
      generalize hE : (played M).2.2 = E at *
      have HE := Lib.hid hE
      have HWA := Lib.hid (show ∀ w, EvS w a3 M → Calls Try.prog 18 #[.slice a3 M.length c3] w fun r w' => ∃ a' c', r = .returned (.tuple #[.slice a' (gWs M).length c', .int .i64 E]) ∧ EvS w' a' (gWs M) ∧ Below w.heap.size w w' from fun w hw => (warns_any M a3 c3 w hw).mono fun r w' ⟨a', c', e, h1, _, h2⟩ => ⟨a', c', by rw [← hE]; exact e, h1, h2⟩)
      have HGA := Lib.hid (show ∀ w, EvS w a3 M → Calls Try.prog 21 #[.slice a3 M.length c3] w fun r w' => r = .returned (.tuple #[.agg Z, .int .i64 E]) ∧ Below w.heap.size w w' from fun w hw => by
        have := guards_any M a3 c3 w hw
        rwa [HZ.out, hE] at this)
      clear hE
      generalize gWs M = Q at *
      go_wp2_with fail
      refine (HWA.out _ hA).mono ?_
      rintro r w5 ⟨a5, c5, rfl, hQS, hk5⟩
      replace hb := hb.trans (hk5.mono hb.size)
      replace hA := hA.below hk5
      clear hk5
      go_wp2_with fail
      refine (HGA.out _ hA).mono ?_
      rintro r w6 ⟨rfl, hk6⟩
      have hs5 := hb.size
      have hs6 := hk6.size
      replace hb := hb.trans (hk6.mono hb.size)
      replace hA := hA.below hk6
      replace hQS := hQS.below hk6
      clear hk6
      by_cases e1 : E = 0
      · subst e1
        have hg : gEnd M = (gdL M M.length).G := by unfold gEnd; rw [if_pos HE.out]
        have hq : Q = (gdL M M.length).W := by rw [HWS.out, if_pos rfl]
        obtain ⟨g1, g2, g3, g4⟩ := mine_ok HE.out x hmem M.length (Nat.le_refl _)
        rw [← hg] at g1 g2 g3
        rw [← hq] at g4
        have G1 := Lib.hid g1
        have G2 := Lib.hid g2
        have G3 := Lib.hid g3
        have G4 := Lib.hid g4
        clear hg hq g1 g2 g3 g4 hmem
        have x0 : (0 : Int) ≤ x := by omega
        have x8 : (x : Int) < 8 := by omega
        go_wp2_with (
          (refine wpList_store_row rfl gsT _ _ rfl w6.heap.size Z rfl rfl gsT _ (Has.new w6 (gsC fun _ => gZero) gsT).out hsz (by rw [hZs]; exact gsC_size _) hZ1 ?_
           generalize hW2 : World.setRow _ w6.heap.size Z = W2
           have hk7 : Below w6.heap.size w6 W2 := by rw [← hW2]; exact below_setRow ((Below.refl w6.heap.size w6).alloc (Nat.le_refl _) (.cells (gsC fun _ => gZero) gsT)) (Nat.le_refl _) Z
           have hN : Has W2 w6.heap.size Z gsT := by rw [← hW2]; exact (Has.new w6 (gsC fun _ => gZero) gsT).setRow
           have hQ7 := hQS.below hk7
           have hb7 := hb.trans (hk7.mono hb.size)
           clear hW2 hk7))
        generalize w6.heap.size = BG at *
        have hbR := Below.refl W2.heap.size W2
        go_loopw [69] (fun i wr => ∃ m : Nat, m ≤ Q.length ∧ i = .int .i64 m ∧ Has wr BG Z gsT ∧ Below w.heap.size w wr ∧ Below W2.heap.size W2 wr) (fun i _ => Q.length - (intOf i).toNat)
        case atStart => exact ⟨0, Nat.zero_le _, rfl, hN, hb7, hbR⟩
        case round =>
          clear hN hb7 hbR
          obtain ⟨m, hm, rfl, hN, hb8, hb9⟩ := hrel
          by_cases hlt : m < Q.length
          · obtain ⟨b1, o1, rfl, e0, e1, e2⟩ := (hQ7.below hb9).at hlt
            have hne := G4.out _ (List.getElem_mem hlt)
            generalize Q[m] = y at *
            have r1 : (y.t == (x : Int)) = false := beq_eq_false_iff_ne.2 hne
            have hN2 := hN.alloc (.cells (evC y) 36)
            have hb10 := hb8.alloc hb8.size (.cells (evC y) 36)
            have hb11 := hb9.alloc hb9.size (.cells (evC y) 36)
            have m0 : (0 : Int) ≤ m := by omega
            have m1 : (m : Int) < Q.length := by omega
            clear hne hN hb8 hb9
            go_wp2
            go_roundw
            case rel => exact ⟨m + 1, by omega, by go_num, hN2, hb10, hb11⟩
            case measure => (simp [intOf]; try omega)
          · obtain rfl : m = Q.length := by omega
            have hN3 := hN.to HZ.out.symm
            have c0 := hN3.addI (show x * 3 < 24 by omega)
            have c1 := hN3.addI (show x * 3 + 1 < 24 by omega)
            have c2 := hN3.addI (show x * 3 + 2 < 24 by omega)
            rw [gI_0] at c0
            rw [gI_1, G3.out] at c1
            rw [gI_2, G1.out] at c2
            clear hN3 hN
            rcases G2.out with g2 | g2
            all_goals (rw [g2] at c0; clear g2)
            · go_wp2
              go_ret
              exact ⟨rfl, hb8⟩
            · go_wp2
              go_ret
              exact ⟨rfl, hb8⟩
      · have r1 : (E == 0) = false := beq_eq_false_iff_ne.2 e1
        have hmay : mayB M = false := by
          cases hm : mayB M with
          | false => rfl
          | true => exact absurd (show (played M).2.2 = 0 by simpa [mayB] using hm) (by rw [HE.out]; exact e1)
        have r2 : (E != 0) = true := by simp [bne, r1]
        have r3 : (E == E) = true := by simp
        clear e1
        go_wp2_with (
          (refine wpList_store_row rfl gsT _ _ rfl w6.heap.size Z rfl rfl gsT _ (Has.new w6 (gsC fun _ => gZero) gsT).out hsz (by rw [hZs]; exact gsC_size _) hZ1 ?_
           generalize hW2 : World.setRow _ w6.heap.size Z = W2
           have hk7 : Below w6.heap.size w6 W2 := by rw [← hW2]; exact below_setRow ((Below.refl w6.heap.size w6).alloc (Nat.le_refl _) (.cells (gsC fun _ => gZero) gsT)) (Nat.le_refl _) Z
           have hA7 := hA.below hk7
           have hb7 := hb.trans (hk7.mono hb.size)
           clear hW2 hk7))
        refine (may_any M a3 c3 _ hA7).mono ?_
        rintro r w8 ⟨rfl, hk8⟩
        rw [hmay]
        go_wp2
        go_ret
        exact ⟨rfl, hb7.trans (hk8.mono hb7.size)⟩
/-! The frame of the law GuardOne, by program. -/
set_option maxRecDepth 100000 in
theorem guardOne_lifted (os : Os) (started : os.Started) (H : Type) (enc : TypeId × Value → H) :
    ReturnsInHanded {} Try.checked os 7 .any (Rows.guardOneSpec.pre6 enc Try.prog Try.f7 Rows.guardOneRow.domain false) (Rows.guardOneSpec.post enc Try.prog Try.f7 false true false false) := by
  refine returnsInHanded_of_change_shaped (C := Try.checked) frame_own started (by kernel_rfl) Try.func7
    (ChangeSpec.witness6 (enc := enc) (C := Try.checked) false ⟨#[], #[.slice none 0 0, .int .i64 0], []⟩ 8 (by kernel_rfl) (by kernel_rfl) (by kernel_rfl) (by kernel_rfl)) ?_
  intro W base args ds gs before hval0 hW hcnd hsz hshaped hroom
  clear hcnd hshaped
  have hval : ∀ (j : Nat) t v, Try.f7.params[j]? = some t → args[j]? = some v → Value.okWide Try.prog W .any base t v := hval0
  have hW' := hW
  obtain ⟨p, q, hA0, hV, rfl, hfz, hnd⟩ := hW
  have hA : DataW.TrodAll enc Try.prog W 0 (fun _ => true) true Try.f7.params.toList args.toList ds p := hA0
  rw [Try.params7] at hA hval
  obtain ⟨v0, vs0, d0, ds0, p0, q0, hargs, rfl, rfl, h0, r0⟩ := trodAll_cons hA
  obtain ⟨v1, vs1, d1, ds1, p1, q1, rfl, rfl, rfl, h1, r1⟩ := trodAll_cons r0
  obtain ⟨rfl, rfl, rfl⟩ := trodAll_nil r1
  obtain rfl : args = #[v0, v1] := by cases args; simp_all
  obtain ⟨rfl, rfl⟩ := trodVars_none hV
  have k0 := h0
  have lt0 : ∀ x ∈ p0, x.block < W.heap.size := by obtain ⟨m, hm⟩ := k0; exact DataW.trod_lt m _ _ _ hm
  obtain ⟨a0, z0, c0, rfl, w0⟩ := open_evs (hval 0 28 v0 rfl rfl) h0 (fun els sp hd => sized_slice hsz (j := 0) rfl (by rw [hd]; rfl) Try.underlying28)
  have k1 := h1
  have lt1 : ∀ x ∈ p1, x.block < W.heap.size := by obtain ⟨m, hm⟩ := k1; exact DataW.trod_lt m _ _ _ hm
  obtain ⟨a1, rfl, rfl, rfl, w1⟩ := open_int Try.underlying3 (hval 1 3 v1 rfl rfl) h1
  clear hA0 hval0
  refine (guardOne_walk a0 z0 c0 a1 W w0 (wf_i64 w1)).mono fun e W' ⟨he, bel⟩ => ?_
  subst he
  exact ⟨_, rfl, _, _, _, [], _, [], hW', trodAll_mk1 (shut_bool Try.underlying4 _), (trodAll_cons_mk (Below.trod frame_laid (by kernel_rfl) (of_decide_eq_true (by kernel_rfl)) k0 bel lt0) (trodAll_cons_mk (Below.trod frame_laid (by kernel_rfl) (of_decide_eq_true (by kernel_rfl)) k1 bel lt1) trodAll_mk0)), rfl, bel.frame _, fun h => by cases h⟩

theorem guardOne_over : Rows.guardOneRow.holds Try.pinned (OpenSpec.ofChange Rows.guardOneSpec) :=
  OpenClaim.holds_of_wide 7 Try.f7 rfl rfl rfl rfl rfl rfl rfl ⟨rfl, rfl, rfl, rfl, rfl⟩ rfl rfl rfl rfl rfl (by kernel_rfl) Try.func7 (by kernel_rfl)
    (of_decide_eq_true (by kernel_rfl)) (by unfold Func.isWrapper; first | (rw [if_pos (by decide +kernel)]; kernel_rfl) | (rw [if_neg (by decide +kernel)]; exact ⟨rfl, rfl⟩))
    (fun os started H enc _ => guardOne_lifted os started H enc)

/-- The statement. -/
theorem guardOne_holds : Rows.GuardOneSaid := guardOne_over

end Go.Proofs.Ytfaoehpmkhmdhaa

/- ProgFront: earlier events do not depend on later picks, and a stuck program does nothing more: for every program, every slice of picks and every number. -/
import Derived.Test.YtjlddapkgmboeaaRows
import Derived.Test.YtjlddapkgmboeaaPgI
import Derived.Test.YtjlddapkgmboeaaPgQ
import Derived.Test.YtjlddapkgmboeaaEqE
import Derived.Test.YtjlddapkgmboeaaRest
import Derived.Test.YtjlddapkgmboeaaOpenE
import Derived.Test.YtjlddapkgmboeaaOpenI
namespace Go.Proofs.Ytjlddapkgmboeaa
open Go.ChangeShapes Go.WideShapes Go.ChangeAt Go.RowKit

theorem IntS.takeN {w : World} {a : Option Addr} {l : List Int} (h : IntS w a l) (n : Nat) : IntS w a (l.take n) := by
  refine ⟨by have := h.big; simp; omega, ?_⟩
  rcases h.ok with h0 | ⟨b, o, ha, hc⟩
  · left; simp [h0]
  · right
    refine ⟨b, o, ha, fun i hi => ?_⟩
    rw [List.getElem_take]
    exact hc i (by simp at hi; omega)
theorem run_n (p : List (List Ev)) (picks : List Int) (n : Nat) (hn : picks.length = n) (a ap : Option Addr) (c cp : Nat) (w : World) (h : PgS w a p) (hq : IntS w ap picks) :
    Calls Try.prog 14 #[.slice a p.length c, .slice ap n cp] w (RunPost p picks w) := by
  subst hn; exact run_any p picks a ap c cp w h hq
theorem errR_ok {p : List (List Ev)} {n : Nat} (h : errR p n = 0) : chkP p = 0 ∧ n ≤ 100 := by
  unfold errR at h
  by_cases c : chkP p = 0
  · rw [if_pos c] at h
    refine ⟨c, ?_⟩
    split at h
    · cases h
    · omega
  · rw [if_neg c] at h; exact absurd h c
theorem errR_le {p : List (List Ev)} {n k : Nat} (h : errR p n = 0) (hk : k ≤ n) : errR p k = 0 := by
  obtain ⟨h1, h2⟩ := errR_ok h
  unfold errR
  rw [if_pos h1, if_neg (by omega)]
/-- The picks' front: its events are the first events; done or stuck, it is all. -/
theorem runP_take (p : List (List Ev)) (l : List Int) (k : Nat) : ∃ m, (runP p l).2 = (runP p (l.take k)).2 ++ m := by
  have := fold_ext p (l.drop k) (runP p (l.take k))
  rw [← runP_append, List.take_append_drop] at this
  exact this

set_option maxRecDepth 100000 in
set_option maxHeartbeats 8000000 in
theorem progFront_walk (a : Option Addr) (p : List (List Ev)) (c : Nat) (ap : Option Addr) (l : List Int) (cp : Nat) (n : Int) (w : World) (hp : PgS w a p ∧ (p.length ≤ c ∧ p.length * 24 ≤ 140737488351232) ∧ ∀ z ∈ p, ∀ e ∈ z, I64 e.k ∧ I64 e.t ∧ I64 e.o) (hl : IntS w ap l ∧ l.length ≤ cp ∧ l.length * 8 ≤ 140737488351232 ∧ ∀ n ∈ l, I64 n) (_ : I64 n) :
    Calls Try.prog 4 #[.slice a p.length c, .slice ap l.length cp, .int .i64 n] w fun e w' => e = .returned (.bool true) ∧ Below w.heap.size w w' := by
  have h := hp.1
  have hq := hl.1
  have hbig := hq.big
  have hlc := hl.2.1
  have q0 := Int.emod_nonneg n (show (l.length : Int) + 1 ≠ 0 by omega)
  have q1 := Int.emod_lt_of_pos n (show 0 < (l.length : Int) + 1 by omega)
  obtain ⟨k, hk⟩ := Int.eq_ofNat_of_zero_le q0
  have hkz : k ≤ l.length := by omega
  have HK := Lib.hid hk
  have HT := Lib.hid (show (l.take k).length = k by simp; omega)
  have hkz2 : (k : Int) ≤ l.length := by omega
  have hkc : (k : Int) ≤ cp := by omega
  clear hp hl hk q0 q1
  go_enter Try.func4, Try.ntmps4
  go_wp2_with fail
  refine (ran_any _).mono ?_
  rintro r w1 ⟨rfl, hb1⟩
  go_wp2_with fail
  refine (rest_any n ((l.length : Int) + 1) _ (by omega) (by omega)).mono ?_
  rintro r w1' ⟨rfl, rfl⟩
  rw [HK.out]
  go_wp2_with fail
  refine (run_any p l a ap c cp _ (h.below hb1) (hq.below hb1)).mono ?_
  rintro r w2 ⟨a2, c2, hc2, rfl, hL, hk⟩
  have hb2 := hb1.trans (hk.mono hb1.size)
  have HS := Lib.hid (endR_size p l)
  have H1 := Lib.hid (endR_one p l)
  obtain ⟨Y, hY⟩ : ∃ Y, endR p l = Y := ⟨_, rfl⟩
  rw [hY] at HS H1 ⊢
  have HY := Lib.hid hY
  have hs2 := hb2.size
  clear hY hk hb1
  go_wp2_with (refine wpList_store_row rfl endT _ _ rfl w2.heap.size Y rfl rfl endT _ ((Has.new w2 (endC PS.zero false false) endT)).out (by rw [HS.out]; rfl) (by rw [HS.out, endC_size]) H1.out ?_
               generalize hWx : World.setRow _ _ _ = W3
               have hZ3 : Has W3 w2.heap.size Y endT := by rw [← hWx]; exact (Has.new w2 (endC PS.zero false false) endT).setRow
               have hk3 : Below w2.heap.size w2 W3 := by rw [← hWx]; exact below_setRow ((Below.refl _ _).alloc (Nat.le_refl _) _) (Nat.le_refl _)
               have hb3 := hb2.trans (hk3.mono hb2.size)
               clear hWx)
  have hL3 := hL.below (hk3.mono (Nat.le_refl _))
  have hs3 := hb3.size
  clear hb2 hk3 hL
  refine (run_n p (l.take k) k HT.out a ap c cp _ (h.below hb3) ((hq.below hb3).takeN k)).mono ?_
  rintro r w4 ⟨a4, c4, _, rfl, hM, hk⟩
  have hb4 := hb3.trans (hk.mono hs3)
  have hZ4 := hZ3.below hk hZ3.lt
  have hL4 := hL3.below hk
  have HS' := Lib.hid (endR_size p (l.take k))
  have H1' := Lib.hid (endR_one p (l.take k))
  obtain ⟨Y', hY'⟩ : ∃ Y', endR p (l.take k) = Y' := ⟨_, rfl⟩
  rw [HT.out]
  rw [hY'] at HS' H1' ⊢
  have HY' := Lib.hid hY'
  clear hY' hk hb3 hZ3 hL3 hs2 hs3
  by_cases he : errR p l.length = 0
  · have he' : errR p k = 0 := errR_le he hkz
    obtain ⟨hX, hl100⟩ := errR_ok he
    have hO := chkP_ok hX
    have hV : evR p l = (runP p l).2 := by unfold evR; rw [if_pos he]
    have hV' : evR p (l.take k) = (runP p (l.take k)).2 := by unfold evR; rw [if_pos (by rw [HT.out]; exact he')]
    have hE : Y = endC (runP p l).1 (doneB p (runP p l).1) (stuckB p (runP p l).1) := by rw [← HY.out]; unfold endR; rw [if_pos he]
    have hE' : Y' = endC (runP p (l.take k)).1 (doneB p (runP p (l.take k)).1) (stuckB p (runP p (l.take k)).1) := by rw [← HY'.out]; unfold endR; rw [if_pos (by rw [HT.out]; exact he')]
    obtain ⟨m, hm⟩ := runP_take p l k
    rw [← hV, ← hV'] at hm
    have hfr := fun hh => runP_front (p := p) (a := l.take k) (b := l.drop k) hh
    rw [List.take_append_drop] at hfr
    have hsame : doneB p (runP p (l.take k)).1 = true ∨ stuckB p (runP p (l.take k)).1 = true → Y = Y' ∧ evR p l = evR p (l.take k) := by
      intro hh
      rw [hE, hE', hV, hV', hfr hh]
      exact ⟨rfl, rfl⟩
    have d18 : Y'[18]? = some (.bool (doneB p (runP p (l.take k)).1)) := by rw [hE', endC_get _ _ _ (by omega)]; rfl
    have d19 : Y'[19]? = some (.bool (stuckB p (runP p (l.take k)).1)) := by rw [hE', endC_get _ _ _ (by omega)]; rfl
    have hEQ : ∀ w, (binOp .eql endT (.agg Y') (.agg Y')).run Try.prog w = .ok (.bool true) w := by
      intro w; rw [← HY'.out]; exact eql_endR p (l.take k) w
    have hpre : (evR p l).take (evR p (l.take k)).length = evR p (l.take k) := by rw [hm]; simp
    have hlen : (evR p (l.take k)).length ≤ (evR p l).length := by rw [hm]; simp
    have HSAME := Lib.hid hsame
    have HPRE := Lib.hid hpre
    have D18 := Lib.hid d18
    have D19 := Lib.hid d19
    have HEQ := Lib.hid hEQ
    rw [he, he']
    clear hsame hpre d18 d19 hEQ hfr hE hE' hV hV' hm hO hX he he'
    generalize doneB p (runP p (l.take k)).1 = D at *
    generalize stuckB p (runP p (l.take k)).1 = Q at *
    generalize evR p l = L at *
    generalize evR p (l.take k) = M at *
    have hlb := hL4.big
    have hg1 : decide ((M.length : Int) > L.length) = false := decide_eq_false (by omega)
    have hg2 : decide ((L.length : Int) < M.length) = false := hg1
    have hg3 : decide (L.length < M.length) = false := decide_eq_false (by omega)
    have hln : (M.length : Int) ≤ L.length := by omega
    have hlc2 : (M.length : Int) ≤ c2 := by omega
    have HLC : Hid (M.length = (L.take M.length).length) := Lib.hid (by simp; omega)
    go_wp2_with (refine wpList_store_row rfl endT _ _ rfl w4.heap.size Y' rfl rfl endT _ ((Has.new w4 (endC PS.zero false false) endT)).out (by rw [HS'.out]; rfl) (by rw [HS'.out, endC_size]) H1'.out ?_
                 generalize hWx : World.setRow _ _ _ = W5
                 have hZ5 : Has W5 w4.heap.size Y' endT := by rw [← hWx]; exact (Has.new w4 (endC PS.zero false false) endT).setRow
                 have hk5 : Below w4.heap.size w4 W5 := by rw [← hWx]; exact below_setRow ((Below.refl _ _).alloc (Nat.le_refl _) _) (Nat.le_refl _)
                 have hb5 := hb4.trans (hk5.mono hb4.size)
                 clear hWx)
    have hL5 := hL4.below (hk5.mono (Nat.le_refl _))
    have hM5 := hM.below (hk5.mono (Nat.le_refl _))
    have hZ1 := hZ4.below hk5 hZ4.lt
    have hcall := eqEv_any M (L.take M.length) a4 a2 c4 c2 W5 hM5 (hL5.take _)
    rw [← HLC.out, HPRE.out] at hcall
    refine hcall.mono ?_
    rintro r w6 ⟨rfl, hk6⟩
    rw [show eqB M M = true from eqB_iff.2 rfl]
    have hZ6 := hZ5.below hk6 hZ5.lt
    have hZ7 := hZ1.below hk6 hZ1.lt
    have hb6 := hb5.trans (hk6.mono hb5.size)
    have x18 : w6.cell? ⟨w4.heap.size, 18, none⟩ = some (.bool D) := hZ6.cell D18.out
    have x19 : w6.cell? ⟨w4.heap.size, 19, none⟩ = some (.bool Q) := hZ6.cell D19.out
    clear hcall hk6 hk5 hZ5 hZ4 hZ1 hb5 hL5 hM5 hL4 hM hb4
    by_cases hdq : D = true ∨ Q = true
    · obtain ⟨e1, e2⟩ := HSAME.out hdq
      subst e1 e2
      have hx3 := HEQ.out
      cases D
      · obtain rfl : Q = true := by simpa using hdq
        clear hdq
        go_wp2_with (first
          | (refine wpList_yes rfl (fun K hK => ?_); refine wp_load_row endT _ rfl w4.heap.size rfl endT Y (0, 0) _ hZ6.out Try.underlying30 rfl (by rw [HS.out]; rfl) ?_; refine hK _ _ ?_; clear hK K)
          | (refine wpList_yes rfl (fun K hK => ?_); refine wp_load_row endT _ rfl w2.heap.size rfl endT Y (0, 0) _ hZ7.out Try.underlying30 rfl (by rw [HS.out]; rfl) ?_; refine hK _ _ ?_; clear hK K))
        go_ret
        exact ⟨rfl, hb6⟩
      · clear hdq
        go_wp2_with (first
          | (refine wpList_yes rfl (fun K hK => ?_); refine wp_load_row endT _ rfl w4.heap.size rfl endT Y (0, 0) _ hZ6.out Try.underlying30 rfl (by rw [HS.out]; rfl) ?_; refine hK _ _ ?_; clear hK K)
          | (refine wpList_yes rfl (fun K hK => ?_); refine wp_load_row endT _ rfl w2.heap.size rfl endT Y (0, 0) _ hZ7.out Try.underlying30 rfl (by rw [HS.out]; rfl) ?_; refine hK _ _ ?_; clear hK K))
        go_ret
        exact ⟨rfl, hb6⟩
    · obtain ⟨rfl, rfl⟩ : D = false ∧ Q = false := by revert hdq; cases D <;> cases Q <;> simp
      clear hdq
      go_wp2
      go_ret
      exact ⟨rfl, hb6⟩
  · have hV : evR p l = [] := by unfold evR; rw [if_neg he]
    rw [hV]
    have r1 : (errR p l.length == 0) = false := beq_eq_false_iff_ne.2 he
    have r2 : (errR p l.length != 0) = true := by simp [bne, r1]
    generalize errR p l.length = X at *
    clear hV he
    go_wp2_with (refine wpList_store_row rfl endT _ _ rfl w4.heap.size Y' rfl rfl endT _ ((Has.new w4 (endC PS.zero false false) endT)).out (by rw [HS'.out]; rfl) (by rw [HS'.out, endC_size]) H1'.out ?_
                 generalize hWx : World.setRow _ _ _ = W5
                 have hZ5 : Has W5 w4.heap.size Y' endT := by rw [← hWx]; exact (Has.new w4 (endC PS.zero false false) endT).setRow
                 have hk5 : Below w4.heap.size w4 W5 := by rw [← hWx]; exact below_setRow ((Below.refl _ _).alloc (Nat.le_refl _) _) (Nat.le_refl _)
                 have hb5 := hb4.trans (hk5.mono hb4.size)
                 clear hWx)
    go_ret
    exact ⟨rfl, hb5⟩

/-! The frame of the law ProgFront, by program. -/
set_option maxRecDepth 100000 in
theorem progFront_lifted (os : Os) (started : os.Started) (H : Type) (enc : TypeId × Value → H) :
    ReturnsInHanded {} Try.checked os 4 .any (Rows.progFrontSpec.pre6 enc Try.prog Try.f4 Rows.progFrontRow.domain false) (Rows.progFrontSpec.post enc Try.prog Try.f4 false true false false) := by
  refine returnsInHanded_of_change_shaped (C := Try.checked) frame_own started (by kernel_rfl) Try.func4
    (ChangeSpec.witness6 (enc := enc) (C := Try.checked) false ⟨#[], #[.slice none 0 0, .slice none 0 0, .int .i64 0], []⟩ 8 (by kernel_rfl) (by kernel_rfl) (by kernel_rfl) (by kernel_rfl)) ?_
  intro W base args ds gs before hval0 hW hcnd hsz hshaped hroom
  clear hcnd hshaped
  have hval : ∀ (j : Nat) t v, Try.f4.params[j]? = some t → args[j]? = some v → Value.okWide Try.prog W .any base t v := hval0
  have hW' := hW
  obtain ⟨p, q, hA0, hV, rfl, hfz, hnd⟩ := hW
  have hA : DataW.TrodAll enc Try.prog W 0 (fun _ => true) true Try.f4.params.toList args.toList ds p := hA0
  rw [Try.params4] at hA hval
  obtain ⟨v0, vs0, d0, ds0, p0, q0, hargs, rfl, rfl, h0, r0⟩ := trodAll_cons hA
  obtain ⟨v1, vs1, d1, ds1, p1, q1, rfl, rfl, rfl, h1, r1⟩ := trodAll_cons r0
  obtain ⟨v2, vs2, d2, ds2, p2, q2, rfl, rfl, rfl, h2, r2⟩ := trodAll_cons r1
  obtain ⟨rfl, rfl, rfl⟩ := trodAll_nil r2
  obtain rfl : args = #[v0, v1, v2] := by cases args; simp_all
  obtain ⟨rfl, rfl⟩ := trodVars_none hV
  have k0 := h0
  have lt0 : ∀ x ∈ p0, x.block < W.heap.size := by obtain ⟨m, hm⟩ := k0; exact DataW.trod_lt m _ _ _ hm
  obtain ⟨a0, z0, c0, rfl, w0⟩ := open_prog (hval 0 22 v0 rfl rfl) h0 (fun n hn => of_decide_eq_true (List.all_eq_true.1 hsz _ (DataW.weights_mem_each (j := 0) rfl rfl n hn)))
  have k1 := h1
  have lt1 : ∀ x ∈ p1, x.block < W.heap.size := by obtain ⟨m, hm⟩ := k1; exact DataW.trod_lt m _ _ _ hm
  obtain ⟨a1, z1, c1, rfl, w1⟩ := open_ints (hval 1 23 v1 rfl rfl) h1 (fun els sp hd => sized_slice hsz (j := 1) rfl (by rw [hd]; rfl) Try.underlying23)
  have k2 := h2
  have lt2 : ∀ x ∈ p2, x.block < W.heap.size := by obtain ⟨m, hm⟩ := k2; exact DataW.trod_lt m _ _ _ hm
  obtain ⟨a2, rfl, rfl, rfl, w2⟩ := open_int Try.underlying3 (hval 2 3 v2 rfl rfl) h2
  clear hA0 hval0
  refine (progFront_walk a0 z0 c0 a1 z1 c1 a2 W w0 w1 (wf_i64 w2)).mono fun e W' ⟨he, bel⟩ => ?_
  subst he
  exact ⟨_, rfl, _, _, _, [], _, [], hW', trodAll_mk1 (shut_bool Try.underlying4 _), (trodAll_cons_mk (Below.trod frame_laid (by kernel_rfl) (of_decide_eq_true (by kernel_rfl)) k0 bel lt0) (trodAll_cons_mk (Below.trod frame_laid (by kernel_rfl) (of_decide_eq_true (by kernel_rfl)) k1 bel lt1) (trodAll_cons_mk (Below.trod frame_laid (by kernel_rfl) (of_decide_eq_true (by kernel_rfl)) k2 bel lt2) trodAll_mk0))), rfl, bel.frame _, fun h => by cases h⟩

theorem progFront_over : Rows.progFrontRow.holds Try.pinned (OpenSpec.ofChange Rows.progFrontSpec) :=
  OpenClaim.holds_of_wide 4 Try.f4 rfl rfl rfl rfl rfl rfl rfl ⟨rfl, rfl, rfl, rfl, rfl⟩ rfl rfl rfl rfl rfl (by kernel_rfl) Try.func4 (by kernel_rfl)
    (of_decide_eq_true (by kernel_rfl)) (by unfold Func.isWrapper; first | (rw [if_pos (by decide +kernel)]; kernel_rfl) | (rw [if_neg (by decide +kernel)]; exact ⟨rfl, rfl⟩))
    (fun os started H enc _ => progFront_lifted os started H enc)

/-- The statement. -/
theorem progFront_holds : Rows.ProgFrontSaid := progFront_over

end Go.Proofs.Ytjlddapkgmboeaa

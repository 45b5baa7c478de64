/- Contract of Can. -/
import Derived.Test.YtoohconipcleiaaME
namespace Go.Proofs.Ytoohconipcleiaa
open Go.RowKit

theorem canB_yes {p : List (List Ev)} {s : PS} {n : Nat} (hn : nextB p s n = true) : canB p s n = (if (opN p s n).k = 4 then s.owner (opN p s n).t.toNat == 0
    else if (opN p s n).k = 7 then decide ((opN p s n).t < p.length) && !((opN p s n).t == n) && s.begun (opN p s n).t.toNat && (s.at_ (opN p s n).t.toNat == plen p (opN p s n).t.toNat) else true) := by
  unfold canB
  rw [hn, Bool.true_and]
  rfl
set_option maxRecDepth 100000 in
set_option maxHeartbeats 8000000 in
theorem can_any (p : List (List Ev)) (s : PS) (t : Int) (a : Option Addr) (c b : Nat) (R : List Value) (T : TypeId) (w : World) (h : PgS w a p) (hs : Has w b (psR s R) T) (hp : OkP p) (hI : IP p s) :
    Calls Try.prog 46 #[.pointer (some ⟨b, 0, none⟩), .slice a p.length c, .int .i64 t] w fun r w' => r = .returned (.bool (canB p s t)) ∧ Below w.heap.size w w' := by
  have h6 := hp.six
  cases hn : nextB p s t
  · have HC := Lib.hid (show canB p s t = false by unfold canB; rw [hn]; rfl)
    go_enter Try.func46, Try.ntmps46
    go_wp2_with fail
    refine (next_no p s t a c b R T w h hs h6 hn).mono ?_
    rintro r w1 ⟨rfl, hb⟩
    clear hn h hs hp hI
    go_wp2
    go_ret
    rw [HC.out]
    exact ⟨rfl, hb⟩
  · obtain ⟨t0, t1, t2, _⟩ := nextB_iff.1 hn
    obtain ⟨n, rfl⟩ : ∃ n : Nat, t = n := ⟨t.toNat, by omega⟩
    have hat := nextB_at hI hn
    have hbad := nextB_op hp hI hn
    rw [Int.toNat_natCast] at t2 hat hbad
    obtain ⟨o0, oM, _⟩ := bad_iff.1 hbad
    have hcan := canB_yes hn
    have hl : n < p.length := by omega
    have hY := next_yes p s n a c b R T w w h (Below.refl _ _) hs h6 hl t2 hat
    obtain ⟨pb, po, a1, k1, rfl, _, _⟩ := h.at hl
    have HP := Lib.hid hp
    have HI := Lib.hid hI
    clear hn hat hbad t0 t1 hp hI t2
    generalize opN p s n = x at *
    obtain ⟨xk, xt, xo⟩ := x
    simp only at o0 oM hcan
    obtain ⟨m, rfl⟩ : ∃ m : Nat, xt = m := ⟨xt.toNat, by omega⟩
    rw [Int.toNat_natCast] at hcan
    by_cases k4 : xk = 4
    · subst k4
      rw [if_pos rfl] at hcan
      have m5 : (m : Int) < 5 := oM
      obtain ⟨q1, r1⟩ : ∃ q, (s.owner m == 0) = q := ⟨_, rfl⟩
      rw [r1] at hcan
      have HC := Lib.hid hcan
      clear hcan oM
      go_enter Try.func46, Try.ntmps46
      go_wp2_with fail
      refine hY.mono ?_
      rintro r w1 ⟨g, q, rfl, hC, hb⟩
      obtain ⟨e0, e1, _⟩ := hC.below hb
      have c1 := ps_owner (hs.below hb hs.lt) (t := m) (by omega)
      generalize s.owner m = A at *
      clear hY h hs hC HP HI
      have m0 : (0 : Int) ≤ m := by omega
      go_upto_region 5 with fail
      refine wp_region_quiet_lit (by kernel_rfl) (by kernel_rfl) ?_
      repeat (with_reducible refine wpQuiet_step (fun K hK => ?_); go_simp; with_reducible refine hK _ ?_; clear hK K)
      with_reducible refine wpQuiet_nil ?_
      rintro _ ⟨nq5, rfl⟩
      go_wp2
      go_ret
      rw [HC.out]
      exact ⟨rfl, below_drewN hb _⟩
    · by_cases k7 : xk = 7
      · subst k7
        rw [if_neg (by decide), if_pos rfl] at hcan
        have m6 : (m : Int) < 6 := oM
        have m0 : (0 : Int) ≤ m := by omega
        by_cases d1 : (m : Int) < p.length
        · have d1n : m < p.length := by omega
          have f1 : decide ((m : Int) < p.length) = true := decide_eq_true d1
          have f1n : decide (m < p.length) = true := decide_eq_true d1n
          rw [f1, Bool.true_and] at hcan
          have hpl : plen p m = p[m].length := by unfold plen; simp [d1n]
          rw [hpl] at hcan
          obtain ⟨q2, r2⟩ : ∃ q, ((m : Int) == (n : Int)) = q := ⟨_, rfl⟩
          have r2b : ((m : Int) != (n : Int)) = !q2 := by rw [← r2]; rfl
          have r2c : decide (m = n) = q2 := by rw [← r2, Bool.eq_iff_iff]; simp; omega
          have r2d : (m == n) = q2 := by rw [← r2, Bool.eq_iff_iff]; simp; omega
          rw [r2] at hcan
          obtain ⟨q4, r4⟩ : ∃ q, (s.at_ m == p[m].length) = q := ⟨_, rfl⟩
          have r4b : ((s.at_ m : Int) == (p[m].length : Int)) = q4 := by rw [← r4, Bool.eq_iff_iff]; simp; omega
          have r4c : decide (s.at_ m = p[m].length) = q4 := by rw [← r4, Bool.eq_iff_iff]; simp
          rw [r4] at hcan
          have HC := Lib.hid hcan
          clear hcan oM hpl
          go_enter Try.func46, Try.ntmps46
          go_wp2_with fail
          refine hY.mono ?_
          rintro r w1 ⟨g, q, rfl, hC, hb⟩
          obtain ⟨e0, e1, _⟩ := hC.below hb
          have hs1 := hs.below hb hs.lt
          have c1 := ps_begun hs1 (t := m) (by omega)
          have c2 := ps_at hs1 (t := m) (by omega)
          obtain ⟨pb', po', a2, k2, hpe, d2, _⟩ := (h.below hb).at d1n
          cases hpe
          generalize s.begun m = q3 at *
          generalize s.at_ m = A at *
          generalize p[m] = z at *
          clear hY h hs hC HP HI hs1
          cases q2
          · cases q3
            · go_upto_region 7 with fail
              refine wp_region_quiet_lit (by kernel_rfl) (by kernel_rfl) ?_
              repeat (with_reducible refine wpQuiet_step (fun K hK => ?_); go_simp; with_reducible refine hK _ ?_; clear hK K)
              with_reducible refine wpQuiet_nil ?_
              rintro _ ⟨nq7, rfl⟩
              go_wp2
              go_ret
              rw [HC.out]
              exact ⟨rfl, below_drewN hb _⟩
            · go_upto_region 7 with fail
              refine wp_region_quiet_lit (by kernel_rfl) (by kernel_rfl) ?_
              repeat (with_reducible refine wpQuiet_step (fun K hK => ?_); go_simp; with_reducible refine hK _ ?_; clear hK K)
              with_reducible refine wpQuiet_nil ?_
              rintro _ ⟨nq7, rfl⟩
              go_wp2
              go_ret
              rw [HC.out]
              exact ⟨rfl, below_drewN hb _⟩
          · go_upto_region 7 with fail
            refine wp_region_quiet_lit (by kernel_rfl) (by kernel_rfl) ?_
            repeat (with_reducible refine wpQuiet_step (fun K hK => ?_); go_simp; with_reducible refine hK _ ?_; clear hK K)
            with_reducible refine wpQuiet_nil ?_
            rintro _ ⟨nq7, rfl⟩
            go_wp2
            go_ret
            rw [HC.out]
            exact ⟨rfl, below_drewN hb _⟩
        · have f1 : decide ((m : Int) < p.length) = false := decide_eq_false d1
          have f1n : decide (m < p.length) = false := decide_eq_false (by omega)
          rw [f1] at hcan
          have HC := Lib.hid hcan
          clear hcan oM
          go_enter Try.func46, Try.ntmps46
          go_wp2_with fail
          refine hY.mono ?_
          rintro r w1 ⟨g, q, rfl, hC, hb⟩
          obtain ⟨e0, e1, _⟩ := hC.below hb
          clear hY h hs hC HP HI
          go_upto_region 7 with fail
          refine wp_region_quiet_lit (by kernel_rfl) (by kernel_rfl) ?_
          repeat (with_reducible refine wpQuiet_step (fun K hK => ?_); go_simp; with_reducible refine hK _ ?_; clear hK K)
          with_reducible refine wpQuiet_nil ?_
          rintro _ ⟨nq7, rfl⟩
          go_wp2
          go_ret
          rw [HC.out]
          exact ⟨rfl, below_drewN hb _⟩
      · rw [if_neg k4, if_neg k7] at hcan
        have HC := Lib.hid hcan
        have f4 : (xk == 4) = false := beq_eq_false_iff_ne.2 k4
        have f7 : (xk == 7) = false := beq_eq_false_iff_ne.2 k7
        clear hcan oM k4 k7
        go_enter Try.func46, Try.ntmps46
        go_wp2_with fail
        refine hY.mono ?_
        rintro r w1 ⟨g, q, rfl, hC, hb⟩
        obtain ⟨e0, e1, _⟩ := hC.below hb
        clear hY h hs hC HP HI
        go_wp2
        go_ret
        rw [HC.out]
        exact ⟨rfl, hb⟩
end Go.Proofs.Ytoohconipcleiaa

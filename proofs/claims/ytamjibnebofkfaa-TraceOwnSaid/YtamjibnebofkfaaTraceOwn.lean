/- TraceOwn: no lock is held by two threads, and its holder acquired it last: for every trace. -/
import Derived.Test.YtamjibnebofkfaaRows
import Derived.Test.YtamjibnebofkfaaTrE
import Derived.Test.YtamjibnebofkfaaTrQ
import Derived.Test.YtamjibnebofkfaaOwnP
import Derived.Test.YtamjibnebofkfaaOpenE
import Derived.Deep.DeepCutAuto
namespace Go.Proofs.Ytamjibnebofkfaa
open Go.ChangeShapes Go.WideShapes Go.ChangeAt Go.RowKit

theorem EvS.at2 {w : World} {a : Option Addr} {l : List Ev} (h : EvS w a l) {i : Nat} (hi : i < l.length) : ∃ b o, a = some ⟨b, o, none⟩ ∧ w.cell? ⟨b, o + i * 3, none⟩ = some (.int .i64 l[i].k) ∧ w.cell? ⟨b, o + i * 3 + 1, none⟩ = some (.int .i64 l[i].t) ∧ w.cell? ⟨b, o + i * 3 + 2, none⟩ = some (.int .i64 l[i].o) := by
  rcases h.ok with h0 | ⟨b, o, ha, hc⟩
  · simp [h0] at hi
  · exact ⟨b, o, ha, hc i hi⟩
theorem heldV_is {z : List Ev} (he : (played z).2.2 = 0) {n : Nat} (hn : n < 6) : heldV z n = (((setN (ownB (played z).1 n) 5 : Nat) : Int), 0) := by
  unfold heldV
  rw [if_neg (fun h => h he), if_pos (by omega)]
set_option maxRecDepth 100000 in
theorem traceOwn_no (a : Option Addr) (z : List Ev) (c : Nat) (w : World) (h : EvS w a z) (hm : mayB z = false) :
    Calls Try.prog 7 #[.slice a z.length c] w fun e w' => e = .returned (.bool true) ∧ Below w.heap.size w w' := by
  go_enter Try.func7, Try.ntmps7
  go_wp2_with fail
  refine (traced_any _).mono ?_
  rintro r w1 ⟨rfl, hb⟩
  go_wp2_with fail
  refine (may_any z a c _ (h.below hb)).mono ?_
  rintro r w2 ⟨rfl, hk⟩
  rw [hm]
  go_wp2
  go_ret
  exact ⟨rfl, hb.trans (hk.mono hb.size)⟩
set_option maxRecDepth 100000 in
set_option maxHeartbeats 8000000 in
theorem traceOwn_ok (a : Option Addr) (z : List Ev) (c : Nat) (w : World) (h : EvS w a z) (hm : mayB z = true) :
    Calls Try.prog 7 #[.slice a z.length c] w fun e w' => e = .returned (.bool true) ∧ Below w.heap.size w w' := by
  have he : (played z).2.2 = 0 := by simpa [mayB] using hm
  have HM := Lib.hid hm
  have hV := fun (n : Nat) (hn : n < 6) => heldV_is he hn
  have hI := fun (k t : Nat) => own_iff (t := t) he (k := k)
  generalize (played z).1 = s at *
  have HV := Lib.hid hV
  have HI := Lib.hid hI
  have hbig := h.big
  clear he hm hV hI
  go_enter Try.func7, Try.ntmps7
  go_wp2_with fail
  refine (traced_any _).mono ?_
  rintro r w1 ⟨rfl, hb⟩
  go_wp2_with fail
  refine (may_any z a c _ (h.below hb)).mono ?_
  rintro r w2 ⟨rfl, hk⟩
  rw [HM.out]
  replace hb := hb.trans (hk.mono hb.size)
  replace h := h.below hb
  clear hk
  have hb2 := Below.refl w2.heap.size w2
  have h00 := ownU_zero s
  go_wp2
  go_loopw [3, 16] (fun v i wr => ∃ n : Nat, n ≤ 6 ∧ i = .int .i64 n ∧ v = .int .i64 (setN (ownU s n) 5 : Nat) ∧ Below w2.heap.size w2 wr) (fun _ i _ => 6 - (intOf i).toNat)
  case atStart => exact ⟨0, Nat.zero_le _, rfl, by rw [h00]; rfl, hb2⟩
  case round =>
    clear hb2 h00
    obtain ⟨n, hn, rfl, rfl, hb3⟩ := hrel
    by_cases hn6 : n < 6
    · have hnd : decide ((n : Int) < 6) = true := decide_eq_true (by omega)
      go_wp2_with fail
      refine (held_any z a c n _ (h.below hb3)).mono ?_
      rintro r w4 ⟨rfl, hk⟩
      rw [HV.out n hn6]
      replace hb3 := hb3.trans (hk.mono hb3.size)
      have hap := held_apart s n
      have hmo := held_more s n
      have hsb : ∀ k, k < 5 → (bits BinOp.and .i64 (((setN (ownB s n) 5 : Nat) : Int) / 2 ^ k) 1 == 1) = ownB s n k := fun k hk => set_bit5 _ hk
      have HSB := Lib.hid hsb
      have hul := setN_lt (ownU s n) 5
      have hol := setN_lt (ownB s n) 5
      have hul2 := setN_lt (ownU s (n + 1)) 5
      clear hk hsb
      generalize hU2 : setN (ownU s (n + 1)) 5 = U2 at *
      have HU2 := Lib.hid hU2
      clear hU2
      generalize setN (ownU s n) 5 = U at *
      generalize hO : setN (ownB s n) 5 = O at *
      have HO := Lib.hid hO
      clear hO
      obtain ⟨w4', rfl⟩ : ∃ q : World, q = w4 := ⟨_, rfl⟩
      have hbk := Below.refl w4'.heap.size w4'
      go_wp2
      go_loopw [36] (fun i wr => ∃ k : Nat, k ≤ 5 ∧ i = .int .i64 k ∧ Below w4'.heap.size w4' wr) (fun i _ => 5 - (intOf i).toNat)
      case atStart => exact ⟨0, Nat.zero_le _, rfl, hbk⟩
      case round =>
        clear hbk
        obtain ⟨k, hk, rfl, hbk⟩ := hrel
        by_cases hk5 : k < 5
        · have hkd : decide ((k : Int) < 5) = true := decide_eq_true (by omega)
          have hN := Has.new wr (evC ⟨0, 0, 0⟩) 34
          have hbn := hbk.alloc hbk.size (.cells (evC ⟨0, 0, 0⟩) 34)
          have hs4 := hbk.size
          have hs3 := hb3.size
          obtain ⟨wo, rfl⟩ : ∃ wo : World, wo = wr := ⟨_, rfl⟩
          go_wp2
          go_loopw [42] (fun i wr => ∃ j : Nat, j ≤ z.length ∧ i = .int .i64 j ∧ Has wr wo.heap.size (evC (lastOf z k j)) 34 ∧ Below w4'.heap.size w4' wr) (fun i _ => z.length - (intOf i).toNat)
          case atStart => exact ⟨0, Nat.zero_le _, rfl, hN, hbn⟩
          case round =>
            clear hN hbn hbk
            obtain ⟨j, hj, rfl, hN, hbn⟩ := hrel
            by_cases hjl : j < z.length
            · obtain ⟨b', o', rfl, d0, d1, d2⟩ := (h.below (hb3.trans (hbn.mono hb3.size))).at2 hjl
              have hla : lastOf z k (j + 1) = if ofLk k z[j] then z[j] else lastOf z k j := by simp only [lastOf]; rw [evAt_lt hjl]
              generalize z[j] = x at *
              generalize lastOf z k j = y at *
              have hX := Has.new wr (evC x) 34
              have hN2 := hN.alloc (.cells (evC x) 34)
              have hbn2 := hbn.alloc hbn.size (.cells (evC x) 34)
              obtain ⟨q1, r1⟩ : ∃ q, (x.k == 3) = q := ⟨_, rfl⟩
              obtain ⟨q2, r2⟩ : ∃ q, (x.k == 4) = q := ⟨_, rfl⟩
              obtain ⟨q3, r3⟩ : ∃ q, (x.o == (k : Int)) = q := ⟨_, rfl⟩
              have hof : ofLk k x = ((q1 || q2) && q3) := by
                rw [← r1, ← r2, ← r3]
                by_cases e1 : x.k = 3 <;> by_cases e2 : x.k = 4 <;> by_cases e3 : x.o = (k : Int) <;> simp [ofLk, e1, e2, e3]
              rw [hof] at hla
              have HLA := Lib.hid hla
              have hNl := hN.lt
              clear hla hof hN hbn
              go_upto_region 20 with fail
              clear d0 d1 d2
              generalize wr.alloc (.cells (evC x) 34) = w7 at *
              obtain ⟨x0, x1, x2⟩ : w7.cell? ⟨wr.heap.size, 0, none⟩ = some (.int .i64 x.k) ∧ w7.cell? ⟨wr.heap.size, 1, none⟩ = some (.int .i64 x.t) ∧ w7.cell? ⟨wr.heap.size, 2, none⟩ = some (.int .i64 x.o) := ⟨hX.cell rfl, hX.cell rfl, hX.cell rfl⟩
              go_cut [54, 59] (fun p v wz => v = .bool ((q1 || q2) && q3) ∧ wz = w7)
              case first =>
                clear HLA
                cases q1 <;> cases q2 <;> cases q3 <;> (go_wp2; go_meet; exact ⟨rfl, rfl⟩)
              case rest =>
                obtain ⟨rfl, rfl⟩ := hcut
                cases hq : ((q1 || q2) && q3)
                · rw [hq] at HLA
                  go_wp2
                  go_roundw
                  case rel => exact ⟨j + 1, by omega, by go_num, by rw [HLA.out]; exact hN2, hbn2⟩
                  case measure => (simp [intOf]; try omega)
                · rw [hq] at HLA
                  obtain ⟨y0, y1, y2⟩ : wc.cell? ⟨wo.heap.size, 0, none⟩ = some (.int .i64 y.k) ∧ wc.cell? ⟨wo.heap.size, 1, none⟩ = some (.int .i64 y.t) ∧ wc.cell? ⟨wo.heap.size, 2, none⟩ = some (.int .i64 y.o) := ⟨hN2.cell rfl, hN2.cell rfl, hN2.cell rfl⟩
                  have f0 := hN2.free 0
                  have f1 := hN2.free 1
                  have f2 := hN2.free 2
                  have hN3 : Has _ wo.heap.size (evC x) 34 := (((hN2.setCell 0 (.int .i64 x.k)).setCell 1 (.int .i64 x.t)).setCell 2 (.int .i64 x.o)).to (by simp)
                  have hbn3 := ((hbn2.setCell (p := ⟨wo.heap.size, 0, none⟩) (by simp; omega) (.int .i64 x.k)).setCell (p := ⟨wo.heap.size, 1, none⟩) (by simp; omega) (.int .i64 x.t)).setCell (p := ⟨wo.heap.size, 2, none⟩) (by simp; omega) (.int .i64 x.o)
                  go_wp2
                  go_roundw
                  case rel => exact ⟨j + 1, by omega, by go_num, by rw [HLA.out]; exact hN3, hbn3⟩
                  case measure => (simp [intOf]; try omega)
            · obtain rfl : j = z.length := by omega
              have hsb := HSB.out k hk5
              rw [HI.out k n] at hsb
              generalize lastOf z k z.length = y at *
              obtain ⟨q1, r1⟩ : ∃ q, (y.k == 3) = q := ⟨_, rfl⟩
              obtain ⟨q2, r2⟩ : ∃ q, (y.t == (n : Int)) = q := ⟨_, rfl⟩
              have hqq : (decide (y.k = 3) && decide (y.t = (n : Int))) = (q1 && q2) := by
                rw [← r1, ← r2]
                by_cases e1 : y.k = 3 <;> by_cases e2 : y.t = (n : Int) <;> simp [e1, e2]
              rw [hqq] at hsb
              obtain ⟨y0, y1, y2⟩ : wr.cell? ⟨wo.heap.size, 0, none⟩ = some (.int .i64 y.k) ∧ wr.cell? ⟨wo.heap.size, 1, none⟩ = some (.int .i64 y.t) ∧ wr.cell? ⟨wo.heap.size, 2, none⟩ = some (.int .i64 y.o) := ⟨hN.cell rfl, hN.cell rfl, hN.cell rfl⟩
              have k0 : (0 : Int) ≤ k := by omega
              have k64 : (k : Int) < 64 := by omega
              clear hqq HSB HO HI hol hul hul2
              cases q1 <;> cases q2 <;>
              · go_wp2
                go_quiet (fail)
                go_wp2
                go_roundw
                case rel => exact ⟨k + 1, by omega, by go_num, below_drewN hbn _⟩
                case measure => (simp [intOf]; try omega)
        · obtain rfl : k = 5 := by omega
          have hb5 := hb3.trans (hbk.mono hb3.size)
          go_wp2
          go_roundw
          case rel => exact ⟨n + 1, by omega, by go_num, by rw [HU2.out], hb5⟩
          case measure => (simp [intOf]; try omega)
    · obtain rfl : n = 6 := by omega
      go_wp2
      go_ret
      exact ⟨rfl, hb.trans (hb3.mono hb.size)⟩
theorem traceOwn_walk (a : Option Addr) (z : List Ev) (c : Nat) (w : World) (hf : EvS w a z ∧ z.length ≤ c ∧ z.length * 24 ≤ 140737488351232 ∧ ∀ e ∈ z, I64 e.k ∧ I64 e.t ∧ I64 e.o) :
    Calls Try.prog 7 #[.slice a z.length c] w fun e w' => e = .returned (.bool true) ∧ Below w.heap.size w w' := by
  cases hm : mayB z
  · exact traceOwn_no a z c w hf.1 hm
  · exact traceOwn_ok a z c w hf.1 hm
/-! The frame of the law TraceOwn, by program. -/
set_option maxRecDepth 100000 in
theorem traceOwn_lifted (os : Os) (started : os.Started) (H : Type) (enc : TypeId × Value → H) :
    ReturnsInHanded {} Try.checked os 7 .any (Rows.traceOwnSpec.pre6 enc Try.prog Try.f7 Rows.traceOwnRow.domain false) (Rows.traceOwnSpec.post enc Try.prog Try.f7 false true false false) := by
  refine returnsInHanded_of_change_shaped (C := Try.checked) frame_own started (by kernel_rfl) Try.func7
    (ChangeSpec.witness6 (enc := enc) (C := Try.checked) false ⟨#[], #[.slice none 0 0], []⟩ 8 (by kernel_rfl) (by kernel_rfl) (by kernel_rfl) (by kernel_rfl)) ?_
  intro W base args ds gs before hval0 hW hcnd hsz hshaped hroom
  clear hcnd hshaped
  have hval : ∀ (j : Nat) t v, Try.f7.params[j]? = some t → args[j]? = some v → Value.okWide Try.prog W .any base t v := hval0
  have hW' := hW
  obtain ⟨p, q, hA0, hV, rfl, hfz, hnd⟩ := hW
  have hA : DataW.TrodAll enc Try.prog W 0 (fun _ => true) true Try.f7.params.toList args.toList ds p := hA0
  rw [Try.params7] at hA hval
  obtain ⟨v0, vs0, d0, ds0, p0, q0, hargs, rfl, rfl, h0, r0⟩ := trodAll_cons hA
  obtain ⟨rfl, rfl, rfl⟩ := trodAll_nil r0
  obtain rfl : args = #[v0] := by cases args; simp_all
  obtain ⟨rfl, rfl⟩ := trodVars_none hV
  have k0 := h0
  have lt0 : ∀ x ∈ p0, x.block < W.heap.size := by obtain ⟨m, hm⟩ := k0; exact DataW.trod_lt m _ _ _ hm
  obtain ⟨a0, z0, c0, rfl, w0⟩ := open_evs (hval 0 22 v0 rfl rfl) h0 (fun els sp hd => sized_slice hsz (j := 0) rfl (by rw [hd]; rfl) Try.underlying22)
  clear hA0 hval0
  refine (traceOwn_walk a0 z0 c0 W w0).mono fun e W' ⟨he, bel⟩ => ?_
  subst he
  exact ⟨_, rfl, _, _, _, [], _, [], hW', trodAll_mk1 (shut_bool Try.underlying4 _), (trodAll_cons_mk (Below.trod frame_laid (by kernel_rfl) (of_decide_eq_true (by kernel_rfl)) k0 bel lt0) trodAll_mk0), rfl, bel.frame _, fun h => by cases h⟩

theorem traceOwn_over : Rows.traceOwnRow.holds Try.pinned (OpenSpec.ofChange Rows.traceOwnSpec) :=
  OpenClaim.holds_of_wide 7 Try.f7 rfl rfl rfl rfl rfl rfl rfl ⟨rfl, rfl, rfl, rfl, rfl⟩ rfl rfl rfl rfl rfl (by kernel_rfl) Try.func7 (by kernel_rfl)
    (of_decide_eq_true (by kernel_rfl)) (by unfold Func.isWrapper; first | (rw [if_pos (by decide +kernel)]; kernel_rfl) | (rw [if_neg (by decide +kernel)]; exact ⟨rfl, rfl⟩))
    (fun os started H enc _ => traceOwn_lifted os started H enc)

/-- The statement. -/
theorem traceOwn_holds : Rows.TraceOwnSaid := traceOwn_over

end Go.Proofs.Ytamjibnebofkfaa

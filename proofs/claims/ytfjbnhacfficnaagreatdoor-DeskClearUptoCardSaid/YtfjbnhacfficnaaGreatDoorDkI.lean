/- Contract of a desk's line. -/
import Derived.Test.YtfjbnhacfficnaaGreatDoorZV
import Derived.Deep.DeepCutAuto
import Derived.Deep.CutRange
namespace Go.Proofs.YtfjbnhacfficnaaGreatDoor
open Go.RowKit Go.Lib

set_option maxRecDepth 100000 in
set_option maxHeartbeats 8000000 in
theorem line_dk (l : List Ev) (s : ByteArray) (hs : s.size ≤ 200) (d : Nat) (w : World) (h : DkI w d l) (hv : DkV w) (h8 : 8 ≤ d) :
    Calls Tryz.prog 8 #[.pointer (some ⟨d, 0, none⟩), .string s] w (LinePost l s d w) := by
  have hmf : ∀ (fn : Fn) (first cap : Array Value) (w : World), (Instr.makeFunc fn first cap).run Tryz.prog w = .ok (.func fn first cap) w := fun _ _ _ _ => rfl
  have hst1 : ∀ (a : Addr) (m : Mode) (W : World), (store a .nilFunc m).run Tryz.prog W = stored Tryz.prog W a .nilFunc m := fun a m W => run_store _ W a _ m rfl
  have hst2 : ∀ (a : Addr) (m : Mode) (F : FuncId) (W : World), (store a (.func (.func F) #[] #[]) m).run Tryz.prog W = stored Tryz.prog W a (.func (.func F) #[] #[]) m := fun a m F W => run_store _ W a _ m rfl
  have hdl := h.lt
  have hP := Has.new w #[.string ⟨#[]⟩] 9
  have hb0 := (Below.refl w.heap.size w).alloc (Nat.le_refl _) (.cells #[.string ⟨#[]⟩] 9)
  have hI0 := h.below hb0
  have hV0 := hv.below (by omega) hb0
  have hWs := words_len s
  obtain ⟨n, hn⟩ : ∃ n, (wordsB s).length = n := ⟨_, rfl⟩
  go_enter_defers Tryz.func8, Tryz.ntmps8
  go_wp2_with fail
  refine (words_fn s hs n hn _).mono ?_
  rintro r w1 ⟨A, rfl, hA, hS, hb1⟩
  go_upto_region 3 with fail
  obtain ⟨q, hq⟩ : ∃ q, isTellB (wordsB s) = q := ⟨_, rfl⟩
  go_cut [33] from 17 to 33 (fun p wz => p = .bool q ∧ wz = w1)
  case first =>
    by_cases h3 : n = 3
    · subst h3
      obtain ⟨x, y, z, hws⟩ : ∃ x y z, wordsB s = [x, y, z] := by
        match hm : wordsB s, hn with
        | [x, y, z], _ => exact ⟨x, y, z, rfl⟩
      rw [hws] at hS hq
      obtain ⟨A', o', e, c0⟩ := hS.at (i := 0) (by simp)
      cases e
      simp only [List.getElem_cons_zero, Nat.add_zero] at c0
      by_cases h2 : x.size = 2
      · obtain ⟨a, b, rfl⟩ := two_bytes h2
        have hqa : q = ((a.toNat : Int) == 116) := by
          rw [← hq, Bool.eq_iff_iff]
          simp only [isTellB, Bool.and_eq_true, beq_iff_eq]
          constructor
          · rintro ⟨_, h⟩
            simp at h
            rw [h]; rfl
          · intro h
            refine ⟨rfl, ?_⟩
            have : a = 116 := UInt8.toNat_inj.1 (by show a.toNat = 116; omega)
            rw [this]; rfl
        obtain ⟨qa, hqa2⟩ : ∃ qa, ((a.toNat : Int) == 116) = qa := ⟨_, rfl⟩
        rw [hqa2] at hqa
        subst hqa
        clear hq hws h2
        go_wp2_with fail
        go_meet
        exact ⟨congrArg Value.bool (show ((a.toNat : Int) == 116) = q from hqa2), rfl⟩
      · have hsz : ((x.size : Int) == 2) = false := beq_eq_false_iff_ne.2 (by omega)
        have hqf : q = false := by
          rw [← hq]
          simp [isTellB, h2]
        subst hqf
        clear hq hws h2
        go_wp2_with fail
        go_meet
        exact ⟨rfl, rfl⟩
    · have hne : ((n : Int) == 3) = false := beq_eq_false_iff_ne.2 (by omega)
      have hqf : q = false := by
        rw [← hq]
        unfold isTellB
        split
        · rename_i hw
          rw [hw] at hn
          exact absurd hn.symm h3
        · rfl
      subst hqf
      clear hq h3
      go_wp2_with fail
      go_meet
      exact ⟨rfl, rfl⟩
  case rest =>
    obtain ⟨rfl, rfl⟩ := hcut
    clear hb0 hP
    have hW0s : (w.alloc (.cells #[.string ⟨#[]⟩] 9)).heap.size = w.heap.size + 1 := by simp
    have hbw : Below (w.heap.size + 1) (w.alloc (.cells #[.string ⟨#[]⟩] 9)) wc := by rw [← hW0s]; exact hb1
    have hP1 : Has wc w.heap.size #[.string ⟨#[]⟩] 9 := (Has.new w #[.string ⟨#[]⟩] 9).below hbw (by omega)
    have hbc : Below w.heap.size w wc := ((Below.refl w.heap.size w).alloc (Nat.le_refl _) _).trans (hb1.mono (by rw [hW0s]; omega))
    have hIc := hI0.below hb1
    have hVc := hV0.below (by rw [hW0s]; omega) hb1
    cases q
    · obtain ⟨w1, w2, w3, w4, w5, w6, w7, w8, w9, w10, W, r1, r2, r3, r4, r5, r6, r7, r8, r9, r10, r11, hM, hbM⟩ := cmds_fill wc
      have hmk : (Instr.makeMap cmT none).run Tryz.prog wc = .ok (.map (some wc.heap.size)) (wc.alloc (.map #[] 0)) := by kernel_rfl
      have hSM := hS.below hbM
      have hIM := hIc.below hbM
      have hPM := hP1.below hbM hP1.lt
      have hbM2 := hbc.trans (hbM.mono hbc.size)
      have hVM := hVc.below (by have := hbc.size; omega) hbM
      have hlF : dkLine l s = (match wordsB s with
        | [] => .no 3
        | c :: r => match dkPick c with
          | none => .no 3
          | some k => if r.length = nmN k then (match dkNums r with | none => .no 3 | some n => dkCmd k l n) else .no 3) := if_neg (by rw [hq]; decide)
      have HF := Lib.hid hlF
      clear hq hlF hS
      by_cases hn0 : n = 0
      · subst hn0
        have hw0 : wordsB s = [] := List.eq_nil_of_length_eq_zero hn
        have hF : dkF l s = (errB 3, l) := by
          unfold dkF
          rw [HF.out, hw0]
        clear HF
        go_wp2_with fail
        refine (must_no 3 rfl _).mono ?_
        rintro r w3 ⟨rfl, rfl⟩
        exact door_err ⟨by decide, by decide⟩ rfl hPM (Nat.le_refl _) hIM (dk_grown_below (World.grownBy.refl w _) hbM2) hF
      · obtain ⟨c, rs, hws⟩ : ∃ c rs, wordsB s = c :: rs := by
          match hm : wordsB s with
          | [] => rw [hm] at hn; exact absurd hn.symm hn0
          | c :: rs => exact ⟨c, rs, rfl⟩
        have hcs : c.size ≤ 200 := by
          have : c ∈ wordsB s := by rw [hws]; simp
          have := words_size this
          omega
        have hrs : ∀ x ∈ rs, x.size ≤ 200 := fun x hx => by
          have : x ∈ wordsB s := by rw [hws]; simp [hx]
          have := words_size this
          omega
        obtain ⟨N, hN⟩ : ∃ N, rs.length = N := ⟨_, rfl⟩
        obtain rfl : n = N + 1 := by rw [← hn, hws]; simp [hN]
        rw [hws] at hSM HF hWs
        simp only at HF
        have hN2 : N ≤ 200 := by simp [hN] at hWs; omega
        obtain ⟨A', o', e, c0⟩ := hSM.at (i := 0) (by simp)
        cases e
        simp only [List.getElem_cons_zero, Nat.add_zero] at c0
        have hne : (((N + 1 : Nat) : Int) == 0) = false := beq_eq_false_iff_ne.2 (by omega)
        clear hn0 hn hws
        cases hk : dkPick c with
        | none =>
          have hlk := hM.miss (dkPick_none hk) (by unfold maxLen; omega)
          have hF : dkF l s = (errB 3, l) := by
            unfold dkF
            rw [HF.out, hk]
          have hbx := hbM2.alloc hbM2.size (.cells #[.int .i64 0, .nilFunc] ceT)
          have hPx := hPM.alloc (.cells #[.int .i64 0, .nilFunc] ceT)
          have hIx := hIM.below ((Below.refl _ _).alloc (Nat.le_refl _) (.cells #[.int .i64 0, .nilFunc] ceT))
          clear HF
          unfold cmdZ at hlk
          go_wp2_with fail
          refine (must_no 3 rfl _).mono ?_
          rintro r w3 ⟨rfl, rfl⟩
          exact door_err ⟨by decide, by decide⟩ rfl hPx (Nat.le_refl _) hIx (dk_grown_below (World.grownBy.refl w _) hbx) hF
        | some k =>
          obtain ⟨hk11, hkc⟩ := dkPick_some hk
          have hlk := hM.look hk11 (by rw [hkc]; unfold maxLen; omega)
          rw [hkc] at hlk
          rw [hk] at HF
          simp only at HF
          clear hk
          unfold cmdV at hlk
          have hZ := Has.new W #[.int .i64 (nmN k), .func (.func (nmF k)) #[] #[]] ceT
          have hbx := hbM2.alloc hbM2.size (.cells #[.int .i64 (nmN k), .func (.func (nmF k)) #[] #[]] ceT)
          have hPx := hPM.alloc (.cells #[.int .i64 (nmN k), .func (.func (nmF k)) #[] #[]] ceT)
          have hIx := hIM.below ((Below.refl _ _).alloc (Nat.le_refl _) (.cells #[.int .i64 (nmN k), .func (.func (nmF k)) #[] #[]] ceT))
          have hVx := hVM.below (by have := hbM2.size; omega) ((Below.refl _ _).alloc (Nat.le_refl _) (.cells #[.int .i64 (nmN k), .func (.func (nmF k)) #[] #[]] ceT))
          have hSx := hSM.below ((Below.refl _ _).alloc (Nat.le_refl _) (.cells #[.int .i64 (nmN k), .func (.func (nmF k)) #[] #[]] ceT))
          have hw1 := IntWalk.i64_in (((N + 1 : Nat) : Int) - 1) (by omega)
          have e1 : ((N + 1 : Nat) : Int) - 1 = N := by omega
          go_upto_region 9 with fail
          by_cases hNk : N = nmN k
          · have hb : ((N : Int) != (nmN k : Int)) = false := by simp [hNk]
            --LOOP
            generalize W.alloc (.cells #[.int .i64 (nmN k), .func (.func (nmF k)) #[] #[]] ceT) = X at *
            have z0 : X.cell? ⟨W.heap.size, 0, none⟩ = some (.int .i64 (nmN k)) := hZ.cell rfl
            have z1 : X.cell? ⟨W.heap.size, 1, none⟩ = some (.func (.func (nmF k)) #[] #[]) := hZ.cell rfl
            have hZl := hZ.lt
            rw [if_pos (by rw [hN]; exact hNk)] at HF
            have HNk := Lib.hid hNk
            clear r1 r2 r3 r4 r5 r6 r7 r8 r9 r10 r11 hM hSM hIM hPM hbM2 hVM hlk hIc hP1 hVc hbM hmk hNk
            have hP := hPx
            have hI := hIx
            have hbX := hbx
            clear hPx hIx hbx
            by_cases hN0 : N = 0
            · subst hN0
              obtain rfl : rs = [] := List.eq_nil_of_length_eq_zero hN
              have HK : Hid (dkLine l s = dkCmd k l []) := Lib.hid HF.out
              have hk11' : k = 0 ∨ k = 1 ∨ k = 2 ∨ k = 3 ∨ k = 4 ∨ k = 5 ∨ k = 6 ∨ k = 7 ∨ k = 8 ∨ k = 9 ∨ k = 10 := by simpa [eleven] using hk11
              clear HF hk11 hkc hSx hrs hN hZ
              go_upto_region 12 with fail
              rcases hk11' with rfl | rfl | rfl | rfl | rfl | rfl | rfl | rfl | rfl | rfl | rfl
              · have z1 : X.cell? ⟨W.heap.size, 1, none⟩ = some (.func (.func 15) #[] #[]) := z1
                go_wp2
                go_loopw [9, 77] (fun v i wr => v = .slice none 0 0 ∧ i = .int .i64 0 ∧ wr = X) (fun _ _ _ => 0)
                case atStart => exact ⟨rfl, rfl, rfl⟩
                case round =>
                  obtain ⟨rfl, rfl, rfl⟩ := hrel
                  have hF : dkF l s = ((toldB ((raceL l).map rcB)), l) := by
                    unfold dkF
                    rw [HK.out]
                    unfold dkCmd
                    rfl
                  obtain ⟨ANS, hANS⟩ : ∃ ANS, (toldB ((raceL l).map rcB)) = ANS := ⟨_, rfl⟩
                  have hcall := dk_races l d none 0 0 _ hI
                  rw [hANS] at hF hcall
                  have HFF := Lib.hid hF
                  clear hANS hF
                  go_wp2_with fail
                  refine hcall.mono ?_
                  rintro r w3 ⟨rfl, hb3⟩
                  have hP3 := hP.below hb3 hP.lt
                  have hI4 := (hI.below hb3).setStr hP3 (.string ANS)
                  have hg4 := dk_grown_below (World.grownBy.refl w (some d)) (hbX.trans (hb3.mono hbX.size))
                  have c3 : w3.cell? ⟨w.heap.size, 0, none⟩ = some (.string ⟨#[]⟩) := hP3.cell rfl
                  have z3 := hP3.free 0
                  have hg5 : w.grownBy (w3.setCell ⟨w.heap.size, 0, none⟩ (.string ANS)) (some d) := grownBy_setNew hg4 (a := ⟨w.heap.size, 0, none⟩) (Nat.le_refl _) _
                  have hP5 := (hP3.setCell 0 (.string ANS)).to rfl
                  go_wp2
                  refine door_ret rfl hP5 ?_
                  unfold LinePost
                  rw [HFF.out]
                  exact ⟨rfl, hI4, hg5⟩
              · have z1 : X.cell? ⟨W.heap.size, 1, none⟩ = some (.func (.func 16) #[] #[]) := z1
                go_wp2
                go_loopw [9, 77] (fun v i wr => v = .slice none 0 0 ∧ i = .int .i64 0 ∧ wr = X) (fun _ _ _ => 0)
                case atStart => exact ⟨rfl, rfl, rfl⟩
                case round =>
                  obtain ⟨rfl, rfl, rfl⟩ := hrel
                  have hF : dkF l s = ((toldB ((fFlags l l.length).map flB)), l) := by
                    unfold dkF
                    rw [HK.out]
                    unfold dkCmd
                    rfl
                  obtain ⟨ANS, hANS⟩ : ∃ ANS, (toldB ((fFlags l l.length).map flB)) = ANS := ⟨_, rfl⟩
                  have hcall := dk_full l d none 0 0 _ hI
                  rw [hANS] at hF hcall
                  have HFF := Lib.hid hF
                  clear hANS hF
                  go_wp2_with fail
                  refine hcall.mono ?_
                  rintro r w3 ⟨rfl, hb3⟩
                  have hP3 := hP.below hb3 hP.lt
                  have hI4 := (hI.below hb3).setStr hP3 (.string ANS)
                  have hg4 := dk_grown_below (World.grownBy.refl w (some d)) (hbX.trans (hb3.mono hbX.size))
                  have c3 : w3.cell? ⟨w.heap.size, 0, none⟩ = some (.string ⟨#[]⟩) := hP3.cell rfl
                  have z3 := hP3.free 0
                  have hg5 : w.grownBy (w3.setCell ⟨w.heap.size, 0, none⟩ (.string ANS)) (some d) := grownBy_setNew hg4 (a := ⟨w.heap.size, 0, none⟩) (Nat.le_refl _) _
                  have hP5 := (hP3.setCell 0 (.string ANS)).to rfl
                  go_wp2
                  refine door_ret rfl hP5 ?_
                  unfold LinePost
                  rw [HFF.out]
                  exact ⟨rfl, hI4, hg5⟩
              · have z1 : X.cell? ⟨W.heap.size, 1, none⟩ = some (.func (.func 17) #[] #[]) := z1
                go_wp2
                go_loopw [9, 77] (fun v i wr => v = .slice none 0 0 ∧ i = .int .i64 0 ∧ wr = X) (fun _ _ _ => 0)
                case atStart => exact ⟨rfl, rfl, rfl⟩
                case round =>
                  obtain ⟨rfl, rfl, rfl⟩ := hrel
                  have hF : dkF l s = ((toldB ((qFlags l l.length).map flB)), l) := by
                    unfold dkF
                    rw [HK.out]
                    unfold dkCmd
                    rfl
                  obtain ⟨ANS, hANS⟩ : ∃ ANS, (toldB ((qFlags l l.length).map flB)) = ANS := ⟨_, rfl⟩
                  have hcall := dk_fast l d none 0 0 _ hI
                  rw [hANS] at hF hcall
                  have HFF := Lib.hid hF
                  clear hANS hF
                  go_wp2_with fail
                  refine hcall.mono ?_
                  rintro r w3 ⟨rfl, hb3⟩
                  have hP3 := hP.below hb3 hP.lt
                  have hI4 := (hI.below hb3).setStr hP3 (.string ANS)
                  have hg4 := dk_grown_below (World.grownBy.refl w (some d)) (hbX.trans (hb3.mono hbX.size))
                  have c3 : w3.cell? ⟨w.heap.size, 0, none⟩ = some (.string ⟨#[]⟩) := hP3.cell rfl
                  have z3 := hP3.free 0
                  have hg5 : w.grownBy (w3.setCell ⟨w.heap.size, 0, none⟩ (.string ANS)) (some d) := grownBy_setNew hg4 (a := ⟨w.heap.size, 0, none⟩) (Nat.le_refl _) _
                  have hP5 := (hP3.setCell 0 (.string ANS)).to rfl
                  go_wp2
                  refine door_ret rfl hP5 ?_
                  unfold LinePost
                  rw [HFF.out]
                  exact ⟨rfl, hI4, hg5⟩
              · have z1 : X.cell? ⟨W.heap.size, 1, none⟩ = some (.func (.func 18) #[] #[]) := z1
                go_wp2
                go_loopw [9, 77] (fun v i wr => v = .slice none 0 0 ∧ i = .int .i64 0 ∧ wr = X) (fun _ _ _ => 0)
                case atStart => exact ⟨rfl, rfl, rfl⟩
                case round =>
                  obtain ⟨rfl, rfl, rfl⟩ := hrel
                  have hF : dkF l s = ((toldB ((gWs l).map wrB)), l) := by
                    unfold dkF
                    rw [HK.out]
                    unfold dkCmd
                    rfl
                  obtain ⟨ANS, hANS⟩ : ∃ ANS, (toldB ((gWs l).map wrB)) = ANS := ⟨_, rfl⟩
                  have hcall := dk_warns l d none 0 0 _ hI
                  rw [hANS] at hF hcall
                  have HFF := Lib.hid hF
                  clear hANS hF
                  go_wp2_with fail
                  refine hcall.mono ?_
                  rintro r w3 ⟨rfl, hb3⟩
                  have hP3 := hP.below hb3 hP.lt
                  have hI4 := (hI.below hb3).setStr hP3 (.string ANS)
                  have hg4 := dk_grown_below (World.grownBy.refl w (some d)) (hbX.trans (hb3.mono hbX.size))
                  have c3 : w3.cell? ⟨w.heap.size, 0, none⟩ = some (.string ⟨#[]⟩) := hP3.cell rfl
                  have z3 := hP3.free 0
                  have hg5 : w.grownBy (w3.setCell ⟨w.heap.size, 0, none⟩ (.string ANS)) (some d) := grownBy_setNew hg4 (a := ⟨w.heap.size, 0, none⟩) (Nat.le_refl _) _
                  have hP5 := (hP3.setCell 0 (.string ANS)).to rfl
                  go_wp2
                  refine door_ret rfl hP5 ?_
                  unfold LinePost
                  rw [HFF.out]
                  exact ⟨rfl, hI4, hg5⟩
              · exact absurd HNk.out (by decide)
              · exact absurd HNk.out (by decide)
              · have z1 : X.cell? ⟨W.heap.size, 1, none⟩ = some (.func (.func 21) #[] #[]) := z1
                go_wp2
                go_loopw [9, 77] (fun v i wr => v = .slice none 0 0 ∧ i = .int .i64 0 ∧ wr = X) (fun _ _ _ => 0)
                case atStart => exact ⟨rfl, rfl, rfl⟩
                case round =>
                  obtain ⟨rfl, rfl, rfl⟩ := hrel
                  have hF : dkF l s = ((toldB ((ringP (edgeP (grOut l))).map itB)), l) := by
                    unfold dkF
                    rw [HK.out]
                    unfold dkCmd
                    rfl
                  obtain ⟨ANS, hANS⟩ : ∃ ANS, (toldB ((ringP (edgeP (grOut l))).map itB)) = ANS := ⟨_, rfl⟩
                  have hcall := dk_ring l d none 0 0 _ hI
                  rw [hANS] at hF hcall
                  have HFF := Lib.hid hF
                  clear hANS hF
                  go_wp2_with fail
                  refine hcall.mono ?_
                  rintro r w3 ⟨rfl, hb3⟩
                  have hP3 := hP.below hb3 hP.lt
                  have hI4 := (hI.below hb3).setStr hP3 (.string ANS)
                  have hg4 := dk_grown_below (World.grownBy.refl w (some d)) (hbX.trans (hb3.mono hbX.size))
                  have c3 : w3.cell? ⟨w.heap.size, 0, none⟩ = some (.string ⟨#[]⟩) := hP3.cell rfl
                  have z3 := hP3.free 0
                  have hg5 : w.grownBy (w3.setCell ⟨w.heap.size, 0, none⟩ (.string ANS)) (some d) := grownBy_setNew hg4 (a := ⟨w.heap.size, 0, none⟩) (Nat.le_refl _) _
                  have hP5 := (hP3.setCell 0 (.string ANS)).to rfl
                  go_wp2
                  refine door_ret rfl hP5 ?_
                  unfold LinePost
                  rw [HFF.out]
                  exact ⟨rfl, hI4, hg5⟩
              · exact absurd HNk.out (by decide)
              · have z1 : X.cell? ⟨W.heap.size, 1, none⟩ = some (.func (.func 23) #[] #[]) := z1
                go_wp2
                go_loopw [9, 77] (fun v i wr => v = .slice none 0 0 ∧ i = .int .i64 0 ∧ wr = X) (fun _ _ _ => 0)
                case atStart => exact ⟨rfl, rfl, rfl⟩
                case round =>
                  obtain ⟨rfl, rfl, rfl⟩ := hrel
                  by_cases hr : Racy l
                  · have hF : dkF l s = ((itB (mini l).length), l) := by
                      unfold dkF
                      rw [HK.out]
                      unfold dkCmd
                      simp only
                      rw [if_pos hr]
                    obtain ⟨ANS, hANS⟩ : ∃ ANS, (itB (mini l).length) = ANS := ⟨_, rfl⟩
                    have hcall := dk_min l d none 0 0 _ hI hr
                    rw [hANS] at hF hcall
                    have HFF := Lib.hid hF
                    clear hANS hF
                    go_wp2_with fail
                    refine hcall.mono ?_
                    rintro r w3 ⟨rfl, hb3⟩
                    have hP3 := hP.below hb3 hP.lt
                    have hI4 := (hI.below hb3).setStr hP3 (.string ANS)
                    have hg4 := dk_grown_below (World.grownBy.refl w (some d)) (hbX.trans (hb3.mono hbX.size))
                    have c3 : w3.cell? ⟨w.heap.size, 0, none⟩ = some (.string ⟨#[]⟩) := hP3.cell rfl
                    have z3 := hP3.free 0
                    have hg5 : w.grownBy (w3.setCell ⟨w.heap.size, 0, none⟩ (.string ANS)) (some d) := grownBy_setNew hg4 (a := ⟨w.heap.size, 0, none⟩) (Nat.le_refl _) _
                    have hP5 := (hP3.setCell 0 (.string ANS)).to rfl
                    go_wp2
                    refine door_ret rfl hP5 ?_
                    unfold LinePost
                    rw [HFF.out]
                    exact ⟨rfl, hI4, hg5⟩
                  · have hF : dkF l s = (errB 7, l) := by
                      unfold dkF
                      rw [HK.out]
                      unfold dkCmd
                      simp only
                      rw [if_neg hr]
                    have hcall := dk_min_no l d none 0 0 _ hI hr
                    go_wp2_with fail
                    refine hcall.mono ?_
                    rintro r w3 ⟨rfl, hb3⟩
                    exact door_err ⟨by decide, by decide⟩ rfl (hP.below hb3 hP.lt) (Nat.le_refl _) (hI.below hb3) (dk_grown_below (World.grownBy.refl w _) (hbX.trans (hb3.mono hbX.size))) hF
              · have z1 : X.cell? ⟨W.heap.size, 1, none⟩ = some (.func (.func 24) #[] #[]) := z1
                go_wp2
                go_loopw [9, 77] (fun v i wr => v = .slice none 0 0 ∧ i = .int .i64 0 ∧ wr = X) (fun _ _ _ => 0)
                case atStart => exact ⟨rfl, rfl, rfl⟩
                case round =>
                  obtain ⟨rfl, rfl, rfl⟩ := hrel
                  have hF : dkF l s = ((itB l.length), l) := by
                    unfold dkF
                    rw [HK.out]
                    unfold dkCmd
                    rfl
                  obtain ⟨ANS, hANS⟩ : ∃ ANS, (itB l.length) = ANS := ⟨_, rfl⟩
                  have hcall := dk_size l d none 0 0 _ hI
                  rw [hANS] at hF hcall
                  have HFF := Lib.hid hF
                  clear hANS hF
                  go_wp2_with fail
                  refine hcall.mono ?_
                  rintro r w3 ⟨rfl, hb3⟩
                  have hP3 := hP.below hb3 hP.lt
                  have hI4 := (hI.below hb3).setStr hP3 (.string ANS)
                  have hg4 := dk_grown_below (World.grownBy.refl w (some d)) (hbX.trans (hb3.mono hbX.size))
                  have c3 : w3.cell? ⟨w.heap.size, 0, none⟩ = some (.string ⟨#[]⟩) := hP3.cell rfl
                  have z3 := hP3.free 0
                  have hg5 : w.grownBy (w3.setCell ⟨w.heap.size, 0, none⟩ (.string ANS)) (some d) := grownBy_setNew hg4 (a := ⟨w.heap.size, 0, none⟩) (Nat.le_refl _) _
                  have hP5 := (hP3.setCell 0 (.string ANS)).to rfl
                  go_wp2
                  refine door_ret rfl hP5 ?_
                  unfold LinePost
                  rw [HFF.out]
                  exact ⟨rfl, hI4, hg5⟩
              · have z1 : X.cell? ⟨W.heap.size, 1, none⟩ = some (.func (.func 25) #[] #[]) := z1
                go_wp2
                go_loopw [9, 77] (fun v i wr => v = .slice none 0 0 ∧ i = .int .i64 0 ∧ wr = X) (fun _ _ _ => 0)
                case atStart => exact ⟨rfl, rfl, rfl⟩
                case round =>
                  obtain ⟨rfl, rfl, rfl⟩ := hrel
                  have hF : dkF l s = (okB, []) := by
                    unfold dkF
                    rw [HK.out]
                    unfold dkCmd
                    rfl
                  obtain ⟨ANS, hANS⟩ : ∃ ANS, okB = ANS := ⟨_, rfl⟩
                  have hcall := dk_clear l d none 0 0 _ hI
                  rw [hANS] at hF hcall
                  have HFF := Lib.hid hF
                  clear hANS hF
                  go_wp2_with fail
                  refine hcall.mono ?_
                  rintro r w3 ⟨rfl, hI3, hg3⟩
                  have hP3 : Has w3 w.heap.size #[.string ⟨#[]⟩] lnT := hP.grown hg3 (by intro e; cases e; omega)
                  have hI4 := hI3.setStr hP3 (.string ANS)
                  have hg4 : w.grownBy w3 (some d) := (dk_grown_below (World.grownBy.refl w (some d)) hbX).trans hg3
                  have c3 : w3.cell? ⟨w.heap.size, 0, none⟩ = some (.string ⟨#[]⟩) := hP3.cell rfl
                  have z3 := hP3.free 0
                  have hg5 : w.grownBy (w3.setCell ⟨w.heap.size, 0, none⟩ (.string ANS)) (some d) := grownBy_setNew hg4 (a := ⟨w.heap.size, 0, none⟩) (Nat.le_refl _) _
                  have hP5 := (hP3.setCell 0 (.string ANS)).to rfl
                  go_wp2
                  refine door_ret rfl hP5 ?_
                  unfold LinePost
                  rw [HFF.out]
                  exact ⟨rfl, hI4, hg5⟩
            · have hNpos : 0 < N := Nat.pos_of_ne_zero hN0
              have hWd : ∀ i (hi : i < rs.length), X.cell? ⟨A, 1 + i, none⟩ = some (.string rs[i]) := by
                intro i hi
                obtain ⟨A', o', e, cc⟩ := hSx.at (i := i + 1) (by simp; omega)
                cases e
                simp only [List.getElem_cons_succ, Nat.zero_add] at cc
                rw [Nat.add_comm]
                exact cc
              have hAX : A < X.heap.size := World.block_lt_of_cell? X _ (hWd 0 (by omega))
              have hX8 : 8 ≤ X.heap.size := by have := hbX.size; omega
              have hN1 : ¬ (N + 1 = 1) := by omega
              obtain ⟨i0', hi, hz0, hz1, hz2⟩ := info_parts infoI
              have HRS := Lib.hid hrs
              clear hSx hkc hrs hZ c0 hw1 hne
              go_wp2
              clear hb
              go_loopw [9, 77] (fun v i wr => ∃ i0 : Nat, i0 ≤ N ∧ i = .int .i64 i0 ∧ (∀ j (hj : j < rs.length), j < i0 → dkNum rs[j] = some (fN rs j)) ∧ wr.ownsRow X.heap.size 3 1 v i0 ((List.range i0).map fun j => Value.int .i64 (fN rs j)) ∧ Below X.heap.size X wr) (fun _ i _ => N - (intOf i).toNat)
              case atStart => exact ⟨0, Nat.zero_le _, rfl, fun j hj h0 => absurd h0 (Nat.not_lt_zero _), World.ownsRow_nil _ _ _ _, Below.refl _ _⟩
              case round =>
                obtain ⟨i0, hi0, rfl, hnum, hown, hb⟩ := hrel
                obtain ⟨wo, rfl⟩ : ∃ wo : World, wo = wr := ⟨_, rfl⟩
                have hVo := hVx.below hX8 hb
                have ho8 : 8 ≤ wo.heap.size := by have := hb.size; omega
                have hPo := hP.below hb hP.lt
                have hIo := hI.below hb
                have hbo := hbX.trans (hb.mono hbX.size)
                by_cases hlt : i0 < N
                · have hil : i0 < rs.length := by omega
                  have cw : wo.cell? ⟨A, 1 + i0, none⟩ = some (.string rs[i0]) := (hb.cell hAX).trans (hWd i0 hil)
                  have hx200 := HRS.out _ (List.getElem_mem hil)
                  obtain ⟨x, hx⟩ : ∃ x, rs[i0] = x := ⟨_, rfl⟩
                  rw [hx] at cw hx200
                  have HX := Lib.hid hx
                  have HNM := Lib.hid hnum
                  clear hx hnum
                  by_cases hE : ∃ v, Lib.atoiAll x.data.toList = .ok v
                  · obtain ⟨v, hE⟩ := hE
                    obtain ⟨v0, v1⟩ := Lib.atoiAll_bounds hE
                    have HE := Lib.hid hE
                    go_wp2_with fail
                    refine (atoi_ok x hx200 v hE wo).mono ?_
                    rintro r w5 ⟨rfl, hb5⟩
                    have hV5 := hVo.below ho8 hb5
                    have hP5 := hPo.below hb5 hPo.lt
                    have hI5 := hIo.below hb5
                    have hbo5 := hbo.trans (hb5.mono hbo.size)
                    have hs5 := hb5.size
                    have hown5 := own_below hown hb5
                    have hb15 := hb.trans (hb5.mono hb.size)
                    clear cw hE hb5 hVo hPo hIo hbo hown hb
                    obtain ⟨T, hT⟩ : ∃ T, itoaB v = T := ⟨_, rfl⟩
                    have hit := itoa_any v v0 v1 w5 hV5
                    rw [hT] at hit
                    have HT := Lib.hid hT
                    clear hT
                    go_wp2_with fail
                    refine hit.mono ?_
                    clear hit
                    rintro r w6 ⟨rfl, hb6⟩
                    have hV6 := hV5.below (by omega) hb6
                    have hP6 := hP5.below hb6 hP5.lt
                    have hI6 := hI5.below hb6
                    have hbo6 := hbo5.trans (hb6.mono hbo5.size)
                    have hown6 := own_below hown5 hb6
                    have hb16 := hb15.trans (hb6.mono hb15.size)
                    clear hb6 hV5 hP5 hI5 hbo5 hown5 hb15
                    by_cases hok : T = x ∧ 0 ≤ v ∧ x.size ≤ 9
                    · have hnx : dkNum x = some v := dkNum_ok HE.out (by rw [HT.out]; exact hok)
                      have hfN : fN rs i0 = v := fN_is hil (by rw [HX.out]; exact hnx)
                      have HFN := Lib.hid hfN
                      have HNX := Lib.hid hnx
                      obtain ⟨hok1, hok2, hok3⟩ := hok
                      have q1 : (T.toList == x.toList) = true := by rw [strEqT]; exact decide_eq_true hok1
                      have q2 : decide (v < 0) = false := decide_eq_false (by omega)
                      have q3 : decide ((x.size : Int) > 9) = false := decide_eq_false (by omega)
                      have q4 : decide (9 < x.size) = false := decide_eq_false (by omega)
                      have hT6 := Has.new w6 #[.int .i64 v] 3
                      have hb17 := hb16.alloc hb16.size (.cells #[.int .i64 v] 3)
                      clear hfN hnx hok1 hok2 hok3
                      go_wp2_with (at_builtin; refine app_list _ rfl (.tmp 104) (.tmp 106) 46 rfl Tryz.underlying46 hi hz0 hz1 hz2 rfl (by decide) rfl (hown6.alloc _) rfl (news := [.int .i64 v]) ⟨rfl, .inr ⟨_, rfl, fun j u hu => hT6.cell_add (by simpa using hu)⟩⟩ (by intro u hu; simp at hu; subst hu; rfl) ?c3 ?c4 ?c5 ?_)
                      case c3 => unfold maxLen; omega
                      case c4 => omega
                      case c5 => have := hb16.size; simp; omega
                      intro v' w7 hA
                      have hb18 := hA.below (hown6.alloc _) hb17 (by have := hb16.size; simp; omega)
                      have ho7 : w7.ownsRow X.heap.size 3 1 v' (i0 + 1) ((List.range (i0 + 1)).map fun j => Value.int .i64 (fN rs j)) := by
                        rw [List.range_succ, List.map_append]
                        have := hA.own
                        rw [← HFN.out] at this
                        exact this
                      have hnum2 : ∀ j (hj : j < rs.length), j < i0 + 1 → dkNum rs[j] = some (fN rs j) := by
                        intro j hj h1
                        by_cases e : j = i0
                        · subst e
                          rw [HX.out, HNX.out, HFN.out]
                        · exact HNM.out j hj (by omega)
                      have HN2 := Lib.hid hnum2
                      clear hA hown6 hT6 hb17 hb16 q1 q2 q3 q4 hnum2
                      go_wp2
                      go_roundw
                      case rel =>
                        (repeat apply Exists.intro)
                        refine ⟨?_, rfl⟩
                        exact ⟨i0 + 1, by omega, by go_num, HN2.out, ho7, hb18⟩
                      case measure => (simp [intOf]; try omega)
                    · have hnx : dkNum x = none := dkNum_bad HE.out (by rw [HT.out]; exact hok)
                      have hF : dkF l s = (errB 3, l) := by
                        unfold dkF
                        rw [HF.out, dkNums_none hil (by rw [HX.out]; exact hnx)]
                      obtain ⟨q1, hq1⟩ : ∃ q, (T.toList == x.toList) = q := ⟨_, rfl⟩
                      cases q1
                      · go_wp2_with fail
                        refine (must_no 3 rfl _).mono ?_
                        rintro r w3 ⟨rfl, rfl⟩
                        exact door_err ⟨by decide, by decide⟩ rfl hP6 (Nat.le_refl _) hI6 (dk_grown_below (World.grownBy.refl w _) hbo6) hF
                      · have hTx : T = x := by rw [strEqT, decide_eq_true_eq] at hq1; exact hq1
                        obtain ⟨q2, hq2⟩ : ∃ q, decide (v < 0) = q := ⟨_, rfl⟩
                        cases q2
                        · have hv0 : 0 ≤ v := by simpa using hq2
                          have h9 : ¬ x.size ≤ 9 := fun h => hok ⟨hTx, hv0, h⟩
                          have q3 : decide ((x.size : Int) > 9) = true := decide_eq_true (by omega)
                          have q4 : decide (9 < x.size) = true := decide_eq_true (by omega)
                          clear hok hTx hv0 h9
                          go_wp2_with fail
                          refine (must_no 3 rfl _).mono ?_
                          rintro r w3 ⟨rfl, rfl⟩
                          exact door_err ⟨by decide, by decide⟩ rfl hP6 (Nat.le_refl _) hI6 (dk_grown_below (World.grownBy.refl w _) hbo6) hF
                        · clear hok hTx
                          go_wp2_with fail
                          refine (must_no 3 rfl _).mono ?_
                          rintro r w3 ⟨rfl, rfl⟩
                          exact door_err ⟨by decide, by decide⟩ rfl hP6 (Nat.le_refl _) hI6 (dk_grown_below (World.grownBy.refl w _) hbo6) hF
                  · have hnx := dkNum_no hE
                    have hF : dkF l s = (errB 3, l) := by
                      unfold dkF
                      rw [HF.out, dkNums_none hil (by rw [HX.out]; exact hnx)]
                    have hno : ∀ v, Lib.atoiAll x.data.toList ≠ .ok v := fun v h => hE ⟨v, h⟩
                    clear hE hnx
                    go_wp2_with fail
                    refine (atoi_no x hx200 hno wo hVo).mono ?_
                    rintro r w5 ⟨kk, tt, NN, rfl, hb5⟩
                    clear hno
                    go_wp2_with fail
                    refine (must_no 3 rfl _).mono ?_
                    rintro r w3 ⟨rfl, rfl⟩
                    exact door_err ⟨by decide, by decide⟩ rfl (hPo.below hb5 hPo.lt) (Nat.le_refl _) (hIo.below hb5) (dk_grown_below (World.grownBy.refl w _) (hbo.trans (hb5.mono hbo.size))) hF
                · obtain rfl : i0 = N := by omega
                  have hall := dkNums_all (r := rs) (fN rs) (fun j hj => hnum j hj (by omega))
                  rw [hN] at hall
                  have HK : Hid (dkLine l s = dkCmd k l ((List.range i0).map (fN rs))) := Lib.hid (by rw [HF.out, hall])
                  have zz : wo.cell? ⟨W.heap.size, 1, none⟩ = some (.func (.func (nmF k)) #[] #[]) := (hb.cell (p := ⟨W.heap.size, 1, none⟩) hZl).trans z1
                  obtain ⟨g, cap, hv, hcl⟩ : ∃ g cap, u9 = .slice (some ⟨g, 0, none⟩) i0 cap ∧ ∀ j, j < i0 → wo.cell? ⟨g, j, none⟩ = some (.int .i64 (fN rs j)) := by
                    rcases hown.2 with ⟨_, h0⟩ | ⟨g, cap, cur, rfl, _⟩
                    · omega
                    · refine ⟨g, cap, rfl, fun j hj => ?_⟩
                      have e1 := hown.cells (g := g) rfl j (.int .i64 (fN rs j)) (by simp [hj])
                      have hadd : ∀ n, (⟨g, 0, none⟩ : Addr).add n = ⟨g, 0 + n, none⟩ := by intro n; unfold Addr.add; split <;> simp_all
                      rw [hadd, Nat.zero_add] at e1
                      exact e1
                  subst hv
                  have hpos : ∀ j, j < i0 → 0 ≤ fN rs j := fun j hj => dkNum_pos (hnum j (by omega) hj)
                  clear hown hall hWd hnum z0 z1 hP hI hbX
                  have hP := hPo
                  have hI := hIo
                  have hbX := hbo
                  clear hPo hIo hbo hb HF HRS
                  have hk11' : k = 0 ∨ k = 1 ∨ k = 2 ∨ k = 3 ∨ k = 4 ∨ k = 5 ∨ k = 6 ∨ k = 7 ∨ k = 8 ∨ k = 9 ∨ k = 10 := by simpa [eleven] using hk11
                  have hk457 : (k = 4 ∧ i0 = 2) ∨ (k = 5 ∧ i0 = 1) ∨ (k = 7 ∧ i0 = 1) := by
                    have hNk := HNk.out
                    rcases hk11' with rfl | rfl | rfl | rfl | rfl | rfl | rfl | rfl | rfl | rfl | rfl
                    all_goals first
                      | (exact absurd hNk hN0)
                      | (exact .inl ⟨rfl, hNk⟩)
                      | (exact .inr (.inl ⟨rfl, hNk⟩))
                      | (exact .inr (.inr ⟨rfl, hNk⟩))
                  obtain ⟨I0, hI0'⟩ := Int.eq_ofNat_of_zero_le (hpos 0 hNpos)
                  have h0c := hcl 0 hNpos
                  rw [hI0'] at h0c
                  clear hk11 hk11' HNk
                  rcases hk457 with ⟨rfl, rfl⟩ | ⟨rfl, rfl⟩ | ⟨rfl, rfl⟩
                  · have zz : wo.cell? ⟨W.heap.size, 1, none⟩ = some (.func (.func 19) #[] #[]) := zz
                    obtain ⟨I1, hI1'⟩ := Int.eq_ofNat_of_zero_le (hpos 1 (by decide))
                    have h1c := hcl 1 (by decide)
                    rw [hI1'] at h1c
                    by_cases hr : I0 < l.length ∧ I1 < l.length
                    · have hF : dkF l s = ((ynB (R l I1 I0)), l) := by
                        unfold dkF
                        rw [HK.out]
                        unfold dkCmd
                        simp only
                        rw [show (List.map (fN rs) (List.range 2)).getD 0 0 = fN rs 0 from rfl, show (List.map (fN rs) (List.range 2)).getD 1 0 = fN rs 1 from rfl, hI0', hI1', Int.toNat_natCast, Int.toNat_natCast, if_pos hr]
                      obtain ⟨ANS, hANS⟩ : ∃ ANS, (ynB (R l I1 I0)) = ANS := ⟨_, rfl⟩
                      have hcall := dk_leads l I0 I1 hr.1 hr.2 d g cap _ hI h0c h1c
                      rw [hANS] at hF hcall
                      have HFF := Lib.hid hF
                      clear hANS hF
                      go_wp2_with fail
                      refine hcall.mono ?_
                      rintro r w3 ⟨rfl, hb3⟩
                      have hP3 := hP.below hb3 hP.lt
                      have hI4 := (hI.below hb3).setStr hP3 (.string ANS)
                      have hg4 := dk_grown_below (World.grownBy.refl w (some d)) (hbX.trans (hb3.mono hbX.size))
                      have c3 : w3.cell? ⟨w.heap.size, 0, none⟩ = some (.string ⟨#[]⟩) := hP3.cell rfl
                      have z3 := hP3.free 0
                      have hg5 : w.grownBy (w3.setCell ⟨w.heap.size, 0, none⟩ (.string ANS)) (some d) := grownBy_setNew hg4 (a := ⟨w.heap.size, 0, none⟩) (Nat.le_refl _) _
                      have hP5 := (hP3.setCell 0 (.string ANS)).to rfl
                      go_wp2
                      refine door_ret rfl hP5 ?_
                      unfold LinePost
                      rw [HFF.out]
                      exact ⟨rfl, hI4, hg5⟩
                    · have hF : dkF l s = (errB 1, l) := by
                        unfold dkF
                        rw [HK.out]
                        unfold dkCmd
                        simp only
                        rw [show (List.map (fN rs) (List.range 2)).getD 0 0 = fN rs 0 from rfl, show (List.map (fN rs) (List.range 2)).getD 1 0 = fN rs 1 from rfl, hI0', hI1', Int.toNat_natCast, Int.toNat_natCast, if_neg hr]
                      have hcall := dk_leads_no l I0 I1 hr d g cap _ hI h0c h1c
                      go_wp2_with fail
                      refine hcall.mono ?_
                      rintro r w3 ⟨rfl, hb3⟩
                      exact door_err ⟨by decide, by decide⟩ rfl (hP.below hb3 hP.lt) (Nat.le_refl _) (hI.below hb3) (dk_grown_below (World.grownBy.refl w _) (hbX.trans (hb3.mono hbX.size))) hF
                  · have zz : wo.cell? ⟨W.heap.size, 1, none⟩ = some (.func (.func 20) #[] #[]) := zz
                    by_cases hr : I0 < l.length
                    · have hF : dkF l s = ((toldB (((List.range 6).map (stampOf l I0)).map itB)), l) := by
                        unfold dkF
                        rw [HK.out]
                        unfold dkCmd
                        simp only
                        rw [show (List.map (fN rs) (List.range 1)).getD 0 0 = fN rs 0 from rfl, hI0', Int.toNat_natCast, if_pos hr]
                      obtain ⟨ANS, hANS⟩ : ∃ ANS, (toldB (((List.range 6).map (stampOf l I0)).map itB)) = ANS := ⟨_, rfl⟩
                      have hcall := dk_stamp l I0 hr d g cap _ hI h0c
                      rw [hANS] at hF hcall
                      have HFF := Lib.hid hF
                      clear hANS hF
                      go_wp2_with fail
                      refine hcall.mono ?_
                      rintro r w3 ⟨rfl, hb3⟩
                      have hP3 := hP.below hb3 hP.lt
                      have hI4 := (hI.below hb3).setStr hP3 (.string ANS)
                      have hg4 := dk_grown_below (World.grownBy.refl w (some d)) (hbX.trans (hb3.mono hbX.size))
                      have c3 : w3.cell? ⟨w.heap.size, 0, none⟩ = some (.string ⟨#[]⟩) := hP3.cell rfl
                      have z3 := hP3.free 0
                      have hg5 : w.grownBy (w3.setCell ⟨w.heap.size, 0, none⟩ (.string ANS)) (some d) := grownBy_setNew hg4 (a := ⟨w.heap.size, 0, none⟩) (Nat.le_refl _) _
                      have hP5 := (hP3.setCell 0 (.string ANS)).to rfl
                      go_wp2
                      refine door_ret rfl hP5 ?_
                      unfold LinePost
                      rw [HFF.out]
                      exact ⟨rfl, hI4, hg5⟩
                    · have hF : dkF l s = (errB 1, l) := by
                        unfold dkF
                        rw [HK.out]
                        unfold dkCmd
                        simp only
                        rw [show (List.map (fN rs) (List.range 1)).getD 0 0 = fN rs 0 from rfl, hI0', Int.toNat_natCast, if_neg hr]
                      have hcall := dk_stamp_no l I0 hr d g cap _ hI h0c
                      go_wp2_with fail
                      refine hcall.mono ?_
                      rintro r w3 ⟨rfl, hb3⟩
                      exact door_err ⟨by decide, by decide⟩ rfl (hP.below hb3 hP.lt) (Nat.le_refl _) (hI.below hb3) (dk_grown_below (World.grownBy.refl w _) (hbX.trans (hb3.mono hbX.size))) hF
                  · have zz : wo.cell? ⟨W.heap.size, 1, none⟩ = some (.func (.func 22) #[] #[]) := zz
                    by_cases hr : woOk l (I0 : Int) = true
                    · obtain ⟨k0, e0, hr2, _, hr3⟩ := woOk_at hr
                      obtain rfl : I0 = k0 := by omega
                      have hF : dkF l s = (okB, l.eraseIdx I0) := by
                        unfold dkF
                        rw [HK.out]
                        unfold dkCmd
                        simp only
                        rw [show (List.map (fN rs) (List.range 1)).getD 0 0 = fN rs 0 from rfl, hI0', Int.toNat_natCast, if_pos hr]
                      obtain ⟨ANS, hANS⟩ : ∃ ANS, okB = ANS := ⟨_, rfl⟩
                      have hcall := dk_drop l I0 hr2 hr3 d g cap _ hI h0c
                      rw [hANS] at hF hcall
                      have HFF := Lib.hid hF
                      clear hANS hF
                      go_wp2_with fail
                      refine hcall.mono ?_
                      rintro r w3 ⟨rfl, hI3, hg3⟩
                      have hP3 : Has w3 w.heap.size #[.string ⟨#[]⟩] lnT := hP.grown hg3 (by intro e; cases e; omega)
                      have hI4 := hI3.setStr hP3 (.string ANS)
                      have hg4 : w.grownBy w3 (some d) := (dk_grown_below (World.grownBy.refl w (some d)) hbX).trans hg3
                      have c3 : w3.cell? ⟨w.heap.size, 0, none⟩ = some (.string ⟨#[]⟩) := hP3.cell rfl
                      have z3 := hP3.free 0
                      have hg5 : w.grownBy (w3.setCell ⟨w.heap.size, 0, none⟩ (.string ANS)) (some d) := grownBy_setNew hg4 (a := ⟨w.heap.size, 0, none⟩) (Nat.le_refl _) _
                      have hP5 := (hP3.setCell 0 (.string ANS)).to rfl
                      go_wp2
                      refine door_ret rfl hP5 ?_
                      unfold LinePost
                      rw [HFF.out]
                      exact ⟨rfl, hI4, hg5⟩
                    · have hF : dkF l s = (errB (woE l I0), l) := by
                        unfold dkF
                        rw [HK.out]
                        unfold dkCmd
                        simp only
                        rw [show (List.map (fN rs) (List.range 1)).getD 0 0 = fN rs 0 from rfl, hI0', Int.toNat_natCast, if_neg hr]
                      have hcall := dk_drop_no l I0 (by simpa using hr) d g cap _ hI h0c
                      go_wp2_with fail
                      refine hcall.mono ?_
                      rintro r w3 ⟨rfl, hb3⟩
                      exact door_err (woE_99 l I0) rfl (hP.below hb3 hP.lt) (Nat.le_refl _) (hI.below hb3) (dk_grown_below (World.grownBy.refl w _) (hbX.trans (hb3.mono hbX.size))) hF
            --POOL
          · have hb : ((N : Int) != (nmN k : Int)) = true := by simp; omega
            have hF : dkF l s = (errB 3, l) := by
              unfold dkF
              rw [HF.out, if_neg (by rw [hN]; exact hNk)]
            clear HF
            go_wp2_with fail
            refine (must_no 3 rfl _).mono ?_
            rintro r w3 ⟨rfl, rfl⟩
            exact door_err ⟨by decide, by decide⟩ rfl hPx (Nat.le_refl _) hIx (dk_grown_below (World.grownBy.refl w _) hbx) hF
    · have hlF : dkLine l s = dkTell l (spB (wordsB s)) := if_pos hq
      have HF := Lib.hid hlF
      have hsp : (spB (wordsB s)).size < 4294967281 := by
        have h1 := join_lenN 200 32 ((wordsB s).map (·.data.toList)) (fun x hx => by
          obtain ⟨y, hy, rfl⟩ := List.mem_map.1 hx
          have := words_size hy
          rw [Array.length_toList]
          exact Nat.le_trans this hs)
        rw [List.length_map] at h1
        show (Lib.join ((wordsB s).map (·.data.toList)) [32]).toArray.size < _
        rw [List.size_toArray]
        have h2 : 201 * (wordsB s).length ≤ 201 * 201 := Nat.mul_le_mul_left _ (by omega)
        omega
      clear hq hlF
      go_wp2_with fail
      refine (join_sp (wordsB s) n hn (some ⟨A, 0, none⟩) n _ hS (Nat.le_refl _) (by omega) (fun x hx => by have := words_size hx; omega)).mono ?_
      rintro r w2 ⟨rfl, hb2⟩
      have hI2 := hIc.below hb2
      have hV2 := hVc.below (by have := hbc.size; omega) hb2
      have hP2 := hP1.below hb2 hP1.lt
      have hbc2 := hbc.trans (hb2.mono hbc.size)
      obtain ⟨mx, hm⟩ := hV2.mx
      obtain ⟨T, hT⟩ : ∃ T, spB (wordsB s) = T := ⟨_, rfl⟩
      rw [hT] at hsp HF ⊢
      clear hT
      cases he : evOf T with
      | none =>
        have hno := evOf_none he
        go_wp2_with fail
        refine (dk_tell_none T hsp hno d mx _ hm).mono ?_
        rintro r w3 ⟨rfl, hb3⟩
        have hF : dkF l s = (errB 3, l) := by
          unfold dkF
          rw [HF.out]
          unfold dkTell
          rw [he]
        exact door_err ⟨by decide, by decide⟩ rfl (hP2.below hb3 hP2.lt) (Nat.le_refl _) (hI2.below hb3) (dk_grown_below (World.grownBy.refl w _) (hbc2.trans (hb3.mono hbc2.size))) hF
      | some x =>
        obtain ⟨hx, hxl⟩ := evOf_some he
        go_wp2_with fail
        refine (dk_tell l T hsp x hx hxl d mx _ hI2 hm).mono ?_
        rintro r w3 (⟨hp, rfl, hI3, hg3⟩ | ⟨hp, rfl, hb3⟩)
        · have hF : dkF l s = (okB, l ++ [x]) := by
            unfold dkF
            rw [HF.out]
            unfold dkTell
            rw [he]
            simp only
            rw [if_pos hp]
          have HFF := Lib.hid hF
          have hP3 : Has w3 w.heap.size #[.string ⟨#[]⟩] lnT := hP2.grown hg3 (by intro e; cases e; omega)
          have c3 : w3.cell? ⟨w.heap.size, 0, none⟩ = some (.string ⟨#[]⟩) := hP3.cell rfl
          have z3 := hP3.free 0
          have hg4 : w.grownBy w3 (some d) := (dk_grown_below (World.grownBy.refl w (some d)) hbc2).trans hg3
          have hI4 := hI3.setStr hP3 (.string okB)
          have hg5 : w.grownBy (w3.setCell ⟨w.heap.size, 0, none⟩ (.string okB)) (some d) := grownBy_setNew hg4 (a := ⟨w.heap.size, 0, none⟩) (Nat.le_refl _) _
          have hP5 := (hP3.setCell 0 (.string okB)).to rfl
          clear hF hp
          go_wp2
          refine door_ret rfl hP5 ?_
          unfold LinePost
          rw [HFF.out]
          exact ⟨rfl, hI4, hg5⟩
        · have hF : dkF l s = (errB (played (l ++ [x])).2.2, l) := by
            unfold dkF
            rw [HF.out]
            unfold dkTell
            rw [he]
            simp only
            rw [if_neg hp]
          exact door_err (played_99 _) rfl (hP2.below hb3 hP2.lt) (Nat.le_refl _) (hI2.below hb3) (dk_grown_below (World.grownBy.refl w _) (hbc2.trans (hb3.mono hbc2.size))) hF
end Go.Proofs.YtfjbnhacfficnaaGreatDoor

/- Contract of the fast detector's run. -/
import Derived.Test.YtfjbnhacfficnaaGreatDoorFsG
import Derived.Test.YtfjbnhacfficnaaGreatDoorZEB
import Derived.Deep.DeepCutAuto
namespace Go.Proofs.YtfjbnhacfficnaaGreatDoor
open Go.RowKit

theorem idx8 (p : Nat → Value) {k : Nat} (hk : k < 8) (w : World) : (Instr.index 174 (.agg #[p 0, p 1, p 2, p 3, p 4, p 5, p 6, p 7]) (.int .i64 (k : Int))).run Tryz.prog w = .ok (p k) w := by
  rcases (by omega : k = 0 ∨ k = 1 ∨ k = 2 ∨ k = 3 ∨ k = 4 ∨ k = 5 ∨ k = 6 ∨ k = 7) with rfl | rfl | rfl | rfl | rfl | rfl | rfl | rfl <;> kernel_rfl
theorem ptK_all {P : Nat → Nat} {x : Nat} (hx : x < 8) : ptK P 8 x = .pointer (some ⟨P x, 0, none⟩) := by simp [ptK, hx]
/-- What run yields: flags, a number. -/
def QrunPost (l : List Ev) (w : World) (r : Ending) (w' : World) : Prop := ∃ v, r = .returned (.tuple #[v, .int .i64 (slowUp l 8), .int .i64 0]) ∧ w'.ownsRow w.heap.size 78 3 v (qFlags l l.length).length (evL (qFlags l l.length)) ∧ Below w.heap.size w w'
theorem qrun_err (l : List Ev) (a : Option Addr) (c : Nat) (w : World) (h : EvS w a l) (he : (played l).2.2 ≠ 0) :
    Calls Tryz.prog 63 #[.slice a l.length c] w fun r w' => r = .returned (.tuple #[.slice none 0 0, .int .i64 0, .int .i64 (played l).2.2]) ∧ Below w.heap.size w w' := by
  have e2 : ((played l).2.2 != 0) = true := by simpa using he
  go_enter Tryz.func63, Tryz.ntmps63
  go_wp2_with fail
  refine (check_any l a c _ h).mono ?_
  rintro r w1 ⟨rfl, hb⟩
  go_wp2
  go_ret3
  exact ⟨rfl, hb⟩

set_option maxRecDepth 100000 in
set_option maxHeartbeats 8000000 in
theorem qrun_ok (l : List Ev) (a : Option Addr) (c : Nat) (w : World) (h : EvS w a l) (he : (played l).2.2 = 0) :
    Calls Tryz.prog 63 #[.slice a l.length c] w (QrunPost l w) := by
  have e2 : ((played l).2.2 != 0) = false := by simpa using he
  have hl80 := (played_evs he).1
  have hEv := (played_evs he).2
  have HE := Lib.hid he
  have hzp := zero_ptrs
  obtain ⟨f0, hi, hz0, hz1, hz2⟩ := info_parts infoF
  clear he
  go_enter Tryz.func63, Tryz.ntmps63
  go_wp2_with fail
  refine (check_any l a c _ h).mono ?_
  rintro r w1 ⟨rfl, hb⟩
  replace h := h.below hb
  have h0 := h
  have hs1 := hb.size
  have hC0 : Cells (w1.alloc (.cells (pA (ptK (fun _ => 0) 0)) 174)) w1.heap.size (fun _ => 0) 0 (fun _ => Fc.first) := ⟨Has.new w1 _ _, fun x hx => absurd hx (by omega), fun x hx => absurd hx (by omega), fun x y hx => absurd hx (by omega)⟩
  have hb0 := (Below.refl w1.heap.size w1).alloc (Nat.le_refl _) (.cells (pA (ptK (fun _ => 0) 0)) 174)
  go_wp2_with fail
  clear hzp
  go_loopw [8, 25] (fun _ i wr => ∃ (k : Nat) (P : Nat → Nat), k ≤ 8 ∧ i = .int .i64 k ∧ Cells wr w1.heap.size P k (fun _ => Fc.first) ∧ Below w1.heap.size w1 wr) (fun _ i _ => 8 - (intOf i).toNat)
  case atStart => exact ⟨0, _, Nat.zero_le _, rfl, hC0, hb0⟩
  case round =>
    clear hC0 hb0
    obtain ⟨k, P, hk, rfl, hC, hb1⟩ := hrel
    by_cases hlt : k < 8
    · have i0 : (0 : Int) ≤ k := by omega
      have i8 : (k : Int) < 8 := by omega
      go_wp2_with fail
      refine (newCell_any _).mono ?_
      rintro r w2 ⟨rfl, hn, hk2⟩
      have hA2 := hC.arr.below hk2 hC.arr.lt
      have d1 := hA2.cell (pA_get _ hlt)
      have d2 := hA2.free k
      have hb2 := hb1.trans (hk2.mono hb1.size)
      go_wp2
      go_roundw
      case rel => exact ⟨k + 1, _, by omega, by go_num, hC.more hlt hk2 hn rfl, hb2.setCell (Nat.le_refl _) _⟩
      case measure => (simp [intOf]; try omega)
    · obtain rfl : k = 8 := by omega
      have hC1 : Cells wr w1.heap.size P 8 (fun x => cellAt l x 0) := hC.to fun x _ => rfl
      have hbw := hb.trans (hb1.mono hb.size)
      clear hC
      go_wp2_with fail
      refine (newClocks_any _).mono ?_
      rintro r w5 ⟨rfl, hK, hk5⟩
      have hC5 := hC1.below hk5
      have hPl : ∀ x, x < 8 → P x < wr.heap.size := fun x hx => (hC1.cell x hx).lt
      have hAl := hC1.arr.lt
      have hb5 := hb1.trans (hk5.mono hb1.size)
      have hO0 := World.ownsRow_nil w5 w5.heap.size 78 3
      have hKl := hK.lt
      obtain ⟨KB0, hKB⟩ : ∃ q, wr.heap.size = q := ⟨_, rfl⟩
      rw [hKB] at hK hKl hPl hAl
      rw [hKB]
      clear hC1 hk5 hb1 hbw h
      --LATER
      have hb0w := hb
      go_wp2_with fail
      go_loopw [9, 35] (fun v i wx => ∃ k : Nat, k ≤ l.length ∧ i = .int .i64 k ∧ Has wx KB0 (kpC (fAt l k).kp) 172 ∧ Cells wx w1.heap.size P 8 (fun x => cellAt l x k) ∧ wx.ownsRow w5.heap.size 78 3 v (qFlags l k).length (evL (qFlags l k)) ∧ w5.heap.size ≤ wx.heap.size ∧ Below w1.heap.size w1 wx) (fun _ i _ => l.length - (intOf i).toNat)
      case atStart => exact ⟨0, Nat.zero_le _, rfl, hK, hC5, hO0, Nat.le_refl _, hb5⟩
      case round =>
        clear hK hC5 hO0 hb5
        obtain ⟨k, hk, rfl, hK, hC, hown, hsz, hb⟩ := hrel
        by_cases hlt : k < l.length
        · obtain ⟨b', o', rfl, d0, d1, d2⟩ := (h0.below hb).at hlt
          have hE := hEv _ (List.getElem_mem hlt)
          rw [← evAt_lt hlt] at d0 d1 d2 hE
          have hsh : ∃ (K : Int) (t o : Nat), evAt l k = ⟨K, t, o⟩ := by
            obtain ⟨h1, h2, h3, h4⟩ := isEv_iff.1 hE
            refine ⟨(evAt l k).k, (evAt l k).t.toNat, (evAt l k).o.toNat, ?_⟩
            rw [Int.toNat_of_nonneg h1, Int.toNat_of_nonneg h3]
          obtain ⟨K, t, o, hx⟩ := hsh
          have hvw : vw l k = (fAt l k).kp.th t := by rw [vw, hx]; simp; rfl
          rw [hx] at d0 d1 d2 hE
          simp only at d0 d1 d2
          have ht6 : t < 6 := by have := (isEv_iff.1 hE).2.1; simp only at this; omega
          have hN := Has.new wr (evC ⟨K, t, o⟩) 55
          have hK5 := hK.alloc (.cells (evC ⟨K, t, o⟩) 55)
          have hC5 := hC.alloc (.cells (evC ⟨K, t, o⟩) 55)
          have ho5 := hown.alloc (.cells (evC ⟨K, t, o⟩) 55)
          have hb5 := hb.alloc hb.size (.cells (evC ⟨K, t, o⟩) 55)
          have hs5 : w5.heap.size ≤ (wr.alloc (.cells (evC ⟨K, t, o⟩) 55)).heap.size := by simp; omega
          clear hK hC hown hb
          by_cases k1 : K = 1
          · subst k1
            have ho8 : o < 8 := by have := (isEv_iff.1 hE).2.2.2; simp [manyOf] at this; omega
            have hat : ∀ x : Nat, isAt (evAt l k) x = decide (x = o) := fun x => by rw [hx]; simp [isAt]; omega
            have hkd : qKind l k = ((cellAt l o k).acc ⟨1, t, o⟩ (vw l k)).2 := by
              have := hat o
              simp only [qKind, hx, Int.toNat_natCast] at this ⊢
              rw [if_pos (by rw [this]; simp)]
            have hcl : ∀ x, x < 8 → (if x = o then ((cellAt l o k).acc ⟨1, t, o⟩ (vw l k)).1 else cellAt l x k) = cellAt l x (k + 1) := by
              intro x _
              simp only [cellAt]
              rw [hat x]
              by_cases e : x = o
              · subst e; simp [hx]
              · simp [e]
            have hfc : kpC (fAt l (k + 1)).kp = kpC (fAt l k).kp := by rw [fAt_acc (.inl (by rw [hx]))]
            have hok := cellAt_ok hEv o k (by omega)
            have hok2 : FcOk (cellAt l o k) 1000 := ⟨hok.wt, hok.rt, hok.slow.1, by have := hok.slow.2; omega⟩
            have HX := Lib.hid (show (evAt l k).o = (o : Int) by rw [hx])
            have HCL := Lib.hid hcl
            have HC := Lib.hid hfc.symm
            clear hat hcl hfc hx hok
            rw [hvw] at hkd HCL
            obtain ⟨kd, hkk⟩ : ∃ kd, ((cellAt l o k).acc ⟨1, t, o⟩ ((fAt l k).kp.th t)).2 = kd := ⟨_, rfl⟩
            have HKD := Lib.hid (hkd.trans hkk)
            have hac := faccess_any (cellAt l o k) 1 (by decide) t o ((fAt l k).kp.th t) (P o)
            rw [hkk] at hac
            clear hkd hkk hvw
            have i0 : (0 : Int) ≤ t := by omega
            have i6 : (t : Int) < 6 := by omega
            have j0 : (0 : Int) ≤ o := by omega
            have j8 : (o : Int) < 8 := by omega
            go_wp2_with fail
            clear d0 d1 d2
            generalize wr.alloc (.cells (evC ⟨1, t, o⟩) 55) = w6 at *
            have x0 : w6.cell? ⟨wr.heap.size, 0, none⟩ = some (.int .i64 1) := hN.cell rfl
            have x1 : w6.cell? ⟨wr.heap.size, 1, none⟩ = some (.int .i64 (t : Int)) := hN.cell rfl
            have x2 : w6.cell? ⟨wr.heap.size, 2, none⟩ = some (.int .i64 (o : Int)) := hN.cell rfl
            obtain ⟨a0, a1, a2, a3, a4, a5⟩ := hK5.th6 ht6
            have pp : w6.cell? ⟨w1.heap.size, o, none⟩ = some (.pointer (some ⟨P o, 0, none⟩)) := by rw [← ptK_all ho8]; exact hC5.arr.cell (pA_get _ ho8)
            have hPo := hPl o ho8
            go_cut [13] (fun p wz => p = .int .i64 kd ∧ Has wz KB0 (kpC (fAt l k).kp) 172 ∧ Cells wz w1.heap.size P 8 (fun x => cellAt l x (k + 1)) ∧ Has wz wr.heap.size (evC ⟨1, t, o⟩) 55 ∧ wz.ownsRow w5.heap.size 78 3 u9 (qFlags l k).length (evL (qFlags l k)) ∧ w5.heap.size ≤ wz.heap.size ∧ Below w1.heap.size w1 wz)
            case first =>
              go_region_law (first | (go_simp; go_at_call 94; refine (hac _ (hC5.drew.cell o ho8) hok2 ht6).mono ?_; rintro r w2 ⟨rfl, ht⟩))
              all_goals
                have hK6 := hK5.drew.grown ht.grown (fun e => by cases e; omega)
                have hC6 := (hC5.drew.put ho8 ht).to HCL.out
                have hN6 := hN.drew.grown ht.grown (fun e => by injection e with e1; omega)
                have ho6 : w2.ownsRow w5.heap.size 78 3 u9 (qFlags l k).length (evL (qFlags l k)) := own_drew_kept ho5 ht.grown (fun q hq e => by have := (ho5.lt q hq).1; cases e; omega)
                have hs6 : w5.heap.size ≤ w2.heap.size := Nat.le_trans hs5 ht.grown.size
                have hb6 := hb5.drew.grown ht.grown (by have := hb5.size; simpa using this) (fun q hq => by cases hq; have := hC5.above o ho8; omega)
                go_wp2
                go_meet
                exact ⟨rfl, hK6, hC6, hN6, ho6, hs6, hb6⟩
            case rest =>
              obtain ⟨rfl, hK6, hC6, hN6, ho6, hs6, hb6⟩ := hcut
              clear hK5 hC5 hb5 ho5 hN a0 a1 a2 a3 a4 a5 x0 x1 x2 pp hac
              have x2 : wc.cell? ⟨wr.heap.size, 2, none⟩ = some (.int .i64 (o : Int)) := hN6.cell rfl
              by_cases hz : kd = 0
              · have hff : qFlags l (k + 1) = qFlags l k := by simp only [qFlags]; rw [if_pos (HKD.out.trans hz)]
                have HFF := Lib.hid hff
                subst hz
                clear hff
                go_wp2
                go_roundw
                case rel => exact ⟨k + 1, by omega, by go_num, HC.out ▸ hK6, hC6, by rw [HFF.out]; exact ho6, hs6, hb6⟩
                case measure => (simp [intOf]; try omega)
              · have hff : qFlags l (k + 1) = qFlags l k ++ [⟨k, o, kd⟩] := by simp only [qFlags]; rw [if_neg (fun e => hz (HKD.out.symm.trans e)), HKD.out, HX.out]
                have HFF := Lib.hid hff
                have hzb : (kd != 0) = true := by simpa using hz
                clear hff hz
                have hT := Has.new wc (evC ⟨k, o, kd⟩) 78
                have hb7 := hb6.alloc hb6.size (.cells (evC ⟨k, o, kd⟩) 78)
                have hfl := qFlags_len l k
                go_wp2_with (at_builtin; refine app_list _ rfl (.tmp 66) (.tmp 72) 73 rfl Tryz.underlying73 hi hz0 hz1 hz2 rfl (by decide) rfl (ho6.alloc _) rfl (news := evL [⟨k, o, kd⟩]) ⟨rfl, .inr ⟨_, rfl, fun j u hu => hT.cell_add (by simpa [evL] using hu)⟩⟩ (by intro q hq; simp [evL] at hq; rcases hq with rfl | rfl | rfl <;> rfl) ?c3 ?c4 ?c5 ?_)
                case c3 => unfold maxLen; omega
                case c4 => omega
                case c5 => simp; omega
                intro v8 w8 hAp
                have hg8 := hAp.grown
                have hv8 : ∀ q, u9.ownBlock = some q → w5.heap.size ≤ q := fun q hq => (ho6.lt q hq).1
                have hb8 := hb7.grown hg8 (by have := hb7.size; omega) (fun q hq => by have := hv8 q hq; omega)
                have hK8 := (hK6.alloc (.cells (evC ⟨k, o, kd⟩) 78)).grown hg8 (fun e => by have := hv8 _ e.symm; omega)
                have hC8 := (hC6.alloc (.cells (evC ⟨k, o, kd⟩) 78)).grown hg8 (fun e => by have := hv8 _ e; omega) (fun x hx e => by have := hv8 _ e; have := hPl x hx; omega)
                have ho8 : w8.ownsRow w5.heap.size 78 3 v8 (qFlags l (k + 1)).length (evL (qFlags l (k + 1))) := by
                  have := hAp.own
                  rw [HFF.out, evL_append _ [_], List.length_append]
                  exact this
                clear hAp hT hb7 hv8
                go_wp2
                go_roundw
                case rel => exact ⟨k + 1, by omega, by go_num, HC.out ▸ hK8, hC8, ho8, Nat.le_trans (by simp; omega) hg8.size, hb8⟩
                case measure => (simp [intOf]; try omega)
          · by_cases k2 : K = 2
            · subst k2
              have ho8 : o < 8 := by have := (isEv_iff.1 hE).2.2.2; simp [manyOf] at this; omega
              have hat : ∀ x : Nat, isAt (evAt l k) x = decide (x = o) := fun x => by rw [hx]; simp [isAt]; omega
              have hkd : qKind l k = ((cellAt l o k).acc ⟨2, t, o⟩ (vw l k)).2 := by
                have := hat o
                simp only [qKind, hx, Int.toNat_natCast] at this ⊢
                rw [if_pos (by rw [this]; simp)]
              have hcl : ∀ x, x < 8 → (if x = o then ((cellAt l o k).acc ⟨2, t, o⟩ (vw l k)).1 else cellAt l x k) = cellAt l x (k + 1) := by
                intro x _
                simp only [cellAt]
                rw [hat x]
                by_cases e : x = o
                · subst e; simp [hx]
                · simp [e]
              have hfc : kpC (fAt l (k + 1)).kp = kpC (fAt l k).kp := by rw [fAt_acc (.inr (by rw [hx]))]
              have hok := cellAt_ok hEv o k (by omega)
              have hok2 : FcOk (cellAt l o k) 1000 := ⟨hok.wt, hok.rt, hok.slow.1, by have := hok.slow.2; omega⟩
              have HX := Lib.hid (show (evAt l k).o = (o : Int) by rw [hx])
              have HCL := Lib.hid hcl
              have HC := Lib.hid hfc.symm
              clear hat hcl hfc hx hok
              rw [hvw] at hkd HCL
              obtain ⟨kd, hkk⟩ : ∃ kd, ((cellAt l o k).acc ⟨2, t, o⟩ ((fAt l k).kp.th t)).2 = kd := ⟨_, rfl⟩
              have HKD := Lib.hid (hkd.trans hkk)
              have hac := faccess_any (cellAt l o k) 2 (by decide) t o ((fAt l k).kp.th t) (P o)
              rw [hkk] at hac
              clear hkd hkk hvw
              have i0 : (0 : Int) ≤ t := by omega
              have i6 : (t : Int) < 6 := by omega
              have j0 : (0 : Int) ≤ o := by omega
              have j8 : (o : Int) < 8 := by omega
              go_wp2_with fail
              clear d0 d1 d2
              generalize wr.alloc (.cells (evC ⟨2, t, o⟩) 55) = w6 at *
              have x0 : w6.cell? ⟨wr.heap.size, 0, none⟩ = some (.int .i64 2) := hN.cell rfl
              have x1 : w6.cell? ⟨wr.heap.size, 1, none⟩ = some (.int .i64 (t : Int)) := hN.cell rfl
              have x2 : w6.cell? ⟨wr.heap.size, 2, none⟩ = some (.int .i64 (o : Int)) := hN.cell rfl
              obtain ⟨a0, a1, a2, a3, a4, a5⟩ := hK5.th6 ht6
              have pp : w6.cell? ⟨w1.heap.size, o, none⟩ = some (.pointer (some ⟨P o, 0, none⟩)) := by rw [← ptK_all ho8]; exact hC5.arr.cell (pA_get _ ho8)
              have hPo := hPl o ho8
              go_cut [13] (fun p wz => p = .int .i64 kd ∧ Has wz KB0 (kpC (fAt l k).kp) 172 ∧ Cells wz w1.heap.size P 8 (fun x => cellAt l x (k + 1)) ∧ Has wz wr.heap.size (evC ⟨2, t, o⟩) 55 ∧ wz.ownsRow w5.heap.size 78 3 u9 (qFlags l k).length (evL (qFlags l k)) ∧ w5.heap.size ≤ wz.heap.size ∧ Below w1.heap.size w1 wz)
              case first =>
                go_region_law (first | (go_simp; go_at_call 94; refine (hac _ (hC5.drew.cell o ho8) hok2 ht6).mono ?_; rintro r w2 ⟨rfl, ht⟩))
                all_goals
                  have hK6 := hK5.drew.grown ht.grown (fun e => by cases e; omega)
                  have hC6 := (hC5.drew.put ho8 ht).to HCL.out
                  have hN6 := hN.drew.grown ht.grown (fun e => by injection e with e1; omega)
                  have ho6 : w2.ownsRow w5.heap.size 78 3 u9 (qFlags l k).length (evL (qFlags l k)) := own_drew_kept ho5 ht.grown (fun q hq e => by have := (ho5.lt q hq).1; cases e; omega)
                  have hs6 : w5.heap.size ≤ w2.heap.size := Nat.le_trans hs5 ht.grown.size
                  have hb6 := hb5.drew.grown ht.grown (by have := hb5.size; simpa using this) (fun q hq => by cases hq; have := hC5.above o ho8; omega)
                  go_wp2
                  go_meet
                  exact ⟨rfl, hK6, hC6, hN6, ho6, hs6, hb6⟩
              case rest =>
                obtain ⟨rfl, hK6, hC6, hN6, ho6, hs6, hb6⟩ := hcut
                clear hK5 hC5 hb5 ho5 hN a0 a1 a2 a3 a4 a5 x0 x1 x2 pp hac
                have x2 : wc.cell? ⟨wr.heap.size, 2, none⟩ = some (.int .i64 (o : Int)) := hN6.cell rfl
                by_cases hz : kd = 0
                · have hff : qFlags l (k + 1) = qFlags l k := by simp only [qFlags]; rw [if_pos (HKD.out.trans hz)]
                  have HFF := Lib.hid hff
                  subst hz
                  clear hff
                  go_wp2
                  go_roundw
                  case rel => exact ⟨k + 1, by omega, by go_num, HC.out ▸ hK6, hC6, by rw [HFF.out]; exact ho6, hs6, hb6⟩
                  case measure => (simp [intOf]; try omega)
                · have hff : qFlags l (k + 1) = qFlags l k ++ [⟨k, o, kd⟩] := by simp only [qFlags]; rw [if_neg (fun e => hz (HKD.out.symm.trans e)), HKD.out, HX.out]
                  have HFF := Lib.hid hff
                  have hzb : (kd != 0) = true := by simpa using hz
                  clear hff hz
                  have hT := Has.new wc (evC ⟨k, o, kd⟩) 78
                  have hb7 := hb6.alloc hb6.size (.cells (evC ⟨k, o, kd⟩) 78)
                  have hfl := qFlags_len l k
                  go_wp2_with (at_builtin; refine app_list _ rfl (.tmp 66) (.tmp 72) 73 rfl Tryz.underlying73 hi hz0 hz1 hz2 rfl (by decide) rfl (ho6.alloc _) rfl (news := evL [⟨k, o, kd⟩]) ⟨rfl, .inr ⟨_, rfl, fun j u hu => hT.cell_add (by simpa [evL] using hu)⟩⟩ (by intro q hq; simp [evL] at hq; rcases hq with rfl | rfl | rfl <;> rfl) ?c3 ?c4 ?c5 ?_)
                  case c3 => unfold maxLen; omega
                  case c4 => omega
                  case c5 => simp; omega
                  intro v8 w8 hAp
                  have hg8 := hAp.grown
                  have hv8 : ∀ q, u9.ownBlock = some q → w5.heap.size ≤ q := fun q hq => (ho6.lt q hq).1
                  have hb8 := hb7.grown hg8 (by have := hb7.size; omega) (fun q hq => by have := hv8 q hq; omega)
                  have hK8 := (hK6.alloc (.cells (evC ⟨k, o, kd⟩) 78)).grown hg8 (fun e => by have := hv8 _ e.symm; omega)
                  have hC8 := (hC6.alloc (.cells (evC ⟨k, o, kd⟩) 78)).grown hg8 (fun e => by have := hv8 _ e; omega) (fun x hx e => by have := hv8 _ e; have := hPl x hx; omega)
                  have ho8 : w8.ownsRow w5.heap.size 78 3 v8 (qFlags l (k + 1)).length (evL (qFlags l (k + 1))) := by
                    have := hAp.own
                    rw [HFF.out, evL_append _ [_], List.length_append]
                    exact this
                  clear hAp hT hb7 hv8
                  go_wp2
                  go_roundw
                  case rel => exact ⟨k + 1, by omega, by go_num, HC.out ▸ hK8, hC8, ho8, Nat.le_trans (by simp; omega) hg8.size, hb8⟩
                  case measure => (simp [intOf]; try omega)
            · have hB : KB (fAt l k).kp := (KBn.at l k).kb (by omega)
              have hsy : kSync (fAt l k).kp ⟨K, t, o⟩ = (fAt l (k + 1)).kp := by rw [kSync_eq, ← hx]; rfl
              have hat : ∀ x : Nat, isAt (evAt l k) x = false := fun x => by rw [hx]; simp [isAt, k1, k2]
              have hkd : qKind l k = 0 := by simp only [qKind]; rw [hat]; rfl
              have hff : qFlags l (k + 1) = qFlags l k := by simp only [qFlags]; rw [if_pos hkd]
              have hcl : ∀ x, x < 8 → cellAt l x k = cellAt l x (k + 1) := fun x _ => by simp only [cellAt]; rw [hat]; rfl
              have n1 : (K != 1) = true := by simpa using k1
              have n2 : (K != 2) = true := by simpa using k2
              have HSY := Lib.hid hsy
              have HFF := Lib.hid hff
              have HCL := Lib.hid hcl
              have hn12 : ¬ (K = 1 ∨ K = 2) := fun e => e.elim k1 k2
              clear hsy hkd hff hat hcl hvw hx k1 k2
              go_wp2_with fail
              refine (sync_any (fAt l k).kp K t o KB0 _ hK5 hB hE hn12).mono ?_
              rintro r w2 ⟨rfl, ht⟩
              have hK6 := ht.has
              rw [HSY.out] at hK6
              have hC6 := (hC5.grown ht.grown (fun e => by cases e; omega) (fun x hx e => by cases e; have := hPl x hx; omega)).to HCL.out
              have ho6 := ho5.kept ht.grown (.inr (fun e => by have := (ho5.lt _ e).1; omega))
              have hs6 := Nat.le_trans hs5 ht.grown.size
              have hb6 := hb5.grown ht.grown (by have := hb5.size; simpa using this) (fun q hq => by cases hq; omega)
              clear ht hK5 hC5 ho5 hb5 hN d0 d1 d2
              go_wp2
              go_roundw
              case rel => exact ⟨k + 1, by omega, by go_num, hK6, hC6, by rw [HFF.out]; exact ho6, hs6, hb6⟩
              case measure => (simp [intOf]; try omega)
        · obtain rfl : k = l.length := by omega
          have hpc : ∀ x, x < 8 → wr.cell? ⟨w1.heap.size, x, none⟩ = some (.pointer (some ⟨P x, 0, none⟩)) := fun x hx => by rw [← ptK_all hx]; exact hC.arr.cell (pA_get _ hx)
          obtain ⟨p0, p1, p2, p3, p4, p5, p6, p7⟩ : _ ∧ _ ∧ _ ∧ _ ∧ _ ∧ _ ∧ _ ∧ _ := ⟨hpc 0 (by omega), hpc 1 (by omega), hpc 2 (by omega), hpc 3 (by omega), hpc 4 (by omega), hpc 5 (by omega), hpc 6 (by omega), hpc 7 (by omega)⟩
          clear hpc
          go_wp2_with fail
          clear p0 p1 p2 p3 p4 p5 p6 p7
          go_loopw [14, 76] (fun v i wy => ∃ (k : Nat) (q : Int), k ≤ 8 ∧ i = .int .i64 k ∧ v = .int .i64 q ∧ 0 ≤ q ∧ q ≤ 80 * k ∧ q = slowUp l k ∧ wy = wr) (fun _ i _ => 8 - (intOf i).toNat)
          case atStart => exact ⟨0, 0, Nat.zero_le _, rfl, rfl, by omega, by omega, rfl, rfl⟩
          case round =>
            obtain ⟨k, q, hk8, rfl, rfl, hq0, hq1, hqe, rfl⟩ := hrel
            have HQ := Lib.hid hqe
            clear hqe
            by_cases hlt8 : k < 8
            · have hix := idx8 (fun x => .pointer (some ⟨P x, 0, none⟩)) hlt8
              have hsl := (cellAt_ok hEv k l.length (Nat.le_refl _)).slow
              have f3 : wr.cell? ⟨P k, 3, none⟩ = some (.int .i64 (cellAt l k l.length).slow) := (hC.cell k hlt8).cell rfl
              have HQ2 := Lib.hid (show q + (cellAt l k l.length).slow = slowUp l (k + 1) by rw [HQ.out]; rfl)
              generalize (cellAt l k l.length).slow = sl at *
              have hw := IntWalk.i64_in (q + sl) (by omega)
              go_wp2
              go_roundw
              case rel => exact ⟨k + 1, q + sl, by omega, by go_num, rfl, by omega, by omega, HQ2.out, trivial⟩
              case measure => (simp [intOf]; try omega)
            · obtain rfl : k = 8 := by omega
              go_wp2
              go_ret3
              exact ⟨_, by rw [← HQ.out]; rfl, own_low hown (by omega), hb0w.trans (hb.mono (by omega))⟩
end Go.Proofs.YtfjbnhacfficnaaGreatDoor

/- Joined texts. -/
import Derived.Test.YtfjbnhacfficnaaGreatDoorSyncA
import Derived.Test.YtfjbnhacfficnaaGreatDoorSyncB
import Derived.Test.YtfjbnhacfficnaaGreatDoorSyncC
import Derived.Test.YtfjbnhacfficnaaGreatDoorAcc
import Derived.Test.YtfjbnhacfficnaaGreatDoorZB
import Derived.Test.YtfjbnhacfficnaaGreatDoorZA
import Derived.Deep.DeepCutAuto
import Derived.Deep.RegionHeld3

/- Contract of the full detector's run. -/
namespace Go.Proofs.YtfjbnhacfficnaaGreatDoor
open Go.RowKit

theorem sync_any (s : Kp) (K : Int) (t o b : Nat) (w : World) (h : Has w b (kpC s) 172) (hB : KB s) (hE : isEv ⟨K, t, o⟩ = true) (hk : ¬ (K = 1 ∨ K = 2)) :
    Calls Tryz.prog 91 #[.pointer (some ⟨b, 0, none⟩), evV ⟨K, t, o⟩] w fun r w' => r = .returned (.tuple #[]) ∧ KTook w w' b (kSync s ⟨K, t, o⟩) := by
  obtain ⟨h1, h2, h3, h4⟩ := isEv_iff.1 hE
  simp only at h1 h2 h3 h4
  have hp := manyOf_pos (k := K) (by omega)
  have ht : t < 6 := by omega
  rcases hp with rfl | rfl | rfl | rfl | rfl | rfl | rfl | rfl <;> simp [manyOf] at h4
  · exact absurd (.inl rfl) hk
  · exact absurd (.inr rfl) hk
  · exact ksync3 s t o b w h hB ht (by omega)
  · exact ksync4 s t o b w h hB ht (by omega)
  · exact ksync5 s t o b w h hB ht (by omega)
  · exact ksync6 s t o b w h hB ht (by omega)
  · exact ksync7 s t o b w h hB ht (by omega)
  · exact ksync8 s t o b w h hB ht (by omega)
theorem rdAt_acc {l : List Ev} {m t o : Nat} {K : Int} (he : evAt l m = ⟨K, t, o⟩) : (K = 1 → rdAt l (m + 1) = setV (rdAt l m) o t (vw l m t)) ∧ (K ≠ 1 → rdAt l (m + 1) = rdAt l m) ∧ (K = 2 → wrAt l (m + 1) = setV (wrAt l m) o t (vw l m t)) ∧ (K ≠ 2 → wrAt l (m + 1) = wrAt l m) := by
  refine ⟨fun hk => ?_, fun hk => ?_, fun hk => ?_, fun hk => ?_⟩
  all_goals
    funext y τ
    simp only [rdAt, wrAt, he, setV]
  · subst hk
    by_cases e : y = o ∧ τ = t
    · obtain ⟨rfl, rfl⟩ := e
      simp
    · rw [if_neg e, if_neg (by omega)]
  · rw [if_neg (fun h => hk h.1)]
  · subst hk
    by_cases e : y = o ∧ τ = t
    · obtain ⟨rfl, rfl⟩ := e
      simp
    · rw [if_neg e, if_neg (by omega)]
  · rw [if_neg (fun h => hk h.1)]
theorem vars_size : (Tryz.prog.info? 116).map (·.size) = some 96 := by kernel_rfl
theorem vars_zero (w : World) : (zeroValue 116).run Tryz.prog w = .ok (.agg (vrC (fun _ _ => 0) fun _ _ => 0)) w := by kernel_rfl
theorem infoF : (Tryz.prog.info? 78).map (fun i => (i.zero, i.size, i.bytes)) = some (some (evV ⟨0, 0, 0⟩), 3, 24) := by kernel_rfl
/-- What run yields: the flags, the variables' cells. -/
def FrunPost (l : List Ev) (w : World) (r : Ending) (w' : World) : Prop := ∃ v, r = .returned (.tuple #[v, .agg (vrC (rdAt l l.length) (wrAt l l.length))]) ∧ w'.ownsRow w.heap.size 78 3 v (fFlags l l.length).length (evL (fFlags l l.length)) ∧ Below w.heap.size w w'

theorem own_drew_kept {w w' : World} {base e size n : Nat} {v : Value} {xs : List Value} {row : Option Nat} (h : w.ownsRow base e size v n xs) (g : w.drew.grownBy w' row) (hr : ∀ q, v.ownBlock = some q → row ≠ some q) : w'.ownsRow base e size v n xs :=
  World.ownsRow.kept (w := w.drew) h g (by
    cases hv : v.ownBlock with
    | none => exact .inl rfl
    | some q => exact .inr fun e => hr q hv e.symm)
set_option maxRecDepth 100000 in
set_option maxHeartbeats 8000000 in
theorem frun_ok (l : List Ev) (a : Option Addr) (c : Nat) (w : World) (h : EvS w a l) (he : (played l).2.2 = 0) :
    Calls Tryz.prog 62 #[.slice a l.length c] w (FrunPost l w) := by
  have hl80 := (played_evs he).1
  have hEv := (played_evs he).2
  have HE := Lib.hid he
  have hzv := vars_zero
  obtain ⟨f0, hi, hz0, hz1, hz2⟩ := info_parts infoF
  clear he
  go_enter Tryz.func62, Tryz.ntmps62
  go_wp2_with fail
  have hV := Has.new w (vrC (fun _ _ => 0) fun _ _ => 0) 116
  have hb := (Below.refl w.heap.size w).alloc (Nat.le_refl _) (.cells (vrC (fun _ _ => 0) fun _ _ => 0) 116)
  refine (newClocks_any _).mono ?_
  rintro r w1 ⟨rfl, hK, hk1⟩
  rw [World.size_alloc] at hK hk1 ⊢
  replace hV := hV.below hk1 (by omega)
  replace hb := hb.trans (hk1.mono (by omega))
  clear hk1 hzv
  have hO0 := World.ownsRow_nil w1 (w.heap.size + 2) 78 3
  go_wp2_with fail
  go_loopw [2, 11] (fun v i wr => ∃ k : Nat, k ≤ l.length ∧ i = .int .i64 k ∧ Has wr (w.heap.size + 1) (kpC (fAt l k).kp) 172 ∧ Has wr w.heap.size (vrC (rdAt l k) (wrAt l k)) 116 ∧ wr.ownsRow (w.heap.size + 2) 78 3 v (fFlags l k).length (evL (fFlags l k)) ∧ Below w.heap.size w wr) (fun _ i _ => l.length - (intOf i).toNat)
  case atStart => exact ⟨0, Nat.zero_le _, rfl, hK, hV, hO0, hb⟩
  case round =>
    clear hK hV hO0 hb
    obtain ⟨k, hk, rfl, hK, hV, hown, hb⟩ := hrel
    by_cases hlt : k < l.length
    · obtain ⟨b', o', rfl, d0, d1, d2⟩ := (h.below hb).at hlt
      have hE := hEv _ (List.getElem_mem hlt)
      rw [← evAt_lt hlt] at d0 d1 d2 hE
      have hsh : ∃ (K : Int) (t o : Nat), evAt l k = ⟨K, t, o⟩ := by
        obtain ⟨h1, h2, h3, h4⟩ := isEv_iff.1 hE
        refine ⟨(evAt l k).k, (evAt l k).t.toNat, (evAt l k).o.toNat, ?_⟩
        rw [Int.toNat_of_nonneg h1, Int.toNat_of_nonneg h3]
      obtain ⟨K, t, o, hx⟩ := hsh
      have hvw : vw l k = (fAt l k).C t := by rw [vw, hx]; simp
      obtain ⟨hr1, hr2, hr3, hr4⟩ := rdAt_acc hx
      rw [hx] at d0 d1 d2 hE
      simp only at d0 d1 d2
      have ht6 : t < 6 := by have := (isEv_iff.1 hE).2.1; simp only at this; omega
      have hKlt := hK.lt
      have hN := Has.new wr (evC ⟨K, t, o⟩) 55
      have hK5 := hK.alloc (.cells (evC ⟨K, t, o⟩) 55)
      have hV5 := hV.alloc (.cells (evC ⟨K, t, o⟩) 55)
      have ho5 := hown.alloc (.cells (evC ⟨K, t, o⟩) 55)
      have hb5 := hb.alloc hb.size (.cells (evC ⟨K, t, o⟩) 55)
      clear hK hV hown hb
      by_cases k1 : K = 1
      · subst k1
        have ho8 : o < 8 := by have := (isEv_iff.1 hE).2.2.2; simp [manyOf] at this; omega
        have hkd : fKind l k = aKind 1 (rdAt l k o) (wrAt l k o) ((fAt l k).kp.th t) := by simp [fKind, aKind, hx, hvw, Fk.kp]; rfl
        have hrd : vrC (rdAt l (k + 1)) (wrAt l (k + 1)) = vrC (setV (rdAt l k) o t ((fAt l k).kp.th t t)) (wrAt l k) := by rw [hr1 rfl, hr4 (by decide), hvw]; rfl
        have hfc : kpC (fAt l (k + 1)).kp = kpC (fAt l k).kp := by rw [fAt_acc (.inl (by rw [hx]))]
        have HX := Lib.hid (show (evAt l k).o = (o : Int) by rw [hx])
        have HR := Lib.hid hrd.symm
        have HC := Lib.hid hfc.symm
        clear hr1 hr2 hr3 hr4 hvw hrd hfc hx
        obtain ⟨kd, hkk⟩ : ∃ kd, aKind 1 (rdAt l k o) (wrAt l k o) ((fAt l k).kp.th t) = kd := ⟨_, rfl⟩
        have HKD := Lib.hid (hkd.trans hkk)
        have hac := access_read (rdAt l k) (wrAt l k) o t o ((fAt l k).kp.th t) w.heap.size
        rw [hkk] at hac
        clear hkd hkk
        have i0 : (0 : Int) ≤ t := by omega
        have i6 : (t : Int) < 6 := by omega
        have j0 : (0 : Int) ≤ o := by omega
        have j8 : (o : Int) < 8 := by omega
        go_wp2_with fail
        clear d0 d1 d2
        generalize wr.alloc (.cells (evC ⟨1, t, o⟩) 55) = w5 at *
        have x0 : w5.cell? ⟨wr.heap.size, 0, none⟩ = some (.int .i64 1) := hN.cell rfl
        have x1 : w5.cell? ⟨wr.heap.size, 1, none⟩ = some (.int .i64 (t : Int)) := hN.cell rfl
        have x2 : w5.cell? ⟨wr.heap.size, 2, none⟩ = some (.int .i64 (o : Int)) := hN.cell rfl
        obtain ⟨a0, a1, a2, a3, a4, a5⟩ := hK5.th6 ht6
        go_cut [7] (fun p wx => p = .int .i64 kd ∧ Has wx (w.heap.size + 1) (kpC (fAt l k).kp) 172 ∧ Has wx w.heap.size (vrC (rdAt l (k + 1)) (wrAt l (k + 1))) 116 ∧ Has wx wr.heap.size (evC ⟨1, t, o⟩) 55 ∧ wx.ownsRow (w.heap.size + 2) 78 3 u2 (fFlags l k).length (evL (fFlags l k)) ∧ Below w.heap.size w wx)
        case first =>
          go_region_law (first | (go_simp; go_at_call 92; refine (hac _ hV5.drew ho8 ht6).mono ?_; rintro r w2 ⟨rfl, ht⟩))
          all_goals
            have hK6 := hK5.drew.grown ht.grown (by simp)
            have hV6 := ht.has
            have hN6 := hN.drew.grown ht.grown (by simp; omega)
            have ho6 : w2.ownsRow (w.heap.size + 2) 78 3 u2 (fFlags l k).length (evL (fFlags l k)) := own_drew_kept ho5 ht.grown (fun q hq e => by have := (ho5.lt q hq).1; cases e; omega)
            have hb6 := hb5.drew.grown ht.grown (by have := hb5.size; simpa using this) (fun q hq => by cases hq; omega)
            go_wp2
            go_meet
            exact ⟨rfl, hK6, HR.out ▸ hV6, hN6, ho6, hb6⟩
        case rest =>
          obtain ⟨rfl, hK6, hV6, hN6, ho6, hb6⟩ := hcut
          clear hK5 hV5 hb5 ho5 hN a0 a1 a2 a3 a4 a5 x0 x1 x2 hac
          have x2 : wc.cell? ⟨wr.heap.size, 2, none⟩ = some (.int .i64 (o : Int)) := hN6.cell rfl
          by_cases hz : kd = 0
          · have hff : fFlags l (k + 1) = fFlags l k := by simp only [fFlags]; rw [if_pos (HKD.out.trans hz)]
            have HFF := Lib.hid hff
            subst hz
            clear hff
            go_wp2
            go_roundw
            case rel => exact ⟨k + 1, by omega, by go_num, HC.out ▸ hK6, hV6, by rw [HFF.out]; exact ho6, hb6⟩
            case measure => (simp [intOf]; try omega)
          · have hff : fFlags l (k + 1) = fFlags l k ++ [⟨k, o, kd⟩] := by simp only [fFlags]; rw [if_neg (fun e => hz (HKD.out.symm.trans e)), HKD.out, HX.out]
            have HFF := Lib.hid hff
            have hzb : (kd != 0) = true := by simpa using hz
            clear hff hz
            have hT := Has.new wc (evC ⟨k, o, kd⟩) 78
            have hb7 := hb6.alloc hb6.size (.cells (evC ⟨k, o, kd⟩) 78)
            have hs7 := hb6.size
            have hfl := fFlags_len l k
            go_wp2_with (at_builtin; refine app_list _ rfl (.tmp 41) (.tmp 47) 73 rfl Tryz.underlying73 hi hz0 hz1 hz2 rfl (by decide) rfl (ho6.alloc _) rfl (news := evL [⟨k, o, kd⟩]) ⟨rfl, .inr ⟨_, rfl, fun j u hu => hT.cell_add (by simpa [evL] using hu)⟩⟩ (by intro q hq; simp [evL] at hq; rcases hq with rfl | rfl | rfl <;> rfl) ?c3 ?c4 ?c5 ?_)
            case c3 => unfold maxLen; omega
            case c4 => omega
            case c5 => have := hK6.lt; simp; omega
            intro v8 w8 hAp
            have hg8 := hAp.grown
            have hv8 : ∀ q, u2.ownBlock = some q → w.heap.size + 2 ≤ q := fun q hq => (ho6.lt q hq).1
            have hb8 := hb7.grown hg8 (by have := hK6.lt; simp; omega) (fun q hq => by have := hv8 q hq; omega)
            have hK8 := (hK6.alloc (.cells (evC ⟨k, o, kd⟩) 78)).grown hg8 (fun e => by have := hv8 _ e.symm; omega)
            have hV8 := (hV6.alloc (.cells (evC ⟨k, o, kd⟩) 78)).grown hg8 (fun e => by have := hv8 _ e.symm; omega)
            have ho8 : w8.ownsRow (w.heap.size + 2) 78 3 v8 (fFlags l (k + 1)).length (evL (fFlags l (k + 1))) := by
              have := hAp.own
              rw [HFF.out, evL_append _ [_], List.length_append]
              exact this
            clear hAp hT hb7 hg8 hv8
            go_wp2
            go_roundw
            case rel => exact ⟨k + 1, by omega, by go_num, HC.out ▸ hK8, hV8, ho8, hb8⟩
            case measure => (simp [intOf]; try omega)
      · by_cases k2 : K = 2
        · subst k2
          have ho8 : o < 8 := by have := (isEv_iff.1 hE).2.2.2; simp [manyOf] at this; omega
          have hkd : fKind l k = aKind 2 (rdAt l k o) (wrAt l k o) ((fAt l k).kp.th t) := by simp [fKind, aKind, hx, hvw, Fk.kp]; rfl
          have hrd : vrC (rdAt l (k + 1)) (wrAt l (k + 1)) = vrC (rdAt l k) (setV (wrAt l k) o t ((fAt l k).kp.th t t)) := by rw [hr2 (by decide), hr3 rfl, hvw]; rfl
          have hfc : kpC (fAt l (k + 1)).kp = kpC (fAt l k).kp := by rw [fAt_acc (.inr (by rw [hx]))]
          have HX := Lib.hid (show (evAt l k).o = (o : Int) by rw [hx])
          have HR := Lib.hid hrd.symm
          have HC := Lib.hid hfc.symm
          clear hr1 hr2 hr3 hr4 hvw hrd hfc hx
          obtain ⟨kd, hkk⟩ : ∃ kd, aKind 2 (rdAt l k o) (wrAt l k o) ((fAt l k).kp.th t) = kd := ⟨_, rfl⟩
          have HKD := Lib.hid (hkd.trans hkk)
          have hac := access_write (rdAt l k) (wrAt l k) o t o ((fAt l k).kp.th t) w.heap.size
          rw [hkk] at hac
          clear hkd hkk
          have i0 : (0 : Int) ≤ t := by omega
          have i6 : (t : Int) < 6 := by omega
          have j0 : (0 : Int) ≤ o := by omega
          have j8 : (o : Int) < 8 := by omega
          go_wp2_with fail
          clear d0 d1 d2
          generalize wr.alloc (.cells (evC ⟨2, t, o⟩) 55) = w5 at *
          have x0 : w5.cell? ⟨wr.heap.size, 0, none⟩ = some (.int .i64 2) := hN.cell rfl
          have x1 : w5.cell? ⟨wr.heap.size, 1, none⟩ = some (.int .i64 (t : Int)) := hN.cell rfl
          have x2 : w5.cell? ⟨wr.heap.size, 2, none⟩ = some (.int .i64 (o : Int)) := hN.cell rfl
          obtain ⟨a0, a1, a2, a3, a4, a5⟩ := hK5.th6 ht6
          go_cut [7] (fun p wx => p = .int .i64 kd ∧ Has wx (w.heap.size + 1) (kpC (fAt l k).kp) 172 ∧ Has wx w.heap.size (vrC (rdAt l (k + 1)) (wrAt l (k + 1))) 116 ∧ Has wx wr.heap.size (evC ⟨2, t, o⟩) 55 ∧ wx.ownsRow (w.heap.size + 2) 78 3 u2 (fFlags l k).length (evL (fFlags l k)) ∧ Below w.heap.size w wx)
          case first =>
            go_region_law (first | (go_simp; go_at_call 92; refine (hac _ hV5.drew ho8 ht6).mono ?_; rintro r w2 ⟨rfl, ht⟩))
            all_goals
              have hK6 := hK5.drew.grown ht.grown (by simp)
              have hV6 := ht.has
              have hN6 := hN.drew.grown ht.grown (by simp; omega)
              have ho6 : w2.ownsRow (w.heap.size + 2) 78 3 u2 (fFlags l k).length (evL (fFlags l k)) := own_drew_kept ho5 ht.grown (fun q hq e => by have := (ho5.lt q hq).1; cases e; omega)
              have hb6 := hb5.drew.grown ht.grown (by have := hb5.size; simpa using this) (fun q hq => by cases hq; omega)
              go_wp2
              go_meet
              exact ⟨rfl, hK6, HR.out ▸ hV6, hN6, ho6, hb6⟩
          case rest =>
            obtain ⟨rfl, hK6, hV6, hN6, ho6, hb6⟩ := hcut
            clear hK5 hV5 hb5 ho5 hN a0 a1 a2 a3 a4 a5 x0 x1 x2 hac
            have x2 : wc.cell? ⟨wr.heap.size, 2, none⟩ = some (.int .i64 (o : Int)) := hN6.cell rfl
            by_cases hz : kd = 0
            · have hff : fFlags l (k + 1) = fFlags l k := by simp only [fFlags]; rw [if_pos (HKD.out.trans hz)]
              have HFF := Lib.hid hff
              subst hz
              clear hff
              go_wp2
              go_roundw
              case rel => exact ⟨k + 1, by omega, by go_num, HC.out ▸ hK6, hV6, by rw [HFF.out]; exact ho6, hb6⟩
              case measure => (simp [intOf]; try omega)
            · have hff : fFlags l (k + 1) = fFlags l k ++ [⟨k, o, kd⟩] := by simp only [fFlags]; rw [if_neg (fun e => hz (HKD.out.symm.trans e)), HKD.out, HX.out]
              have HFF := Lib.hid hff
              have hzb : (kd != 0) = true := by simpa using hz
              clear hff hz
              have hT := Has.new wc (evC ⟨k, o, kd⟩) 78
              have hb7 := hb6.alloc hb6.size (.cells (evC ⟨k, o, kd⟩) 78)
              have hs7 := hb6.size
              have hfl := fFlags_len l k
              go_wp2_with (at_builtin; refine app_list _ rfl (.tmp 41) (.tmp 47) 73 rfl Tryz.underlying73 hi hz0 hz1 hz2 rfl (by decide) rfl (ho6.alloc _) rfl (news := evL [⟨k, o, kd⟩]) ⟨rfl, .inr ⟨_, rfl, fun j u hu => hT.cell_add (by simpa [evL] using hu)⟩⟩ (by intro q hq; simp [evL] at hq; rcases hq with rfl | rfl | rfl <;> rfl) ?c3 ?c4 ?c5 ?_)
              case c3 => unfold maxLen; omega
              case c4 => omega
              case c5 => have := hK6.lt; simp; omega
              intro v8 w8 hAp
              have hg8 := hAp.grown
              have hv8 : ∀ q, u2.ownBlock = some q → w.heap.size + 2 ≤ q := fun q hq => (ho6.lt q hq).1
              have hb8 := hb7.grown hg8 (by have := hK6.lt; simp; omega) (fun q hq => by have := hv8 q hq; omega)
              have hK8 := (hK6.alloc (.cells (evC ⟨k, o, kd⟩) 78)).grown hg8 (fun e => by have := hv8 _ e.symm; omega)
              have hV8 := (hV6.alloc (.cells (evC ⟨k, o, kd⟩) 78)).grown hg8 (fun e => by have := hv8 _ e.symm; omega)
              have ho8 : w8.ownsRow (w.heap.size + 2) 78 3 v8 (fFlags l (k + 1)).length (evL (fFlags l (k + 1))) := by
                have := hAp.own
                rw [HFF.out, evL_append _ [_], List.length_append]
                exact this
              clear hAp hT hb7 hg8 hv8
              go_wp2
              go_roundw
              case rel => exact ⟨k + 1, by omega, by go_num, HC.out ▸ hK8, hV8, ho8, hb8⟩
              case measure => (simp [intOf]; try omega)
        · have hB : KB (fAt l k).kp := (KBn.at l k).kb (by omega)
          have hsy : kSync (fAt l k).kp ⟨K, t, o⟩ = (fAt l (k + 1)).kp := by rw [kSync_eq, ← hx]; rfl
          have hkd : fKind l k = 0 := by simp [fKind, hx, k1, k2]
          have hff : fFlags l (k + 1) = fFlags l k := by simp only [fFlags]; rw [if_pos hkd]
          have hrd : vrC (rdAt l (k + 1)) (wrAt l (k + 1)) = vrC (rdAt l k) (wrAt l k) := by rw [hr2 k1, hr4 k2]
          have n1 : (K != 1) = true := by simpa using k1
          have n2 : (K != 2) = true := by simpa using k2
          have HSY := Lib.hid hsy
          have HFF := Lib.hid hff
          have HR := Lib.hid hrd.symm
          have hn12 : ¬ (K = 1 ∨ K = 2) := fun e => e.elim k1 k2
          clear hsy hkd hff hrd hr1 hr2 hr3 hr4 hvw hx k1 k2
          go_wp2_with fail
          refine (sync_any (fAt l k).kp K t o (w.heap.size + 1) _ hK5 hB hE hn12).mono ?_
          rintro r w2 ⟨rfl, ht⟩
          have hK6 := ht.has
          rw [HSY.out] at hK6
          have hV6 := hV5.grown ht.grown (by simp)
          have ho6 := ho5.kept ht.grown (.inr (fun e => by have := (ho5.lt _ e).1; omega))
          have hb6 := hb5.grown ht.grown (by have := hb5.size; simpa using this) (fun q hq => by cases hq; omega)
          clear ht hK5 hV5 ho5 hb5 hN d0 d1 d2
          go_wp2
          go_roundw
          case rel => exact ⟨k + 1, by omega, by go_num, hK6, HR.out ▸ hV6, by rw [HFF.out]; exact ho6, hb6⟩
          case measure => (simp [intOf]; try omega)
    · obtain rfl : k = l.length := by omega
      generalize hC : (vrC (rdAt l l.length) (wrAt l l.length)).toList = L at *
      have hLs : L.length = 96 := by rw [← hC]; simp [rowI_size]
      have hsz : (Tryz.prog.info? 116).map (·.size) = some L.length := by rw [hLs]; exact vars_size
      have hone : ∀ v ∈ L, v.oneCell' = true := by
        intro v hv
        rw [← hC] at hv
        exact Array.all_eq_true_iff_forall_mem.1 (rowI_one 96 (vrF (rdAt l l.length) (wrAt l l.length))) v (by simpa using hv)
      have hsame : wr.drew.setCells w.heap.size 0 L = wr.drew := hV.drew.setSames L 0 fun j v hv => by rw [Nat.zero_add, ← Array.getElem?_toList, hC]; exact hv
      have hrg : wr.drew.rangeAt w.heap.size 0 L := hC ▸ hV.drew.rangeW
      have hth : wr.drew.there w.heap.size 0 96 := by have := hV.drew.thereW; rwa [rowI_size] at this
      have hun := Tryz.underlying116
      have hL2 : L.toArray = vrC (rdAt l l.length) (wrAt l l.length) := by rw [← hC]
      have HL2 := Lib.hid hL2
      clear hC hL2
      go_wp2_with fail
      refine wp_region_held_drew (S := fun W => W.rangeAt w.heap.size 0 L ∧ W.there w.heap.size 0 96) (by kernel_rfl) ⟨hrg, hth⟩ (fun hHeld => ?_)
      refine wpAnyH_take (i := 0) (oi := _) (v := ?_) rfl (by kernel_rfl) (by kernel_rfl) (by kernel_rfl) (fun _ _ _ h => h) (Or.inl ⟨by rfl, ?_⟩) (by assumption) ?_
      case refine_1 => exact u2
      case refine_2 =>
        intro w hSw
        go_simp
      simp only [Act.put, List.setIfInBounds_toArray, List.set_cons_zero, List.set_cons_succ, List.getElem_toArray, List.getElem_cons_zero]
      refine' wpAnyH_take (i := 1) (oi := _) (v := _) rfl (by kernel_rfl) (by kernel_rfl) (by kernel_rfl) (fun _ _ _ h => h) (yieldsIf_load_mid (by rfl) _ _ rfl _ _ rfl L _ ?hS ?hu ?hd ?hi) (by assumption) ?rest
      case hS => exact fun W hW => hW.1
      case hu => exact hun
      case hd => rfl
      case hi => exact hsz
      case rest =>
      simp only [Act.put, List.setIfInBounds_toArray, List.set_cons_zero, List.set_cons_succ, List.getElem_toArray, List.getElem_cons_zero, List.getElem_cons_succ]
      refine wpAnyH_take (i := 2) (oi := _) (v := ?_) rfl (by kernel_rfl) (by kernel_rfl) (by kernel_rfl) (fun _ _ _ h => h) (Or.inl ⟨by rfl, ?_⟩) (by assumption) ?_
      case refine_1 => exact u2
      case refine_2 =>
        intro w hSw
        go_simp
      simp only [Act.put, List.setIfInBounds_toArray, List.set_cons_zero, List.set_cons_succ, List.getElem_toArray, List.getElem_cons_zero, List.getElem_cons_succ]
      refine wpAnyH_ready (rs := [3]) (by kernel_rfl) (by simp) ?_
      refine AllReadyH.cons (o := _) rfl (fun K hK => ?_) ?_
      · rw [if_pos (by rfl)]
        refine wp_store_mid _ _ _ rfl _ _ (List.toArray L) rfl rfl (by have := hth; rw [← hLs, ← List.size_toArray] at this; exact this) (by rw [List.size_toArray]; exact hsz) (all_oneCell_toArray hone) ?_
        simp only [Act.put, List.setIfInBounds_toArray]
        rw [hsame]
        refine hK.out _ _ ⟨hrg, hth⟩ (fun hHeld => ?_)
        clear hK K
        refine wpAnyH_done (by kernel_rfl) ?_ _
        go_wp2
        have hv1 : (loadVar 116 ⟨w.heap.size, 0, none⟩).run Tryz.prog wr.drew = .ok (.agg L.toArray) wr.drew := run_loadVar_mid (P := Tryz.prog) wr.drew w.heap.size 0 116 L _ hrg hun rfl hsz
        refine bodyPost_ret (v := .tuple #[u2, .agg L.toArray]) (by simp [results, Tryz.results62, asAddr, hv1]) rfl ?_
        rw [HL2.out]
        exact ⟨u2, rfl, own_low (own_drew_kept hown (World.grownBy.refl _ none) (fun _ _ e => by cases e)) (by omega), hb.drew⟩
      · exact AllReadyH.nil
end Go.Proofs.YtfjbnhacfficnaaGreatDoor

/- Contracts of the full detector: Run, Last. -/
namespace Go.Proofs.YtfjbnhacfficnaaGreatDoor
open Go.RowKit

/-- Flags. -/
def FlagPost (L : List Ev) (w : World) (r : Ending) (w' : World) : Prop := ∃ v, r = .returned (.tuple #[v, .int .i64 0]) ∧ w'.ownsRow w.heap.size 78 3 v L.length (evL L) ∧ Below w.heap.size w w'

set_option maxRecDepth 100000 in
theorem fullRun_err (l : List Ev) (a : Option Addr) (c : Nat) (w : World) (h : EvS w a l) (he : (played l).2.2 ≠ 0) :
    Calls Tryz.prog 37 #[.slice a l.length c] w fun r w' => r = .returned (.tuple #[.slice none 0 0, .int .i64 (played l).2.2]) ∧ Below w.heap.size w w' := by
  have e2 : ((played l).2.2 != 0) = true := by simpa using he
  go_enter Tryz.func37, Tryz.ntmps37
  go_wp2_with fail
  refine (check_any l a c _ h).mono ?_
  rintro r w1 ⟨rfl, hb⟩
  go_wp2
  go_ret2
  exact ⟨rfl, hb⟩
set_option maxRecDepth 100000 in
theorem fullRun_ok (l : List Ev) (a : Option Addr) (c : Nat) (w : World) (h : EvS w a l) (he : (played l).2.2 = 0) :
    Calls Tryz.prog 37 #[.slice a l.length c] w (FlagPost (fFlags l l.length) w) := by
  have e2 : ((played l).2.2 != 0) = false := by simpa using he
  have hzv := vars_zero
  go_enter Tryz.func37, Tryz.ntmps37
  go_wp2_with fail
  refine (check_any l a c _ h).mono ?_
  rintro r w1 ⟨rfl, hb⟩
  replace h := h.below hb
  go_wp2_with fail
  refine (frun_ok l a c _ h he).mono ?_
  rintro r w2 ⟨v, rfl, hown, hk⟩
  have hb2 := hb.trans (hk.mono hb.size)
  have hN := Has.new w2 (vrC (fun _ _ => 0) fun _ _ => 0) 116
  have hn := hown.alloc (.cells (vrC (fun _ _ => 0) fun _ _ => 0) 116)
  have hb3 := hb2.alloc hb2.size (.cells (vrC (fun _ _ => 0) fun _ _ => 0) 116)
  go_wp2_with (first | (refine wpList_store_mid rfl _ _ _ rfl _ 0 (vrC (rdAt l l.length) (wrAt l l.length)) rfl rfl ?_ ?_ (rowI_one _ _) ?_) | go_in)
  · have := hN.thereW
    rw [rowI_size] at this ⊢
    exact this
  · rw [rowI_size]; exact vars_size
  have hbW : Below w2.heap.size w2 ((w2.alloc (.cells (vrC (fun _ _ => 0) fun _ _ => 0) 116)).setCells w2.heap.size 0 (vrC (rdAt l l.length) (wrAt l l.length)).toList) := Below.setCells' ((Below.refl _ _).alloc (Nat.le_refl _) _) (Nat.le_refl _) _ _
  go_ret2
  exact ⟨v, rfl, own_low (own_below hown hbW) hb.size, hb2.trans (hbW.mono hb2.size)⟩

theorem Has.set6 {w : World} {b : Nat} {f : Nat → Int} {T : TypeId} (h : Has w b (clkC f) T) (g : Nat → Int) : Has ((((((w.setCell ⟨b, 0, none⟩ (.int .i64 (g 0))).setCell ⟨b, 1, none⟩ (.int .i64 (g 1))).setCell ⟨b, 2, none⟩ (.int .i64 (g 2))).setCell ⟨b, 3, none⟩ (.int .i64 (g 3))).setCell ⟨b, 4, none⟩ (.int .i64 (g 4))).setCell ⟨b, 5, none⟩ (.int .i64 (g 5))) b (clkC g) T :=
  ((((((h.setCell 0 _).setCell 1 _).setCell 2 _).setCell 3 _).setCell 4 _).setCell 5 _).to (by simp [clkC])
theorem Has.set6_ne {w : World} {b b' : Nat} {cs : Array Value} {T : TypeId} (h : Has w b cs T) (hb : b ≠ b') (g : Nat → Int) : Has ((((((w.setCell ⟨b', 0, none⟩ (.int .i64 (g 0))).setCell ⟨b', 1, none⟩ (.int .i64 (g 1))).setCell ⟨b', 2, none⟩ (.int .i64 (g 2))).setCell ⟨b', 3, none⟩ (.int .i64 (g 3))).setCell ⟨b', 4, none⟩ (.int .i64 (g 4))).setCell ⟨b', 5, none⟩ (.int .i64 (g 5))) b cs T :=
  (((((h.setCell_ne hb _).setCell_ne hb _).setCell_ne hb _).setCell_ne hb _).setCell_ne hb _).setCell_ne hb _
theorem below_set6 {w w' : World} {b N : Nat} (h : Below N w w') (hb : N ≤ b) (g : Nat → Int) : Below N w ((((((w'.setCell ⟨b, 0, none⟩ (.int .i64 (g 0))).setCell ⟨b, 1, none⟩ (.int .i64 (g 1))).setCell ⟨b, 2, none⟩ (.int .i64 (g 2))).setCell ⟨b, 3, none⟩ (.int .i64 (g 3))).setCell ⟨b, 4, none⟩ (.int .i64 (g 4))).setCell ⟨b, 5, none⟩ (.int .i64 (g 5))) :=
  (((((h.setCell hb _).setCell hb _).setCell hb _).setCell hb _).setCell hb _).setCell hb _
theorem end_two {P : Program} {fn : Func} {R : Ending → World → Prop} {e : Exit} {a : Act} {W w : World} {A B N : Nat} {f g : Nat → Int} (h1 : Has W A (clkC f) 87) (h2 : Has W B (clkC g) 87) (hb : Below N w W)
    (h : ∀ W, Has W A (clkC f) 87 → Has W B (clkC g) 87 → Below N w W → bodyPost P fn R e a W) : bodyPost P fn R e a W := h W h1 h2 hb

end Go.Proofs.YtfjbnhacfficnaaGreatDoor

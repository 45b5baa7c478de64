/- Contract of swap.Same. -/
import Derived.Test.YthfeakfakjecoaaLef
namespace Go.Proofs.Ythfeakfakjecoaa
open Go.RowKit

/-- What Same yields. -/
def SameRet (l m : List Ev) (w : World) (r : Ending) (w' : World) : Prop := r = .returned (.tuple #[.bool (sameB l m), .int .i64 (sameE l m)]) ∧ Below w.heap.size w w'
set_option maxRecDepth 100000 in
set_option maxHeartbeats 4000000 in
theorem same_any (l m : List Ev) (n n' : Nat) (hn : l.length = n) (hn' : m.length = n') (a a' : Option Addr) (c c' : Nat) (w : World) (h : EvS w a l) (h' : EvS w a' m) :
    Calls Try.prog 24 #[.slice a n c, .slice a' n' c'] w (SameRet l m w) := by
  subst hn; subst hn'
  have hN := Has.new w #[.slice a l.length c, .slice a' m.length c'] 31
  have hb := (Below.refl w.heap.size w).alloc (Nat.le_refl _) (.cells #[.slice a l.length c, .slice a' m.length c'] 31)
  go_enter Try.func24, Try.ntmps24
  go_wp2
  go_loopw [14] (fun i wr => ∃ (k : Nat) (j : Int), k ≤ 2 ∧ j = k ∧ i = .int .i64 j ∧ Hid (1 ≤ k → (played l).2.2 = 0) ∧ Hid (2 ≤ k → (played m).2.2 = 0) ∧ Has wr w.heap.size #[.slice a l.length c, .slice a' m.length c'] 31 ∧ Below w.heap.size w wr) (fun i _ => 2 - (intOf i).toNat)
  case atStart => exact ⟨0, 0, Nat.zero_le _, rfl, rfl, Lib.hid (fun h => by omega), Lib.hid (fun h => by omega), hN, hb⟩
  case round =>
    clear hN hb
    obtain ⟨k, j, hk, hj, rfl, H1, H2, hN, hb⟩ := hrel
    obtain ⟨c0, c1⟩ : wr.cell? ⟨w.heap.size, 0, none⟩ = some (.slice a l.length c) ∧ wr.cell? ⟨w.heap.size, 1, none⟩ = some (.slice a' m.length c') := ⟨hN.cell rfl, hN.cell rfl⟩
    rcases (show k = 0 ∨ k = 1 ∨ k = 2 by omega) with rfl | rfl | rfl
    · obtain rfl : j = 0 := by simpa using hj
      clear hj
      by_cases hp : (played l).2.2 = 0
      · have HP := Lib.hid hp
        clear hp
        go_wp2_with fail
        refine (check_any l a c _ (h.below hb)).mono ?_
        rintro r w1 ⟨rfl, hk1⟩
        rw [HP.out]
        replace hb := hb.trans (hk1.mono hb.size)
        replace hN := hN.below hk1 hN.lt
        clear hk1 c0 c1
        go_wp2
        go_roundw
        case rel => exact ⟨1, 1, by omega, rfl, by go_num, Lib.hid (fun _ => HP.out), Lib.hid (fun h => by omega), hN, hb⟩
        case measure => (simp [intOf]; try omega)
      · have hq : ((played l).2.2 != 0) = true := by simpa using hp
        have hv : sameE l m = (played l).2.2 := if_neg hp
        have hv2 : sameB l m = false := by simp [sameB, hv, hp]
        have HV := Lib.hid hv
        have HV2 := Lib.hid hv2
        clear hp hv hv2
        go_wp2_with fail
        refine (check_any l a c _ (h.below hb)).mono ?_
        rintro r w1 ⟨rfl, hk1⟩
        replace hb := hb.trans (hk1.mono hb.size)
        clear c0 c1
        go_wp2
        go_ret2
        unfold SameRet
        rw [HV.out, HV2.out]
        exact ⟨rfl, hb⟩
    · obtain rfl : j = 1 := by simpa using hj
      clear hj
      have HP1 := Lib.hid (H1.out (Nat.le_refl 1))
      by_cases hp : (played m).2.2 = 0
      · have HP := Lib.hid hp
        clear hp
        go_wp2_with fail
        refine (check_any m a' c' _ (h'.below hb)).mono ?_
        rintro r w1 ⟨rfl, hk1⟩
        rw [HP.out]
        replace hb := hb.trans (hk1.mono hb.size)
        replace hN := hN.below hk1 hN.lt
        clear hk1 c0 c1
        go_wp2
        go_roundw
        case rel => exact ⟨2, 2, by omega, rfl, by go_num, Lib.hid (fun _ => HP1.out), Lib.hid (fun _ => HP.out), hN, hb⟩
        case measure => (simp [intOf]; try omega)
      · have hq : ((played m).2.2 != 0) = true := by simpa using hp
        have hv : sameE l m = (played m).2.2 := if_pos HP1.out
        have hv2 : sameB l m = false := by simp [sameB, hv, hp]
        have HV := Lib.hid hv
        have HV2 := Lib.hid hv2
        clear hp hv hv2
        go_wp2_with fail
        refine (check_any m a' c' _ (h'.below hb)).mono ?_
        rintro r w1 ⟨rfl, hk1⟩
        replace hb := hb.trans (hk1.mono hb.size)
        clear c0 c1
        go_wp2
        go_ret2
        unfold SameRet
        rw [HV.out, HV2.out]
        exact ⟨rfl, hb⟩
    · obtain rfl : j = 2 := by simpa using hj
      clear hj
      have hp1 := H1.out (by omega)
      have hp2 := H2.out (Nat.le_refl 2)
      have hv : sameE l m = 0 := sameE_zero.2 ⟨hp1, hp2⟩
      have hv2 : sameB l m = eqB (leastL l) (leastL m) := by simp [sameB, hv]
      have HV := Lib.hid hv
      have HV2 := Lib.hid hv2
      have hl80 := (played_evs hp1).1
      have hm80 := (played_evs hp2).1
      clear hv hv2 hp1 hp2 c0 c1 hN H1 H2
      have hle := leastL_len l
      have hle2 := leastL_len m
      go_wp2_with fail
      refine (least_any l _ rfl a c _ (h.below hb) hl80).mono ?_
      rintro r w1 ⟨a1, c1, rfl, hS1, hk1⟩
      replace hb := hb.trans (hk1.mono hb.size)
      clear hk1
      go_wp2_with fail
      refine (least_any m _ rfl a' c' _ (h'.below hb) hm80).mono ?_
      rintro r w2 ⟨a2, c2, rfl, hS2, hk2⟩
      replace hb := hb.trans (hk2.mono hb.size)
      replace hS1 := hS1.below hk2
      clear hk2
      have hq := sEq_any (leastL l) (leastL m) a1 a2 c1 c2 w2 hS1 hS2
      rw [hle, hle2] at hq
      have HQ := Lib.hid hq
      clear hq hle hle2 hS1 hS2
      go_wp2_with fail
      refine HQ.out.mono ?_
      rintro r w3 ⟨rfl, hk3⟩
      replace hb := hb.trans (hk3.mono hb.size)
      go_wp2
      go_ret2
      unfold SameRet
      rw [HV.out, HV2.out]
      exact ⟨rfl, hb⟩
end Go.Proofs.Ythfeakfakjecoaa

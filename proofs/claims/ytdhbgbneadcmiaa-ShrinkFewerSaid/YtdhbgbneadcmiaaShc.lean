/- Contracts of shrink.left, races, pass. -/
import Derived.Test.YtdhbgbneadcmiaaCln
import Derived.Test.YtdhbgbneadcmiaaSec
import Derived.Test.YtdhbgbneadcmiaaShr
namespace Go.Proofs.Ytdhbgbneadcmiaa
open Go.RowKit

/-- A trace without an event, and whether it may be. -/
def LeftPost (l : List Ev) (w : World) (r : Ending) (w' : World) : Prop := ∃ a c, r = .returned (.tuple #[.slice a l.length c, .bool ((played l).2.2 == 0)]) ∧ EvS w' a l ∧ Below w.heap.size w w'
set_option maxRecDepth 100000 in
set_option maxHeartbeats 2000000 in
theorem left_any (l : List Ev) (n i : Nat) (hn : l.length = n) (hi : i < n) (h80 : l.length ≤ 80) (a : Option Addr) (c : Nat) (w : World) (h : EvS w a l) :
    Calls Try.prog 45 #[.slice a n c, .int .i64 i] w (LeftPost (l.eraseIdx i) w) := by
  subst hn
  obtain ⟨N, hN⟩ : ∃ N, l.length = N + 1 := ⟨l.length - 1, by omega⟩
  have hcl := clone_all l a c w h (by omega)
  have hle : (l.eraseIdx i).length = N := by rw [erase_len hi, hN]; rfl
  have HLE := Lib.hid hle
  have hiN : i ≤ N := by omega
  rw [hN] at hcl ⊢
  have HCL := Lib.hid hcl
  have HN := Lib.hid hN
  have hw1 := IntWalk.i64_in ((i : Int) + 1) (by omega)
  clear hcl hle hN
  go_enter Try.func45, Try.ntmps45
  go_wp2_with fail
  refine HCL.out.mono ?_
  rintro r w1 ⟨v, rfl, hown, hb⟩
  rw [HN.out] at hown
  have hex : ∃ g cap, v = .slice (some ⟨g, 0, none⟩) (N + 1) cap ∧ w.heap.size ≤ g := by
    rcases hown.2 with ⟨_, h0⟩ | ⟨g, cap, cur, rfl, hg, _⟩
    · omega
    · exact ⟨g, cap, rfl, hg⟩
  obtain ⟨g, cap, rfl, hg⟩ := hex
  clear HCL
  go_wp2_with fail
  refine (delete_one l N i g cap w.heap.size HN.out hiN w1 hown).mono ?_
  rintro r w2 ⟨rfl, ho2, hg2⟩
  have hb2 := hb.grown hg2 hb.size (fun q hq => by cases hq; exact hg)
  have hex : ∃ a2 c2, (Value.slice (some ⟨g, 0, none⟩) N cap) = .slice a2 N c2 ∧ EvS w2 a2 (l.eraseIdx i) := by
    rw [← HLE.out] at ho2 ⊢
    obtain ⟨a2, c2, e, hS, _⟩ := evS_own ho2 (by rw [HLE.out]; have := HN.out; omega)
    exact ⟨a2, c2, e, hS⟩
  obtain ⟨a2, c2, e2, hS⟩ := hex
  rw [e2]
  clear hown ho2 hg2 e2 hb h hg
  generalize l.eraseIdx i = m at *
  go_wp2_with fail
  refine (check_n m N HLE.out a2 c2 _ hS).mono ?_
  rintro r w3 ⟨rfl, hk⟩
  have hb3 := hb2.trans (hk.mono hb2.size)
  replace hS := hS.below hk
  go_wp2
  go_ret2
  unfold LeftPost
  rw [HLE.out]
  exact ⟨_, _, rfl, hS, hb3⟩
/-- Is there a race? -/
def racesB (l : List Ev) : Bool := ((played l).2.2 == 0) && !(raceL l).isEmpty
theorem racesB_iff {l : List Ev} : racesB l = true ↔ Racy l := by
  simp only [racesB, Bool.and_eq_true, beq_iff_eq, Bool.not_eq_true', List.isEmpty_eq_false_iff]
  exact ⟨fun h => ⟨h.1, h.2⟩, fun h => ⟨h.ok, h.race⟩⟩
theorem shOk_races {l : List Ev} {i : Nat} : shOk l i = racesB (l.eraseIdx i) := rfl
set_option maxHeartbeats 1000000 in
theorem races_any (l : List Ev) (n : Nat) (hn : l.length = n) (a : Option Addr) (c : Nat) (w : World) (h : EvS w a l) :
    Calls Try.prog 42 #[.slice a n c] w fun r w' => r = .returned (.bool (racesB l)) ∧ Below w.heap.size w w' := by
  by_cases he : (played l).2.2 = 0
  · have HC := Lib.hid (seconds_ok l n hn a c w h he)
    have hq : racesB l = decide (0 < (secL ((raceL l).map Rc.b)).length) := by
      rw [Bool.eq_iff_iff, racesB_iff, decide_eq_true_eq]
      constructor
      · intro hr
        refine List.length_pos_iff.2 fun e => hr.race ?_
        have := secL_nil.1 e
        simpa using this
      · intro hp
        refine ⟨he, fun e => ?_⟩
        rw [e] at hp
        have : secL [] = [] := secL_nil.2 rfl
        rw [List.map_nil, this] at hp
        simp at hp
    generalize secL ((raceL l).map Rc.b) = Q at *
    have HQ := Lib.hid hq
    clear hq h he hn
    go_enter Try.func42, Try.ntmps42
    go_wp2_with fail
    refine HC.out.mono ?_
    rintro r w1 ⟨a1, c1, rfl, hI, hb⟩
    clear HC
    go_wp2
    go_ret
    rw [HQ.out]
    refine ⟨?_, hb⟩
    first | rfl | (congr 2; simp)
  · have HC := Lib.hid (seconds_no l n hn a c w h he)
    have hq : racesB l = false := by
      unfold racesB
      rw [beq_eq_false_iff_ne.2 he]
      rfl
    have HQ := Lib.hid hq
    clear hq h he hn
    go_enter Try.func42, Try.ntmps42
    go_wp2_with fail
    refine HC.out.mono ?_
    rintro r w1 ⟨rfl, hb⟩
    clear HC
    go_wp2
    go_ret
    rw [HQ.out]
    exact ⟨rfl, hb⟩
/-- What a pass yields. -/
def PassPost (p : List Ev × Bool) (w : World) (r : Ending) (w' : World) : Prop := ∃ a c, r = .returned (.tuple #[.slice a p.1.length c, .bool p.2]) ∧ EvS w' a p.1 ∧ Below w.heap.size w w'
/-- Amid a pass. -/
def PassMid (w0 : World) (P : List Ev × Bool) (v i b : Value) (w : World) : Prop := ∃ (m : List Ev) (k : Nat) (q : Bool) (a : Option Addr) (c : Nat), v = .slice a m.length c ∧ i = .int .i64 k ∧ b = .bool q ∧ k ≤ m.length ∧ m.length ≤ 80 ∧ P = passL (m.length - k) m k q ∧ EvS w a m ∧ Below w0.heap.size w0 w
set_option maxRecDepth 100000 in
set_option maxHeartbeats 4000000 in
theorem pass_any (l : List Ev) (n : Nat) (hn : l.length = n) (h80 : l.length ≤ 80) (a : Option Addr) (c : Nat) (w : World) (h : EvS w a l) :
    Calls Try.prog 44 #[.slice a n c] w (PassPost (passL l.length l 0 false) w) := by
  subst hn
  obtain ⟨P, hP⟩ : ∃ P, passL l.length l 0 false = P := ⟨_, rfl⟩
  rw [hP]
  have H0 : PassMid w P (.slice a l.length c) (.int .i64 0) (.bool false) w := ⟨l, 0, false, a, c, rfl, rfl, rfl, Nat.zero_le _, h80, by rw [Nat.sub_zero]; exact hP.symm, h, Below.refl _ _⟩
  clear hP h h80
  go_enter Try.func44, Try.ntmps44
  go_wp2
  go_loopw [0, 4, 5] (fun v b i wr => PassMid w P v i b wr) (fun v _ i _ => match v with | .slice _ n _ => n - (intOf i).toNat | _ => 0)
  case atStart => exact H0
  case round =>
    clear H0
    obtain ⟨m, k, q, a2, c2, rfl, rfl, rfl, hk, h80, hP, hS, hb⟩ := hrel
    by_cases hlt : k < m.length
    · obtain ⟨r, hr⟩ : ∃ r, m.length - k = r + 1 := ⟨m.length - k - 1, by omega⟩
      have hP2 : P = if shOk m k then passL r (m.eraseIdx k) k true else passL r m (k + 1) q := by rw [hP, hr]; rfl
      have hle : (m.eraseIdx k).length = m.length - 1 := erase_len hlt
      have HP := Lib.hid hP2
      have HR := Lib.hid hr
      have HLE := Lib.hid hle
      have hsr := shOk_races (l := m) (i := k)
      have HSR := Lib.hid hsr
      have hlf := left_any m m.length k rfl hlt h80 a2 c2 _ hS
      have HLF := Lib.hid hlf
      clear hP hP2 hr hle hsr hlf
      go_wp2_with fail
      refine HLF.out.mono ?_
      rintro r' w1 ⟨a3, c3, rfl, hE, hk1⟩
      rw [HLE.out]
      have hb1 := hb.trans (hk1.mono hb.size)
      have hS1 := hS.below hk1
      clear HLF hb hS hk1
      obtain ⟨p, hp⟩ : ∃ p, ((played (m.eraseIdx k)).2.2 == 0) = p := ⟨_, rfl⟩
      rw [hp]
      cases p
      · have hno : shOk m k = false := by rw [HSR.out]; unfold racesB; rw [hp]; rfl
        have HQ := Lib.hid (show P = passL (m.length - (k + 1)) m (k + 1) q by rw [HP.out, hno, show m.length - (k + 1) = r by have := HR.out; omega]; rfl)
        clear hno hp hE
        go_wp2
        go_roundw
        case rel => exact ⟨m, k + 1, q, _, _, rfl, by go_num, rfl, by omega, h80, HQ.out, hS1, hb1⟩
        case measure => (simp [intOf]; try omega)
      · clear hp
        obtain ⟨p2, hp2⟩ : ∃ p2, racesB (m.eraseIdx k) = p2 := ⟨_, rfl⟩
        have HP2 := Lib.hid hp2
        clear hp2
        go_wp2_with fail
        refine (races_any (m.eraseIdx k) _ HLE.out a3 c3 _ hE).mono ?_
        rintro r' w2 ⟨rfl, hk2⟩
        rw [HP2.out]
        have hb2 := hb1.trans (hk2.mono hb1.size)
        have hS2 := hS1.below hk2
        have hE2 := hE.below hk2
        clear hk2 hb1 hS1 hE
        cases p2
        · have hno : shOk m k = false := by rw [HSR.out]; exact HP2.out
          have HQ := Lib.hid (show P = passL (m.length - (k + 1)) m (k + 1) q by rw [HP.out, hno, show m.length - (k + 1) = r by have := HR.out; omega]; rfl)
          clear hno hE2
          go_wp2
          go_roundw
          case rel => exact ⟨m, k + 1, q, _, _, rfl, by go_num, rfl, by omega, h80, HQ.out, hS2, hb2⟩
          case measure => (simp [intOf]; try omega)
        · have hyes : shOk m k = true := by rw [HSR.out]; exact HP2.out
          have HQ := Lib.hid (show P = passL ((m.eraseIdx k).length - k) (m.eraseIdx k) k true by rw [HP.out, hyes, HLE.out, show m.length - 1 - k = r by have := HR.out; omega]; rfl)
          clear hyes hS2
          go_wp2
          go_roundw
          case rel => exact ⟨m.eraseIdx k, k, true, _, _, by rw [HLE.out], rfl, rfl, by rw [HLE.out]; omega, by rw [HLE.out]; omega, HQ.out, hE2, hb2⟩
          case measure => (simp [intOf]; try omega)
    · have hPe : P = (m, q) := by rw [hP, show m.length - k = 0 by omega]; rfl
      have HP := Lib.hid hPe
      clear hP hPe
      go_wp2
      go_ret2
      unfold PassPost
      rw [HP.out]
      exact ⟨_, _, rfl, hS, hb⟩
end Go.Proofs.Ytdhbgbneadcmiaa

/- Joined texts. -/
import Derived.Test.YtfjbnhacfficnaaGreatDoorZB
import Derived.Test.YtfjbnhacfficnaaGreatDoorZO
import Derived.Test.YtfjbnhacfficnaaGreatDoorZEB

/- Contracts of shrink.left, races, pass. -/
namespace Go.Proofs.YtfjbnhacfficnaaGreatDoor
open Go.RowKit

/-- A trace without an event, and whether it may be. -/
def LeftPost (l : List Ev) (w : World) (r : Ending) (w' : World) : Prop := ∃ a c, r = .returned (.tuple #[.slice a l.length c, .bool ((played l).2.2 == 0)]) ∧ EvS w' a l ∧ Below w.heap.size w w'
set_option maxRecDepth 100000 in
set_option maxHeartbeats 2000000 in
theorem left_any (l : List Ev) (n i : Nat) (hn : l.length = n) (hi : i < n) (h80 : l.length ≤ 80) (a : Option Addr) (c : Nat) (w : World) (h : EvS w a l) :
    Calls Tryz.prog 69 #[.slice a n c, .int .i64 i] w (LeftPost (l.eraseIdx i) w) := by
  subst hn
  obtain ⟨N, hN⟩ : ∃ N, l.length = N + 1 := ⟨l.length - 1, by omega⟩
  have hcl := clone_all l a c w h (by omega)
  have hle : (l.eraseIdx i).length = N := by rw [erase_len hi, hN]; rfl
  have HLE := Lib.hid hle
  have hiN : i ≤ N := by omega
  rw [hN] at hcl ⊢
  have HCL := Lib.hid hcl
  have HN := Lib.hid hN
  have hw1 := IntWalk.i64_in ((i : Int) + 1) (by omega)
  clear hcl hle hN
  go_enter Tryz.func69, Tryz.ntmps69
  go_wp2_with fail
  refine HCL.out.mono ?_
  rintro r w1 ⟨v, rfl, hown, hb⟩
  rw [HN.out] at hown
  have hex : ∃ g cap, v = .slice (some ⟨g, 0, none⟩) (N + 1) cap ∧ w.heap.size ≤ g := by
    rcases hown.2 with ⟨_, h0⟩ | ⟨g, cap, cur, rfl, hg, _⟩
    · omega
    · exact ⟨g, cap, rfl, hg⟩
  obtain ⟨g, cap, rfl, hg⟩ := hex
  clear HCL
  go_wp2_with fail
  refine (delete_one l N i g cap w.heap.size HN.out hiN w1 hown).mono ?_
  rintro r w2 ⟨rfl, ho2, hg2⟩
  have hb2 := hb.grown hg2 hb.size (fun q hq => by cases hq; exact hg)
  have hex : ∃ a2 c2, (Value.slice (some ⟨g, 0, none⟩) N cap) = .slice a2 N c2 ∧ EvS w2 a2 (l.eraseIdx i) := by
    rw [← HLE.out] at ho2 ⊢
    obtain ⟨a2, c2, e, hS, _⟩ := evS_own ho2 (by rw [HLE.out]; have := HN.out; omega)
    exact ⟨a2, c2, e, hS⟩
  obtain ⟨a2, c2, e2, hS⟩ := hex
  rw [e2]
  clear hown ho2 hg2 e2 hb h hg
  generalize l.eraseIdx i = m at *
  go_wp2_with fail
  refine (check_n m N HLE.out a2 c2 _ hS).mono ?_
  rintro r w3 ⟨rfl, hk⟩
  have hb3 := hb2.trans (hk.mono hb2.size)
  replace hS := hS.below hk
  go_wp2
  go_ret2
  unfold LeftPost
  rw [HLE.out]
  exact ⟨_, _, rfl, hS, hb3⟩
/-- Is there a race? -/
def racesB (l : List Ev) : Bool := ((played l).2.2 == 0) && !(raceL l).isEmpty
theorem racesB_iff {l : List Ev} : racesB l = true ↔ Racy l := by
  simp only [racesB, Bool.and_eq_true, beq_iff_eq, Bool.not_eq_true', List.isEmpty_eq_false_iff]
  exact ⟨fun h => ⟨h.1, h.2⟩, fun h => ⟨h.ok, h.race⟩⟩
theorem shOk_races {l : List Ev} {i : Nat} : shOk l i = racesB (l.eraseIdx i) := rfl
set_option maxHeartbeats 1000000 in
theorem races_any (l : List Ev) (n : Nat) (hn : l.length = n) (a : Option Addr) (c : Nat) (w : World) (h : EvS w a l) :
    Calls Tryz.prog 70 #[.slice a n c] w fun r w' => r = .returned (.bool (racesB l)) ∧ Below w.heap.size w w' := by
  by_cases he : (played l).2.2 = 0
  · have HC := Lib.hid (seconds_ok l n hn a c w h he)
    have hq : racesB l = decide (0 < (secL ((raceL l).map Rc.b)).length) := by
      rw [Bool.eq_iff_iff, racesB_iff, decide_eq_true_eq]
      constructor
      · intro hr
        refine List.length_pos_iff.2 fun e => hr.race ?_
        have := secL_nil.1 e
        simpa using this
      · intro hp
        refine ⟨he, fun e => ?_⟩
        rw [e] at hp
        have : secL [] = [] := secL_nil.2 rfl
        rw [List.map_nil, this] at hp
        simp at hp
    generalize secL ((raceL l).map Rc.b) = Q at *
    have HQ := Lib.hid hq
    clear hq h he hn
    go_enter Tryz.func70, Tryz.ntmps70
    go_wp2_with fail
    refine HC.out.mono ?_
    rintro r w1 ⟨a1, c1, rfl, hI, hb⟩
    clear HC
    go_wp2
    go_ret
    rw [HQ.out]
    refine ⟨?_, hb⟩
    first | rfl | (congr 2; simp)
  · have HC := Lib.hid (seconds_no l n hn a c w h he)
    have hq : racesB l = false := by
      unfold racesB
      rw [beq_eq_false_iff_ne.2 he]
      rfl
    have HQ := Lib.hid hq
    clear hq h he hn
    go_enter Tryz.func70, Tryz.ntmps70
    go_wp2_with fail
    refine HC.out.mono ?_
    rintro r w1 ⟨rfl, hb⟩
    clear HC
    go_wp2
    go_ret
    rw [HQ.out]
    exact ⟨rfl, hb⟩
/-- What a pass yields. -/
def PassPost (p : List Ev × Bool) (w : World) (r : Ending) (w' : World) : Prop := ∃ a c, r = .returned (.tuple #[.slice a p.1.length c, .bool p.2]) ∧ EvS w' a p.1 ∧ Below w.heap.size w w'
/-- Amid a pass. -/
def PassMid (w0 : World) (P : List Ev × Bool) (v i b : Value) (w : World) : Prop := ∃ (m : List Ev) (k : Nat) (q : Bool) (a : Option Addr) (c : Nat), v = .slice a m.length c ∧ i = .int .i64 k ∧ b = .bool q ∧ k ≤ m.length ∧ m.length ≤ 80 ∧ P = passL (m.length - k) m k q ∧ EvS w a m ∧ Below w0.heap.size w0 w
set_option maxRecDepth 100000 in
set_option maxHeartbeats 4000000 in
theorem pass_any (l : List Ev) (n : Nat) (hn : l.length = n) (h80 : l.length ≤ 80) (a : Option Addr) (c : Nat) (w : World) (h : EvS w a l) :
    Calls Tryz.prog 72 #[.slice a n c] w (PassPost (passL l.length l 0 false) w) := by
  subst hn
  obtain ⟨P, hP⟩ : ∃ P, passL l.length l 0 false = P := ⟨_, rfl⟩
  rw [hP]
  have H0 : PassMid w P (.slice a l.length c) (.int .i64 0) (.bool false) w := ⟨l, 0, false, a, c, rfl, rfl, rfl, Nat.zero_le _, h80, by rw [Nat.sub_zero]; exact hP.symm, h, Below.refl _ _⟩
  clear hP h h80
  go_enter Tryz.func72, Tryz.ntmps72
  go_wp2
  go_loopw [0, 4, 5] (fun v b i wr => PassMid w P v i b wr) (fun v _ i _ => match v with | .slice _ n _ => n - (intOf i).toNat | _ => 0)
  case atStart => exact H0
  case round =>
    clear H0
    obtain ⟨m, k, q, a2, c2, rfl, rfl, rfl, hk, h80, hP, hS, hb⟩ := hrel
    by_cases hlt : k < m.length
    · obtain ⟨r, hr⟩ : ∃ r, m.length - k = r + 1 := ⟨m.length - k - 1, by omega⟩
      have hP2 : P = if shOk m k then passL r (m.eraseIdx k) k true else passL r m (k + 1) q := by rw [hP, hr]; rfl
      have hle : (m.eraseIdx k).length = m.length - 1 := erase_len hlt
      have HP := Lib.hid hP2
      have HR := Lib.hid hr
      have HLE := Lib.hid hle
      have hsr := shOk_races (l := m) (i := k)
      have HSR := Lib.hid hsr
      have hlf := left_any m m.length k rfl hlt h80 a2 c2 _ hS
      have HLF := Lib.hid hlf
      clear hP hP2 hr hle hsr hlf
      go_wp2_with fail
      refine HLF.out.mono ?_
      rintro r' w1 ⟨a3, c3, rfl, hE, hk1⟩
      rw [HLE.out]
      have hb1 := hb.trans (hk1.mono hb.size)
      have hS1 := hS.below hk1
      clear HLF hb hS hk1
      obtain ⟨p, hp⟩ : ∃ p, ((played (m.eraseIdx k)).2.2 == 0) = p := ⟨_, rfl⟩
      rw [hp]
      cases p
      · have hno : shOk m k = false := by rw [HSR.out]; unfold racesB; rw [hp]; rfl
        have HQ := Lib.hid (show P = passL (m.length - (k + 1)) m (k + 1) q by rw [HP.out, hno, show m.length - (k + 1) = r by have := HR.out; omega]; rfl)
        clear hno hp hE
        go_wp2
        go_roundw
        case rel => exact ⟨m, k + 1, q, _, _, rfl, by go_num, rfl, by omega, h80, HQ.out, hS1, hb1⟩
        case measure => (simp [intOf]; try omega)
      · clear hp
        obtain ⟨p2, hp2⟩ : ∃ p2, racesB (m.eraseIdx k) = p2 := ⟨_, rfl⟩
        have HP2 := Lib.hid hp2
        clear hp2
        go_wp2_with fail
        refine (races_any (m.eraseIdx k) _ HLE.out a3 c3 _ hE).mono ?_
        rintro r' w2 ⟨rfl, hk2⟩
        rw [HP2.out]
        have hb2 := hb1.trans (hk2.mono hb1.size)
        have hS2 := hS1.below hk2
        have hE2 := hE.below hk2
        clear hk2 hb1 hS1 hE
        cases p2
        · have hno : shOk m k = false := by rw [HSR.out]; exact HP2.out
          have HQ := Lib.hid (show P = passL (m.length - (k + 1)) m (k + 1) q by rw [HP.out, hno, show m.length - (k + 1) = r by have := HR.out; omega]; rfl)
          clear hno hE2
          go_wp2
          go_roundw
          case rel => exact ⟨m, k + 1, q, _, _, rfl, by go_num, rfl, by omega, h80, HQ.out, hS2, hb2⟩
          case measure => (simp [intOf]; try omega)
        · have hyes : shOk m k = true := by rw [HSR.out]; exact HP2.out
          have HQ := Lib.hid (show P = passL ((m.eraseIdx k).length - k) (m.eraseIdx k) k true by rw [HP.out, hyes, HLE.out, show m.length - 1 - k = r by have := HR.out; omega]; rfl)
          clear hyes hS2
          go_wp2
          go_roundw
          case rel => exact ⟨m.eraseIdx k, k, true, _, _, by rw [HLE.out], rfl, rfl, by rw [HLE.out]; omega, by rw [HLE.out]; omega, HQ.out, hE2, hb2⟩
          case measure => (simp [intOf]; try omega)
    · have hPe : P = (m, q) := by rw [hP, show m.length - k = 0 by omega]; rfl
      have HP := Lib.hid hPe
      clear hP hPe
      go_wp2
      go_ret2
      unfold PassPost
      rw [HP.out]
      exact ⟨_, _, rfl, hS, hb⟩
end Go.Proofs.YtfjbnhacfficnaaGreatDoor

/- Contracts of shrink.Min, shrink.Without; the closed fact 'shrunk'. -/
namespace Go.Proofs.YtfjbnhacfficnaaGreatDoor
open Go.RowKit

def mini (l : List Ev) : List Ev := minL (l.length + 1) l
theorem mini_is (l : List Ev) : Least l (mini l) := min_is _ l (Nat.lt_succ_self _)
theorem mini_len (l : List Ev) : (mini l).length ≤ l.length := (mini_is l).sub.length_le
theorem mini_again (l : List Ev) : mini (mini l) = mini l := min_again (mini_is l).min
/-- A slice of events and no error. -/
def MinPost (m : List Ev) (w : World) (r : Ending) (w' : World) : Prop := ∃ a c, r = .returned (.tuple #[.slice a m.length c, .int .i64 0]) ∧ EvS w' a m ∧ Below w.heap.size w w'
/-- nil and an error. -/
def MinNo (e : Int) (w : World) (r : Ending) (w' : World) : Prop := r = .returned (.tuple #[.slice none 0 0, .int .i64 e]) ∧ Below w.heap.size w w'
/-- Amid Min. -/
def MinMid (w0 : World) (M : List Ev) (v b : Value) (w : World) : Prop := ∃ (m : List Ev) (q : Bool) (a : Option Addr) (c : Nat), v = .slice a m.length c ∧ b = .bool q ∧ m.length ≤ 80 ∧ (if q then ∃ n, m.length < n ∧ M = minL n m else M = m) ∧ EvS w a m ∧ Below w0.heap.size w0 w
def lenV : Value → Nat
  | .slice _ n _ => n
  | _ => 0
def bitV : Value → Nat
  | .bool true => 1
  | _ => 0
set_option maxRecDepth 100000 in
set_option maxHeartbeats 4000000 in
theorem min_ok (l : List Ev) (n : Nat) (hn : l.length = n) (a : Option Addr) (c : Nat) (w : World) (h : EvS w a l) (hr : Racy l) :
    Calls Tryz.prog 49 #[.slice a n c] w (MinPost (mini l) w) := by
  subst hn
  have hl80 := (played_evs hr.ok).1
  obtain ⟨M, hM⟩ : ∃ M, mini l = M := ⟨_, rfl⟩
  rw [hM]
  have HM := Lib.hid hM
  have HR := Lib.hid hr
  have HRB := Lib.hid (racesB_iff.2 hr)
  have hcl := fun (w : World) (h : EvS w a l) => clone_all l a c w h (by omega)
  have HCL := Lib.hid hcl
  clear hM hr hcl
  go_enter Tryz.func49, Tryz.ntmps49
  go_wp2_with fail
  refine (check_any l a c _ h).mono ?_
  rintro r w1 ⟨rfl, hb⟩
  rw [HR.out.ok]
  go_wp2_with fail
  refine (races_any l _ rfl a c _ (h.below hb)).mono ?_
  rintro r w2 ⟨rfl, hk⟩
  rw [HRB.out]
  replace hb := hb.trans (hk.mono hb.size)
  clear hk HRB HR
  go_wp2_with fail
  refine (HCL.out _ (h.below hb)).mono ?_
  rintro r w3 ⟨v, rfl, hown, hk⟩
  replace hb := hb.trans (hk.mono hb.size)
  have hex : ∃ a2 c2, v = .slice a2 l.length c2 ∧ EvS w3 a2 l := by
    obtain ⟨a2, c2, e, hS, _⟩ := evS_own hown (by omega)
    exact ⟨a2, c2, e, hS⟩
  obtain ⟨a2, c2, rfl, hS⟩ := hex
  have H0 : MinMid w3 M (.slice a2 l.length c2) (.bool true) w3 := ⟨l, true, a2, c2, rfl, rfl, hl80, ⟨l.length + 1, Nat.lt_succ_self _, HM.out.symm⟩, hS, Below.refl _ _⟩
  clear hk hown hS HCL h HM hl80
  go_wp2
  go_loopw [0, 6] (fun v b wr => MinMid w3 M v b wr) (fun v b _ => lenV v + bitV b)
  case atStart => exact H0
  case round =>
    clear H0
    obtain ⟨m, q, a4, c4, rfl, rfl, h80, hQ, hS, hb4⟩ := hrel
    cases q
    · have HQ := Lib.hid (show M = m from hQ)
      have hb5 := hb.trans (hb4.mono hb.size)
      clear hQ
      go_wp2
      go_ret2
      unfold MinPost
      rw [HQ.out]
      exact ⟨_, _, rfl, hS, hb5⟩
    · have HQ := Lib.hid (show ∃ n, m.length < n ∧ M = minL n m from hQ)
      clear hQ
      go_wp2_with fail
      refine (pass_any m _ rfl h80 a4 c4 _ hS).mono ?_
      rintro r w5 ⟨a5, c5, rfl, hE, hk5⟩
      have hb5 := hb4.trans (hk5.mono hb4.size)
      have hp := pass_is m.length m 0 false (by omega)
      have hpl := hp.sub.length_le
      have hq2 : if (passL m.length m 0 false).2 then ∃ n, (passL m.length m 0 false).1.length < n ∧ M = minL n (passL m.length m 0 false).1 else M = (passL m.length m 0 false).1 := by
        obtain ⟨n, hn, hM⟩ := HQ.out
        obtain ⟨n', rfl⟩ : ∃ n', n = n' + 1 := ⟨n - 1, by omega⟩
        simp only [minL] at hM
        by_cases hb : (passL m.length m 0 false).2 = true
        · rw [if_pos hb] at hM ⊢
          refine ⟨n', ?_, hM⟩
          rcases hp.less hb with e | e
          · cases e
          · omega
        · rw [if_neg hb] at hM ⊢
          exact hM
      have hlt : lenV (.slice a5 (passL m.length m 0 false).1.length c5) + bitV (.bool (passL m.length m 0 false).2) < m.length + 1 := by
        by_cases hb : (passL m.length m 0 false).2 = true
        · rw [hb]
          rcases hp.less hb with e | e
          · cases e
          · show (passL m.length m 0 false).1.length + 1 < m.length + 1
            omega
        · have hb' : (passL m.length m 0 false).2 = false := by simpa using hb
          rw [hb']
          show (passL m.length m 0 false).1.length + 0 < m.length + 1
          omega
      have HQ2 := Lib.hid hq2
      have HLT := Lib.hid hlt
      have HPL := Lib.hid hpl
      clear hq2 hlt hpl hp hS hb4 hk5 HQ
      generalize passL m.length m 0 false = p at *
      obtain ⟨m2, q2⟩ := p
      simp only at hE
      go_wp2
      go_roundw
      case rel => exact ⟨m2, q2, a5, c5, rfl, rfl, by have : m2.length ≤ m.length := HPL.out; omega, HQ2.out, hE, hb5⟩
      case measure => exact HLT.out
set_option maxHeartbeats 1000000 in
theorem min_no (l : List Ev) (n : Nat) (hn : l.length = n) (a : Option Addr) (c : Nat) (w : World) (h : EvS w a l) (hr : ¬ Racy l) :
    Calls Tryz.prog 49 #[.slice a n c] w (MinNo (if (played l).2.2 = 0 then 7 else (played l).2.2) w) := by
  subst hn
  have HRB := Lib.hid (show racesB l = false by rw [Bool.eq_false_iff]; exact fun e => hr (racesB_iff.1 e))
  clear hr
  by_cases he : (played l).2.2 = 0
  · rw [if_pos he]
    have HE := Lib.hid he
    clear he
    go_enter Tryz.func49, Tryz.ntmps49
    go_wp2_with fail
    refine (check_any l a c _ h).mono ?_
    rintro r w1 ⟨rfl, hb⟩
    rw [HE.out]
    go_wp2_with fail
    refine (races_any l _ rfl a c _ (h.below hb)).mono ?_
    rintro r w2 ⟨rfl, hk⟩
    rw [HRB.out]
    replace hb := hb.trans (hk.mono hb.size)
    go_wp2
    go_ret2
    exact ⟨rfl, hb⟩
  · rw [if_neg he]
    have e2 : ((played l).2.2 != 0) = true := by simpa using he
    clear he
    go_enter Tryz.func49, Tryz.ntmps49
    go_wp2_with fail
    refine (check_any l a c _ h).mono ?_
    rintro r w1 ⟨rfl, hb⟩
    go_wp2
    go_ret2
    exact ⟨rfl, hb⟩
/-- May it go without event i? -/
def woOk (l : List Ev) (i : Int) : Bool := ((played l).2.2 == 0) && decide (0 ≤ i) && decide (i < l.length) && ((played (l.eraseIdx i.toNat)).2.2 == 0)
theorem woOk_at {l : List Ev} {i : Int} (h : woOk l i = true) : ∃ k : Nat, i = k ∧ k < l.length ∧ (played l).2.2 = 0 ∧ (played (l.eraseIdx k)).2.2 = 0 := by
  simp only [woOk, Bool.and_eq_true, decide_eq_true_eq, beq_iff_eq] at h
  obtain ⟨⟨⟨h1, h2⟩, h3⟩, h4⟩ := h
  exact ⟨i.toNat, by omega, by omega, h1, h4⟩
set_option maxHeartbeats 1000000 in
theorem without_ok (l : List Ev) (n k : Nat) (hn : l.length = n) (hk : k < n) (a : Option Addr) (c : Nat) (w : World) (h : EvS w a l) (hp : (played l).2.2 = 0) (hq : (played (l.eraseIdx k)).2.2 = 0) :
    Calls Tryz.prog 48 #[.slice a n c, .int .i64 k] w (MinPost (l.eraseIdx k) w) := by
  subst hn
  have hl80 := (played_evs hp).1
  have HP := Lib.hid hp
  have HQ := Lib.hid hq
  have k0 : decide ((k : Int) < 0) = false := decide_eq_false (by omega)
  have k1 : decide ((k : Int) ≥ (l.length : Int)) = false := decide_eq_false (by omega)
  have k2 : decide ((l.length : Int) ≤ (k : Int)) = false := decide_eq_false (by omega)
  have k3 : decide (l.length ≤ k) = false := decide_eq_false (by omega)
  have HLF := Lib.hid fun W (hW : EvS W a l) => left_any l l.length k rfl hk hl80 a c W hW
  clear hp hq hk
  go_enter Tryz.func48, Tryz.ntmps48
  go_wp2_with fail
  refine (check_any l a c _ h).mono ?_
  rintro r w1 ⟨rfl, hb⟩
  rw [HP.out]
  go_wp2_with fail
  refine (HLF.out _ (h.below hb)).mono ?_
  rintro r w2 ⟨a2, c2, rfl, hS, hk2⟩
  rw [HQ.out]
  replace hb := hb.trans (hk2.mono hb.size)
  clear HLF hk2
  go_wp2
  go_ret2
  exact ⟨_, _, rfl, hS, hb⟩
/-- nil and some error. -/
def WoNo (w : World) (r : Ending) (w' : World) : Prop := ∃ e : Int, (e == 0) = false ∧ r = .returned (.tuple #[.slice none 0 0, .int .i64 e]) ∧ Below w.heap.size w w'
set_option maxHeartbeats 1000000 in
theorem without_no (l : List Ev) (n : Nat) (i : Int) (hn : l.length = n) (a : Option Addr) (c : Nat) (w : World) (h : EvS w a l) (hw : woOk l i = false) :
    Calls Tryz.prog 48 #[.slice a n c, .int .i64 i] w (WoNo w) := by
  subst hn
  by_cases hp : (played l).2.2 = 0
  · have HP := Lib.hid hp
    have hl80 := (played_evs hp).1
    by_cases hin : 0 ≤ i ∧ i < l.length
    · obtain ⟨k, rfl⟩ := Int.eq_ofNat_of_zero_le hin.1
      have hkl : k < l.length := by omega
      have hq : ((played (l.eraseIdx k)).2.2 == 0) = false := by
        simpa [woOk, hp, hkl] using hw
      have HQ := Lib.hid hq
      have k0 : decide ((k : Int) < 0) = false := decide_eq_false (by omega)
      have k1 : decide ((k : Int) ≥ (l.length : Int)) = false := decide_eq_false (by omega)
      have k2 : decide ((l.length : Int) ≤ (k : Int)) = false := decide_eq_false (by omega)
      have k3 : decide (l.length ≤ k) = false := decide_eq_false (by omega)
      have HLF := Lib.hid fun W (hW : EvS W a l) => left_any l l.length k rfl hkl hl80 a c W hW
      clear hp hq hw hkl hin
      go_enter Tryz.func48, Tryz.ntmps48
      go_wp2_with fail
      refine (check_any l a c _ h).mono ?_
      rintro r w1 ⟨rfl, hb⟩
      rw [HP.out]
      go_wp2_with fail
      refine (HLF.out _ (h.below hb)).mono ?_
      rintro r w2 ⟨a2, c2, rfl, hS, hk2⟩
      rw [HQ.out]
      replace hb := hb.trans (hk2.mono hb.size)
      clear HLF hk2
      go_wp2
      go_ret2
      exact ⟨5, rfl, rfl, hb⟩
    · have hcl := fun W (hW : EvS W a l) => check_any l a c W hW
      have HCL := Lib.hid hcl
      clear hp hw hcl
      obtain ⟨q1, r1⟩ : ∃ q, decide (i < 0) = q := ⟨_, rfl⟩
      obtain ⟨q2, r2⟩ : ∃ q, decide (i ≥ (l.length : Int)) = q := ⟨_, rfl⟩
      have hqq : q1 = true ∨ q2 = true := by
        rw [← r1, ← r2, decide_eq_true_eq, decide_eq_true_eq]
        omega
      clear hin
      go_enter Tryz.func48, Tryz.ntmps48
      go_wp2_with fail
      refine (HCL.out _ h).mono ?_
      rintro r w1 ⟨rfl, hb⟩
      rw [HP.out]
      cases q1
      · obtain rfl : q2 = true := by simpa using hqq
        clear hqq
        go_wp2
        go_ret2
        exact ⟨1, rfl, rfl, hb⟩
      · clear hqq
        go_wp2
        go_ret2
        exact ⟨1, rfl, rfl, hb⟩
  · have e2 : ((played l).2.2 != 0) = true := by simpa using hp
    have hz : ((played l).2.2 == 0) = false := by simpa using hp
    clear hp hw
    go_enter Tryz.func48, Tryz.ntmps48
    go_wp2_with fail
    refine (check_any l a c _ h).mono ?_
    rintro r w1 ⟨rfl, hb⟩
    go_wp2
    go_ret2
    exact ⟨_, hz, rfl, hb⟩
def shrL : List Ev := twoL ++ [⟨1, 0, 0⟩]
theorem shr_racy : Racy shrL := ⟨by decide +kernel, fun e => absurd (congrArg List.length e) (by decide +kernel)⟩
theorem shr_min : (mini shrL).length = 3 := by decide +kernel
end Go.Proofs.YtfjbnhacfficnaaGreatDoor

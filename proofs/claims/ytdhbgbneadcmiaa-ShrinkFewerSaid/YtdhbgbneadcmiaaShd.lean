/- Contracts of shrink.Min, shrink.Without; the closed fact 'shrunk'. -/
import Derived.Test.YtdhbgbneadcmiaaShc
namespace Go.Proofs.Ytdhbgbneadcmiaa
open Go.RowKit

def mini (l : List Ev) : List Ev := minL (l.length + 1) l
theorem mini_is (l : List Ev) : Least l (mini l) := min_is _ l (Nat.lt_succ_self _)
theorem mini_len (l : List Ev) : (mini l).length ≤ l.length := (mini_is l).sub.length_le
theorem mini_again (l : List Ev) : mini (mini l) = mini l := min_again (mini_is l).min
/-- A slice of events and no error. -/
def MinPost (m : List Ev) (w : World) (r : Ending) (w' : World) : Prop := ∃ a c, r = .returned (.tuple #[.slice a m.length c, .int .i64 0]) ∧ EvS w' a m ∧ Below w.heap.size w w'
/-- nil and an error. -/
def MinNo (e : Int) (w : World) (r : Ending) (w' : World) : Prop := r = .returned (.tuple #[.slice none 0 0, .int .i64 e]) ∧ Below w.heap.size w w'
/-- Amid Min. -/
def MinMid (w0 : World) (M : List Ev) (v b : Value) (w : World) : Prop := ∃ (m : List Ev) (q : Bool) (a : Option Addr) (c : Nat), v = .slice a m.length c ∧ b = .bool q ∧ m.length ≤ 80 ∧ (if q then ∃ n, m.length < n ∧ M = minL n m else M = m) ∧ EvS w a m ∧ Below w0.heap.size w0 w
def lenV : Value → Nat
  | .slice _ n _ => n
  | _ => 0
def bitV : Value → Nat
  | .bool true => 1
  | _ => 0
set_option maxRecDepth 100000 in
set_option maxHeartbeats 4000000 in
theorem min_ok (l : List Ev) (n : Nat) (hn : l.length = n) (a : Option Addr) (c : Nat) (w : World) (h : EvS w a l) (hr : Racy l) :
    Calls Try.prog 19 #[.slice a n c] w (MinPost (mini l) w) := by
  subst hn
  have hl80 := (played_evs hr.ok).1
  obtain ⟨M, hM⟩ : ∃ M, mini l = M := ⟨_, rfl⟩
  rw [hM]
  have HM := Lib.hid hM
  have HR := Lib.hid hr
  have HRB := Lib.hid (racesB_iff.2 hr)
  have hcl := fun (w : World) (h : EvS w a l) => clone_all l a c w h (by omega)
  have HCL := Lib.hid hcl
  clear hM hr hcl
  go_enter Try.func19, Try.ntmps19
  go_wp2_with fail
  refine (check_any l a c _ h).mono ?_
  rintro r w1 ⟨rfl, hb⟩
  rw [HR.out.ok]
  go_wp2_with fail
  refine (races_any l _ rfl a c _ (h.below hb)).mono ?_
  rintro r w2 ⟨rfl, hk⟩
  rw [HRB.out]
  replace hb := hb.trans (hk.mono hb.size)
  clear hk HRB HR
  go_wp2_with fail
  refine (HCL.out _ (h.below hb)).mono ?_
  rintro r w3 ⟨v, rfl, hown, hk⟩
  replace hb := hb.trans (hk.mono hb.size)
  have hex : ∃ a2 c2, v = .slice a2 l.length c2 ∧ EvS w3 a2 l := by
    obtain ⟨a2, c2, e, hS, _⟩ := evS_own hown (by omega)
    exact ⟨a2, c2, e, hS⟩
  obtain ⟨a2, c2, rfl, hS⟩ := hex
  have H0 : MinMid w3 M (.slice a2 l.length c2) (.bool true) w3 := ⟨l, true, a2, c2, rfl, rfl, hl80, ⟨l.length + 1, Nat.lt_succ_self _, HM.out.symm⟩, hS, Below.refl _ _⟩
  clear hk hown hS HCL h HM hl80
  go_wp2
  go_loopw [0, 6] (fun v b wr => MinMid w3 M v b wr) (fun v b _ => lenV v + bitV b)
  case atStart => exact H0
  case round =>
    clear H0
    obtain ⟨m, q, a4, c4, rfl, rfl, h80, hQ, hS, hb4⟩ := hrel
    cases q
    · have HQ := Lib.hid (show M = m from hQ)
      have hb5 := hb.trans (hb4.mono hb.size)
      clear hQ
      go_wp2
      go_ret2
      unfold MinPost
      rw [HQ.out]
      exact ⟨_, _, rfl, hS, hb5⟩
    · have HQ := Lib.hid (show ∃ n, m.length < n ∧ M = minL n m from hQ)
      clear hQ
      go_wp2_with fail
      refine (pass_any m _ rfl h80 a4 c4 _ hS).mono ?_
      rintro r w5 ⟨a5, c5, rfl, hE, hk5⟩
      have hb5 := hb4.trans (hk5.mono hb4.size)
      have hp := pass_is m.length m 0 false (by omega)
      have hpl := hp.sub.length_le
      have hq2 : if (passL m.length m 0 false).2 then ∃ n, (passL m.length m 0 false).1.length < n ∧ M = minL n (passL m.length m 0 false).1 else M = (passL m.length m 0 false).1 := by
        obtain ⟨n, hn, hM⟩ := HQ.out
        obtain ⟨n', rfl⟩ : ∃ n', n = n' + 1 := ⟨n - 1, by omega⟩
        simp only [minL] at hM
        by_cases hb : (passL m.length m 0 false).2 = true
        · rw [if_pos hb] at hM ⊢
          refine ⟨n', ?_, hM⟩
          rcases hp.less hb with e | e
          · cases e
          · omega
        · rw [if_neg hb] at hM ⊢
          exact hM
      have hlt : lenV (.slice a5 (passL m.length m 0 false).1.length c5) + bitV (.bool (passL m.length m 0 false).2) < m.length + 1 := by
        by_cases hb : (passL m.length m 0 false).2 = true
        · rw [hb]
          rcases hp.less hb with e | e
          · cases e
          · show (passL m.length m 0 false).1.length + 1 < m.length + 1
            omega
        · have hb' : (passL m.length m 0 false).2 = false := by simpa using hb
          rw [hb']
          show (passL m.length m 0 false).1.length + 0 < m.length + 1
          omega
      have HQ2 := Lib.hid hq2
      have HLT := Lib.hid hlt
      have HPL := Lib.hid hpl
      clear hq2 hlt hpl hp hS hb4 hk5 HQ
      generalize passL m.length m 0 false = p at *
      obtain ⟨m2, q2⟩ := p
      simp only at hE
      go_wp2
      go_roundw
      case rel => exact ⟨m2, q2, a5, c5, rfl, rfl, by have : m2.length ≤ m.length := HPL.out; omega, HQ2.out, hE, hb5⟩
      case measure => exact HLT.out
set_option maxHeartbeats 1000000 in
theorem min_no (l : List Ev) (n : Nat) (hn : l.length = n) (a : Option Addr) (c : Nat) (w : World) (h : EvS w a l) (hr : ¬ Racy l) :
    Calls Try.prog 19 #[.slice a n c] w (MinNo (if (played l).2.2 = 0 then 7 else (played l).2.2) w) := by
  subst hn
  have HRB := Lib.hid (show racesB l = false by rw [Bool.eq_false_iff]; exact fun e => hr (racesB_iff.1 e))
  clear hr
  by_cases he : (played l).2.2 = 0
  · rw [if_pos he]
    have HE := Lib.hid he
    clear he
    go_enter Try.func19, Try.ntmps19
    go_wp2_with fail
    refine (check_any l a c _ h).mono ?_
    rintro r w1 ⟨rfl, hb⟩
    rw [HE.out]
    go_wp2_with fail
    refine (races_any l _ rfl a c _ (h.below hb)).mono ?_
    rintro r w2 ⟨rfl, hk⟩
    rw [HRB.out]
    replace hb := hb.trans (hk.mono hb.size)
    go_wp2
    go_ret2
    exact ⟨rfl, hb⟩
  · rw [if_neg he]
    have e2 : ((played l).2.2 != 0) = true := by simpa using he
    clear he
    go_enter Try.func19, Try.ntmps19
    go_wp2_with fail
    refine (check_any l a c _ h).mono ?_
    rintro r w1 ⟨rfl, hb⟩
    go_wp2
    go_ret2
    exact ⟨rfl, hb⟩
/-- May it go without event i? -/
def woOk (l : List Ev) (i : Int) : Bool := ((played l).2.2 == 0) && decide (0 ≤ i) && decide (i < l.length) && ((played (l.eraseIdx i.toNat)).2.2 == 0)
theorem woOk_at {l : List Ev} {i : Int} (h : woOk l i = true) : ∃ k : Nat, i = k ∧ k < l.length ∧ (played l).2.2 = 0 ∧ (played (l.eraseIdx k)).2.2 = 0 := by
  simp only [woOk, Bool.and_eq_true, decide_eq_true_eq, beq_iff_eq] at h
  obtain ⟨⟨⟨h1, h2⟩, h3⟩, h4⟩ := h
  exact ⟨i.toNat, by omega, by omega, h1, h4⟩
set_option maxHeartbeats 1000000 in
theorem without_ok (l : List Ev) (n k : Nat) (hn : l.length = n) (hk : k < n) (a : Option Addr) (c : Nat) (w : World) (h : EvS w a l) (hp : (played l).2.2 = 0) (hq : (played (l.eraseIdx k)).2.2 = 0) :
    Calls Try.prog 22 #[.slice a n c, .int .i64 k] w (MinPost (l.eraseIdx k) w) := by
  subst hn
  have hl80 := (played_evs hp).1
  have HP := Lib.hid hp
  have HQ := Lib.hid hq
  have k0 : decide ((k : Int) < 0) = false := decide_eq_false (by omega)
  have k1 : decide ((k : Int) ≥ (l.length : Int)) = false := decide_eq_false (by omega)
  have k2 : decide ((l.length : Int) ≤ (k : Int)) = false := decide_eq_false (by omega)
  have k3 : decide (l.length ≤ k) = false := decide_eq_false (by omega)
  have HLF := Lib.hid fun W (hW : EvS W a l) => left_any l l.length k rfl hk hl80 a c W hW
  clear hp hq hk
  go_enter Try.func22, Try.ntmps22
  go_wp2_with fail
  refine (check_any l a c _ h).mono ?_
  rintro r w1 ⟨rfl, hb⟩
  rw [HP.out]
  go_wp2_with fail
  refine (HLF.out _ (h.below hb)).mono ?_
  rintro r w2 ⟨a2, c2, rfl, hS, hk2⟩
  rw [HQ.out]
  replace hb := hb.trans (hk2.mono hb.size)
  clear HLF hk2
  go_wp2
  go_ret2
  exact ⟨_, _, rfl, hS, hb⟩
/-- nil and some error. -/
def WoNo (w : World) (r : Ending) (w' : World) : Prop := ∃ e : Int, (e == 0) = false ∧ r = .returned (.tuple #[.slice none 0 0, .int .i64 e]) ∧ Below w.heap.size w w'
set_option maxHeartbeats 1000000 in
theorem without_no (l : List Ev) (n : Nat) (i : Int) (hn : l.length = n) (a : Option Addr) (c : Nat) (w : World) (h : EvS w a l) (hw : woOk l i = false) :
    Calls Try.prog 22 #[.slice a n c, .int .i64 i] w (WoNo w) := by
  subst hn
  by_cases hp : (played l).2.2 = 0
  · have HP := Lib.hid hp
    have hl80 := (played_evs hp).1
    by_cases hin : 0 ≤ i ∧ i < l.length
    · obtain ⟨k, rfl⟩ := Int.eq_ofNat_of_zero_le hin.1
      have hkl : k < l.length := by omega
      have hq : ((played (l.eraseIdx k)).2.2 == 0) = false := by
        simpa [woOk, hp, hkl] using hw
      have HQ := Lib.hid hq
      have k0 : decide ((k : Int) < 0) = false := decide_eq_false (by omega)
      have k1 : decide ((k : Int) ≥ (l.length : Int)) = false := decide_eq_false (by omega)
      have k2 : decide ((l.length : Int) ≤ (k : Int)) = false := decide_eq_false (by omega)
      have k3 : decide (l.length ≤ k) = false := decide_eq_false (by omega)
      have HLF := Lib.hid fun W (hW : EvS W a l) => left_any l l.length k rfl hkl hl80 a c W hW
      clear hp hq hw hkl hin
      go_enter Try.func22, Try.ntmps22
      go_wp2_with fail
      refine (check_any l a c _ h).mono ?_
      rintro r w1 ⟨rfl, hb⟩
      rw [HP.out]
      go_wp2_with fail
      refine (HLF.out _ (h.below hb)).mono ?_
      rintro r w2 ⟨a2, c2, rfl, hS, hk2⟩
      rw [HQ.out]
      replace hb := hb.trans (hk2.mono hb.size)
      clear HLF hk2
      go_wp2
      go_ret2
      exact ⟨5, rfl, rfl, hb⟩
    · have hcl := fun W (hW : EvS W a l) => check_any l a c W hW
      have HCL := Lib.hid hcl
      clear hp hw hcl
      obtain ⟨q1, r1⟩ : ∃ q, decide (i < 0) = q := ⟨_, rfl⟩
      obtain ⟨q2, r2⟩ : ∃ q, decide (i ≥ (l.length : Int)) = q := ⟨_, rfl⟩
      have hqq : q1 = true ∨ q2 = true := by
        rw [← r1, ← r2, decide_eq_true_eq, decide_eq_true_eq]
        omega
      clear hin
      go_enter Try.func22, Try.ntmps22
      go_wp2_with fail
      refine (HCL.out _ h).mono ?_
      rintro r w1 ⟨rfl, hb⟩
      rw [HP.out]
      cases q1
      · obtain rfl : q2 = true := by simpa using hqq
        clear hqq
        go_wp2
        go_ret2
        exact ⟨1, rfl, rfl, hb⟩
      · clear hqq
        go_wp2
        go_ret2
        exact ⟨1, rfl, rfl, hb⟩
  · have e2 : ((played l).2.2 != 0) = true := by simpa using hp
    have hz : ((played l).2.2 == 0) = false := by simpa using hp
    clear hp hw
    go_enter Try.func22, Try.ntmps22
    go_wp2_with fail
    refine (check_any l a c _ h).mono ?_
    rintro r w1 ⟨rfl, hb⟩
    go_wp2
    go_ret2
    exact ⟨_, hz, rfl, hb⟩
def shrL : List Ev := twoL ++ [⟨1, 0, 0⟩]
theorem shr_racy : Racy shrL := ⟨by decide +kernel, fun e => absurd (congrArg List.length e) (by decide +kernel)⟩
theorem shr_min : (mini shrL).length = 3 := by decide +kernel
set_option maxRecDepth 100000 in
set_option maxHeartbeats 2000000 in
theorem shrunk_any (w : World) : Calls Try.prog 18 #[] w fun r w' => r = .returned (.bool true) ∧ Below w.heap.size w w' := by
  obtain ⟨i0, hi, hz0, hz1, hz2⟩ := info_parts infoE
  have hmk := fun (a : Option Addr) (c : Nat) (W : World) (hW : EvS W a shrL) => min_ok shrL 4 rfl a c W hW shr_racy
  have HMK := Lib.hid hmk
  clear hmk
  go_enter Try.func18, Try.ntmps18
  go_wp2_with fail
  refine (two_any _).mono ?_
  rintro r w1 ⟨rfl, hT, hb⟩
  have ho := own_full (base := w.heap.size) (size := 3) (n := 3) hT (Nat.le_refl _) rfl (by decide)
  have hN := Has.new w1 (evC ⟨1, 0, 0⟩) 40
  have hb1 := hb.alloc hb.size (.cells (evC ⟨1, 0, 0⟩) 40)
  have ho1 := ho.alloc (.cells (evC ⟨1, 0, 0⟩) 40)
  go_wp2_with (at_builtin; refine app_list _ rfl (.tmp 4) (.tmp 6) 22 rfl Try.underlying22 hi hz0 hz1 hz2 rfl (by decide) rfl ho1 rfl (news := evL [⟨1, 0, 0⟩]) ⟨rfl, .inr ⟨_, rfl, fun j u hu => hN.cell_add (by simpa [evL] using hu)⟩⟩ (by intro q hq; simp [evL] at hq; rcases hq with rfl | rfl | rfl <;> rfl) (by decide) (by decide) (by have := hb1.size; simp at this ⊢; omega) ?_)
  intro v w2 hAp
  have hb2 := hAp.below ho1 hb1 (by have := hb1.size; simp at this ⊢; omega)
  have hex : ∃ a c, v = .slice a 4 c ∧ EvS w2 a shrL := by
    have h1 := hAp.own
    have h2 : (evL twoL).toArray.toList ++ evL [⟨1, 0, 0⟩] = evL shrL := by rw [shrL, evL_append]
    rw [h2] at h1
    obtain ⟨a, c, e, hS, _⟩ := evS_own (l := shrL) h1 (by decide)
    exact ⟨a, c, e, hS⟩
  obtain ⟨a, c, rfl, hS⟩ := hex
  clear hAp ho1 ho hN hT hb1 hb
  go_wp2_with fail
  refine (HMK.out a c _ hS).mono ?_
  rintro r w3 ⟨a3, c3, rfl, hM, hk3⟩
  rw [shr_min]
  have hb3 := hb2.trans (hk3.mono hb2.size)
  go_wp2
  go_ret
  exact ⟨rfl, hb3⟩
end Go.Proofs.Ytdhbgbneadcmiaa

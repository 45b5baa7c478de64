/- Joined texts. -/
import Derived.Test.YtfjbnhacfficnaaGreatDoorZP
import Derived.Test.YtfjbnhacfficnaaGreatDoorZEA
import Derived.Test.YtfjbnhacfficnaaGreatDoorZJ
import Derived.Test.YtfjbnhacfficnaaGreatDoorDkA
import Derived.Test.YtfjbnhacfficnaaGreatDoorZS

/- Contracts of shrink.Without and order.Leads once more: with the capacity, and which error. -/
namespace Go.Proofs.YtfjbnhacfficnaaGreatDoor
open Go.RowKit

def LeftCap (l : List Ev) (w : World) (r : Ending) (w' : World) : Prop := ∃ a c, r = .returned (.tuple #[.slice a l.length c, .bool ((played l).2.2 == 0)]) ∧ EvS w' a l ∧ l.length ≤ c ∧ EvTy w' a l ∧ Below w.heap.size w w'
def MinCap (m : List Ev) (w : World) (r : Ending) (w' : World) : Prop := ∃ a c, r = .returned (.tuple #[.slice a m.length c, .int .i64 0]) ∧ EvS w' a m ∧ m.length ≤ c ∧ EvTy w' a m ∧ Below w.heap.size w w'
/-- What is wrong with leaving an event out. -/
def woE (l : List Ev) (i : Int) : Int := if (played l).2.2 ≠ 0 then (played l).2.2 else if 0 ≤ i ∧ i < l.length then 5 else 1
set_option maxRecDepth 100000 in
set_option maxHeartbeats 2000000 in
theorem left_cap (l : List Ev) (n i : Nat) (hn : l.length = n) (hi : i < n) (h80 : l.length ≤ 80) (a : Option Addr) (c : Nat) (w : World) (h : EvS w a l) :
    Calls Tryz.prog 69 #[.slice a n c, .int .i64 i] w (LeftCap (l.eraseIdx i) w) := by
  subst hn
  obtain ⟨N, hN⟩ : ∃ N, l.length = N + 1 := ⟨l.length - 1, by omega⟩
  have hcl := clone_all l a c w h (by omega)
  have hle : (l.eraseIdx i).length = N := by rw [erase_len hi, hN]; rfl
  have HLE := Lib.hid hle
  have hiN : i ≤ N := by omega
  rw [hN] at hcl ⊢
  have HCL := Lib.hid hcl
  have HN := Lib.hid hN
  have hw1 := IntWalk.i64_in ((i : Int) + 1) (by omega)
  clear hcl hle hN
  go_enter Tryz.func69, Tryz.ntmps69
  go_wp2_with fail
  refine HCL.out.mono ?_
  rintro r w1 ⟨v, rfl, hown, hb⟩
  rw [HN.out] at hown
  have hex : ∃ g cap, v = .slice (some ⟨g, 0, none⟩) (N + 1) cap ∧ w.heap.size ≤ g := by
    rcases hown.2 with ⟨_, h0⟩ | ⟨g, cap, cur, rfl, hg, _⟩
    · omega
    · exact ⟨g, cap, rfl, hg⟩
  obtain ⟨g, cap, rfl, hg⟩ := hex
  clear HCL
  go_wp2_with fail
  refine (delete_one l N i g cap w.heap.size HN.out hiN w1 hown).mono ?_
  rintro r w2 ⟨rfl, ho2, hg2⟩
  have hb2 := hb.grown hg2 hb.size (fun q hq => by cases hq; exact hg)
  have hex : ∃ a2 c2, (Value.slice (some ⟨g, 0, none⟩) N cap) = .slice a2 N c2 ∧ EvS w2 a2 (l.eraseIdx i) ∧ N ≤ c2 ∧ EvTy w2 a2 (l.eraseIdx i) := by
    rw [← HLE.out] at ho2 ⊢
    obtain ⟨a2, c2, e, hS, hcc⟩ := evS_own_cap ho2 (by rw [HLE.out]; have := HN.out; omega)
    exact ⟨a2, c2, e, hS, hcc, by rw [e] at ho2; exact evTy_own ho2 rfl⟩
  obtain ⟨a2, c2, e2, hS, hcc, hty⟩ := hex
  rw [e2]
  clear hown ho2 hg2 e2 hb h hg
  generalize l.eraseIdx i = m at *
  go_wp2_with fail
  refine (check_n m N HLE.out a2 c2 _ hS).mono ?_
  rintro r w3 ⟨rfl, hk⟩
  have hb3 := hb2.trans (hk.mono hb2.size)
  replace hS := hS.below hk
  go_wp2
  go_ret2
  unfold LeftCap
  rw [HLE.out]
  exact ⟨_, _, rfl, hS, hcc, hty.below hk, hb3⟩
set_option maxHeartbeats 1000000 in
theorem without_cap (l : List Ev) (n k : Nat) (hn : l.length = n) (hk : k < n) (a : Option Addr) (c : Nat) (w : World) (h : EvS w a l) (hp : (played l).2.2 = 0) (hq : (played (l.eraseIdx k)).2.2 = 0) :
    Calls Tryz.prog 48 #[.slice a n c, .int .i64 k] w (MinCap (l.eraseIdx k) w) := by
  subst hn
  have hl80 := (played_evs hp).1
  have HP := Lib.hid hp
  have HQ := Lib.hid hq
  have k0 : decide ((k : Int) < 0) = false := decide_eq_false (by omega)
  have k1 : decide ((k : Int) ≥ (l.length : Int)) = false := decide_eq_false (by omega)
  have k2 : decide ((l.length : Int) ≤ (k : Int)) = false := decide_eq_false (by omega)
  have k3 : decide (l.length ≤ k) = false := decide_eq_false (by omega)
  have HLF := Lib.hid fun W (hW : EvS W a l) => left_cap l l.length k rfl hk hl80 a c W hW
  clear hp hq hk
  go_enter Tryz.func48, Tryz.ntmps48
  go_wp2_with fail
  refine (check_any l a c _ h).mono ?_
  rintro r w1 ⟨rfl, hb⟩
  rw [HP.out]
  go_wp2_with fail
  refine (HLF.out _ (h.below hb)).mono ?_
  rintro r w2 ⟨a2, c2, rfl, hS, hcc, hty, hk2⟩
  rw [HQ.out]
  replace hb := hb.trans (hk2.mono hb.size)
  clear HLF hk2
  go_wp2
  go_ret2
  exact ⟨_, _, rfl, hS, hcc, hty, hb⟩
set_option maxHeartbeats 1000000 in
theorem without_err (l : List Ev) (n : Nat) (i : Int) (hn : l.length = n) (a : Option Addr) (c : Nat) (w : World) (h : EvS w a l) (hw : woOk l i = false) :
    Calls Tryz.prog 48 #[.slice a n c, .int .i64 i] w (MinNo (woE l i) w) := by
  subst hn
  by_cases hp : (played l).2.2 = 0
  · have HP := Lib.hid hp
    have hl80 := (played_evs hp).1
    by_cases hin : 0 ≤ i ∧ i < l.length
    · have HE := Lib.hid (show woE l i = 5 by unfold woE; rw [if_neg (by simpa using hp), if_pos hin])
      obtain ⟨k, rfl⟩ := Int.eq_ofNat_of_zero_le hin.1
      have hkl : k < l.length := by omega
      have hq : ((played (l.eraseIdx k)).2.2 == 0) = false := by
        simpa [woOk, hp, hkl] using hw
      have HQ := Lib.hid hq
      have k0 : decide ((k : Int) < 0) = false := decide_eq_false (by omega)
      have k1 : decide ((k : Int) ≥ (l.length : Int)) = false := decide_eq_false (by omega)
      have k2 : decide ((l.length : Int) ≤ (k : Int)) = false := decide_eq_false (by omega)
      have k3 : decide (l.length ≤ k) = false := decide_eq_false (by omega)
      have HLF := Lib.hid fun W (hW : EvS W a l) => left_any l l.length k rfl hkl hl80 a c W hW
      clear hp hq hw hkl hin
      go_enter Tryz.func48, Tryz.ntmps48
      go_wp2_with fail
      refine (check_any l a c _ h).mono ?_
      rintro r w1 ⟨rfl, hb⟩
      rw [HP.out]
      go_wp2_with fail
      refine (HLF.out _ (h.below hb)).mono ?_
      rintro r w2 ⟨a2, c2, rfl, hS, hk2⟩
      rw [HQ.out]
      replace hb := hb.trans (hk2.mono hb.size)
      clear HLF hk2
      go_wp2
      go_ret2
      exact ⟨congrArg (fun e => Ending.returned (.tuple #[.slice none 0 0, .int .i64 e])) HE.out.symm, hb⟩
    · have HE := Lib.hid (show woE l i = 1 by unfold woE; rw [if_neg (by simpa using hp), if_neg hin])
      have hcl := fun W (hW : EvS W a l) => check_any l a c W hW
      have HCL := Lib.hid hcl
      clear hp hw hcl
      obtain ⟨q1, r1⟩ : ∃ q, decide (i < 0) = q := ⟨_, rfl⟩
      obtain ⟨q2, r2⟩ : ∃ q, decide (i ≥ (l.length : Int)) = q := ⟨_, rfl⟩
      have hqq : q1 = true ∨ q2 = true := by
        rw [← r1, ← r2, decide_eq_true_eq, decide_eq_true_eq]
        omega
      clear hin
      go_enter Tryz.func48, Tryz.ntmps48
      go_wp2_with fail
      refine (HCL.out _ h).mono ?_
      rintro r w1 ⟨rfl, hb⟩
      rw [HP.out]
      cases q1
      · obtain rfl : q2 = true := by simpa using hqq
        clear hqq
        go_wp2
        go_ret2
        exact ⟨congrArg (fun e => Ending.returned (.tuple #[.slice none 0 0, .int .i64 e])) HE.out.symm, hb⟩
      · clear hqq
        go_wp2
        go_ret2
        exact ⟨congrArg (fun e => Ending.returned (.tuple #[.slice none 0 0, .int .i64 e])) HE.out.symm, hb⟩
  · have HE := Lib.hid (show woE l i = (played l).2.2 by unfold woE; rw [if_pos hp])
    have e2 : ((played l).2.2 != 0) = true := by simpa using hp
    have hz : ((played l).2.2 == 0) = false := by simpa using hp
    clear hp hw
    go_enter Tryz.func48, Tryz.ntmps48
    go_wp2_with fail
    refine (check_any l a c _ h).mono ?_
    rintro r w1 ⟨rfl, hb⟩
    go_wp2
    go_ret2
    exact ⟨congrArg (fun e => Ending.returned (.tuple #[.slice none 0 0, .int .i64 e])) HE.out.symm, hb⟩
set_option maxRecDepth 100000 in
set_option maxHeartbeats 2000000 in
theorem leads_no (l : List Ev) (i j : Nat) (a : Option Addr) (c : Nat) (w : World) (h : EvS w a l) (he : (played l).2.2 = 0) (hij : ¬ (i < l.length ∧ j < l.length)) :
    Calls Tryz.prog 43 #[.slice a l.length c, .int .i64 (i : Int), .int .i64 (j : Int)] w fun r w' => r = .returned (.tuple #[.bool false, .int .i64 1]) ∧ Below w.heap.size w w' := by
  have HE := Lib.hid he
  have i1 : decide ((i : Int) < 0) = false := by simp
  have j1 : decide ((j : Int) < 0) = false := by simp
  have i4 : ¬ ((i : Int) < 0) := by omega
  have j4 : ¬ ((j : Int) < 0) := by omega
  obtain ⟨q1, r1⟩ : ∃ q, decide ((i : Int) ≥ (l.length : Int)) = q := ⟨_, rfl⟩
  obtain ⟨q2, r2⟩ : ∃ q, decide ((j : Int) ≥ (l.length : Int)) = q := ⟨_, rfl⟩
  have hqq : q1 = true ∨ q2 = true := by
    rw [← r1, ← r2, decide_eq_true_eq, decide_eq_true_eq]
    omega
  have r3 : decide (l.length ≤ i) = q1 := by rw [← r1, Bool.eq_iff_iff, decide_eq_true_eq, decide_eq_true_eq]; omega
  have r4 : decide (l.length ≤ j) = q2 := by rw [← r2, Bool.eq_iff_iff, decide_eq_true_eq, decide_eq_true_eq]; omega
  clear he hij
  go_enter Tryz.func43, Tryz.ntmps43
  go_wp2_with fail
  refine (check_any l a c _ h).mono ?_
  rintro r w1 ⟨rfl, hb⟩
  rw [HE.out]
  cases q1
  · obtain rfl : q2 = true := by simpa using hqq
    clear hqq
    go_wp2
    go_ret2
    exact ⟨rfl, hb⟩
  · clear hqq
    go_wp2
    go_ret2
    exact ⟨rfl, hb⟩
end Go.Proofs.YtfjbnhacfficnaaGreatDoor

/- Contracts of a desk's other commands: min, size, clear, stamp, leads, drop. -/
namespace Go.Proofs.YtfjbnhacfficnaaGreatDoor
open Go.RowKit

set_option maxRecDepth 100000 in
set_option maxHeartbeats 2000000 in
theorem dk_min (l : List Ev) (d : Nat) (b : Option Addr) (n c : Nat) (w : World) (h : DkI w d l) (hr : Racy l) :
    Calls Tryz.prog 23 #[.pointer (some ⟨d, 0, none⟩), .slice b n c] w fun r w' => r = .returned (.string (itB (mini l).length)) ∧ Below w.heap.size w w' := by
  have h80 := h.small
  obtain ⟨hp, a, cc, hD, hS, _⟩ := h
  have c0 : w.cell? ⟨d, 0, none⟩ = some (.slice a l.length cc) := hD.cell rfl
  have hm := mini_len l
  go_enter Tryz.func23, Tryz.ntmps23
  go_wp2_with fail
  refine (min_ok l l.length rfl a cc w hS hr).mono ?_
  rintro r w1 ⟨a2, c2, rfl, _, hb⟩
  go_wp2_with fail
  refine (must_ok _).mono ?_
  rintro r w2 ⟨rfl, rfl⟩
  go_wp2_with fail
  refine (itoa_small ((mini l).length : Int) ⟨by omega, by omega⟩ _).mono ?_
  rintro r w2 ⟨rfl, rfl⟩
  go_wp2
  go_ret
  exact ⟨rfl, hb⟩
set_option maxRecDepth 100000 in
set_option maxHeartbeats 2000000 in
theorem dk_min_no (l : List Ev) (d : Nat) (b : Option Addr) (n c : Nat) (w : World) (h : DkI w d l) (hr : ¬ Racy l) :
    Calls Tryz.prog 23 #[.pointer (some ⟨d, 0, none⟩), .slice b n c] w fun r w' => r = .panicked (thrown 7) ∧ Below w.heap.size w w' := by
  obtain ⟨hp, a, cc, hD, hS, _⟩ := h
  have c0 : w.cell? ⟨d, 0, none⟩ = some (.slice a l.length cc) := hD.cell rfl
  have hn := min_no l l.length rfl a cc w hS hr
  rw [if_pos hp] at hn
  go_enter Tryz.func23, Tryz.ntmps23
  go_wp2_with fail
  refine hn.mono ?_
  clear hn
  rintro r w1 ⟨rfl, hb⟩
  go_wp2_with fail
  refine (must_no 7 rfl _).mono ?_
  rintro r w2 ⟨rfl, rfl⟩
  exact ⟨rfl, rfl, hb⟩
theorem dk_size (l : List Ev) (d : Nat) (b : Option Addr) (n c : Nat) (w : World) (h : DkI w d l) :
    Calls Tryz.prog 24 #[.pointer (some ⟨d, 0, none⟩), .slice b n c] w fun r w' => r = .returned (.string (itB l.length)) ∧ Below w.heap.size w w' := by
  have h80 := h.small
  obtain ⟨hp, a, cc, hD, hS, _⟩ := h
  have c0 : w.cell? ⟨d, 0, none⟩ = some (.slice a l.length cc) := hD.cell rfl
  go_enter Tryz.func24, Tryz.ntmps24
  go_wp2_with fail
  refine (itoa_small (l.length : Int) ⟨by omega, by omega⟩ _).mono ?_
  rintro r w2 ⟨rfl, rfl⟩
  go_wp2
  go_ret
  exact ⟨rfl, Below.refl _ _⟩
theorem dk_grown_below {w0 w w' : World} {b : Nat} (h : w0.grownBy w (some b)) (k : Below w.heap.size w w') : w0.grownBy w' (some b) :=
  h.trans ⟨k.os, k.tape, k.output, k.size, fun j hj _ => k.block j hj⟩
theorem dk_grown_cell {w0 w : World} {b : Nat} (h : w0.grownBy w (some b)) (i : Nat) (v : Value) : w0.grownBy (w.setCell ⟨b, i, none⟩ v) (some b) :=
  h.trans ⟨rfl, rfl, rfl, by simp, fun j _ hj => Below.heap_setCell _ _ _ _ (by intro e; exact hj (by rw [e]))⟩
/-- What Without hands over. -/
def DropF (m : List Ev) (v : Value) (w : World) : Prop := ∃ a c, v = .tuple #[.slice a m.length c, .int .i64 0] ∧ EvS w a m ∧ m.length ≤ c ∧ EvTy w a m
theorem DropF.keep {m : List Ev} {v : Value} {w w' : World} (h : DropF m v w) (k : Below w.heap.size w w') : DropF m v w' := by
  obtain ⟨a, c, h1, h2, h3, h4⟩ := h
  exact ⟨a, c, h1, h2.below k, h3, h4.below k⟩
def DropS (m : List Ev) (v : Value) (w : World) : Prop := ∃ a c, v = .slice a m.length c ∧ EvS w a m ∧ m.length ≤ c ∧ EvTy w a m
theorem DropS.keep {m : List Ev} {v : Value} {w w' : World} (h : DropS m v w) (k : Below w.heap.size w w') : DropS m v w' := by
  obtain ⟨a, c, h1, h2, h3, h4⟩ := h
  exact ⟨a, c, h1, h2.below k, h3, h4.below k⟩
def okB : ByteArray := ⟨#[111, 107]⟩
theorem DkI.set {w : World} {d : Nat} {l m : List Ev} {a : Option Addr} {c : Nat} (h : DkI w d l) (hp : (played m).2.2 = 0) (hS : EvS w a m) (hc : m.length ≤ c) (hT : EvTy w a m) : DkI (w.setCell ⟨d, 0, none⟩ (.slice a m.length c)) d m := by
  obtain ⟨_, a0, c0, hD, _, _⟩ := h
  have hT' : EvTy (w.setCell ⟨d, 0, none⟩ (.slice a m.length c)) a m := by
    rcases hT with h0 | ⟨g, o, cs, ha, hg⟩
    · exact .inl h0
    · exact .inr ⟨g, o, cs, ha, hg.setCell_ne (hg.ne_ty hD (by decide)) _⟩
  refine ⟨hp, a, c, (hD.setCell 0 (.slice a m.length c)).to rfl, ⟨hS.big, ?_⟩, hc, hT'⟩
  rcases hS.ok with h0 | ⟨g, o, ha, hcl⟩
  · exact .inl h0
  · refine .inr ⟨g, o, ha, fun i hi => ?_⟩
    obtain ⟨d0, d1, d2⟩ := hcl i hi
    have hne : g ≠ d := by
      intro e
      subst e
      simp [World.cell?, hD.out] at d1
    have oth : ∀ (k : Nat) (v : Value), (w.setCell ⟨d, 0, none⟩ v).cell? ⟨g, k, none⟩ = w.cell? ⟨g, k, none⟩ := fun k v => World.cell?_setCell_other _ _ _ _ (by intro e; exact hne (congrArg Addr.block e).symm)
    rw [oth, oth, oth]
    exact ⟨d0, d1, d2⟩
theorem dk_clear (l : List Ev) (d : Nat) (b : Option Addr) (n c : Nat) (w : World) (h : DkI w d l) :
    Calls Tryz.prog 25 #[.pointer (some ⟨d, 0, none⟩), .slice b n c] w fun r w' => r = .returned (.string okB) ∧ DkI w' d [] ∧ w.grownBy w' (some d) := by
  have hn := h.set (m := []) (a := none) (c := 0) (by decide) ⟨by decide, .inl rfl⟩ (Nat.le_refl _) (.inl rfl)
  have hd := h.lt
  obtain ⟨hp, a, cc, hD, hS, _⟩ := h
  have c0 : w.cell? ⟨d, 0, none⟩ = some (.slice a l.length cc) := hD.cell rfl
  have z0 := hD.free 0
  go_enter Tryz.func25, Tryz.ntmps25
  go_wp2
  go_ret
  exact ⟨rfl, hn, dk_grown_cell (World.grownBy.refl _ _) 0 _⟩
set_option maxRecDepth 100000 in
set_option maxHeartbeats 2000000 in
theorem dk_stamp (l : List Ev) (k : Nat) (hk : k < l.length) (d g c : Nat) (w : World) (h : DkI w d l) (hn : w.cell? ⟨g, 0, none⟩ = some (.int .i64 k)) :
    Calls Tryz.prog 20 #[.pointer (some ⟨d, 0, none⟩), .slice (some ⟨g, 0, none⟩) 1 c] w fun r w' => r = .returned (.string (toldB (((List.range 6).map (stampOf l k)).map itB))) ∧ Below w.heap.size w w' := by
  have h80 := h.small
  obtain ⟨hp, a, cc, hD, hS, _⟩ := h
  have c0 : w.cell? ⟨d, 0, none⟩ = some (.slice a l.length cc) := hD.cell rfl
  have hgl := World.block_lt_of_cell? w _ hn
  have hlen := stampL_length l l.length
  go_enter Tryz.func20, Tryz.ntmps20
  go_wp2_with fail
  refine (stamps_ok l a cc w hS hp).mono ?_
  rintro r w1 ⟨v, rfl, hown, hb⟩
  obtain ⟨a2, c2, hv, hC, hc2⟩ := ckS_own hown
  rw [hlen] at hv hc2
  subst hv
  have hn1 := (hb.cell hgl).trans hn
  obtain ⟨g2, rfl, hc⟩ : ∃ g2, a2 = some ⟨g2, 0, none⟩ ∧ ∀ j, j < 6 → w1.cell? ⟨g2, k * 6 + j, none⟩ = some (.int .i64 (stampOf l k j)) := by
    rcases hC.ok with h0 | ⟨b2, hb2, hcl⟩
    · rw [h0] at hlen
      simp at hlen
      omega
    · refine ⟨b2, hb2, fun j hj => ?_⟩
      have := hcl k (by rw [hlen]; exact hk) j hj
      have hg : ∀ hh, (stampL l l.length)[k]'hh = stampOf l k := fun hh => by simp [stampL]
      rw [this, hg]
  have hI : IntS w1 (some ⟨g2, k * 6, none⟩) ((List.range 6).map (stampOf l k)) := ⟨by simp, .inr ⟨g2, k * 6, rfl, fun i hi => by
    have h6 : i < 6 := by simpa using hi
    rw [hc i h6]
    simp⟩⟩
  have k0 : (0 : Int) ≤ k := by omega
  have k1 : (k : Int) < l.length := by omega
  have k2 : ¬ ((k : Int) ≥ l.length) := by omega
  have k3 : decide (l.length ≤ k) = false := decide_eq_false (by omega)
  clear hown hC
  go_wp2_with fail
  refine (must_ok _).mono ?_
  rintro r w2 ⟨rfl, rfl⟩
  have hti := toldIn_any ((List.range 6).map (stampOf l k)) (some ⟨g2, k * 6, none⟩) 6 _ hI (by simp) (fun x hx => by
    obtain ⟨j, _, rfl⟩ := List.mem_map.1 hx
    exact stamp_small l (by omega) j)
  rw [show ((List.range 6).map (stampOf l k)).length = 6 by simp] at hti
  go_wp2_with fail
  refine hti.mono ?_
  clear hti
  rintro r w3 ⟨rfl, hk3⟩
  have hb3 := hb.trans (hk3.mono hb.size)
  go_wp2
  go_ret
  exact ⟨rfl, hb3⟩
set_option maxRecDepth 100000 in
set_option maxHeartbeats 2000000 in
theorem dk_stamp_no (l : List Ev) (k : Nat) (hk : ¬ k < l.length) (d g c : Nat) (w : World) (h : DkI w d l) (hn : w.cell? ⟨g, 0, none⟩ = some (.int .i64 k)) :
    Calls Tryz.prog 20 #[.pointer (some ⟨d, 0, none⟩), .slice (some ⟨g, 0, none⟩) 1 c] w fun r w' => r = .panicked (thrown 1) ∧ Below w.heap.size w w' := by
  obtain ⟨hp, a, cc, hD, hS, _⟩ := h
  have c0 : w.cell? ⟨d, 0, none⟩ = some (.slice a l.length cc) := hD.cell rfl
  have hgl := World.block_lt_of_cell? w _ hn
  have hlen := stampL_length l l.length
  go_enter Tryz.func20, Tryz.ntmps20
  go_wp2_with fail
  refine (stamps_ok l a cc w hS hp).mono ?_
  rintro r w1 ⟨v, rfl, hown, hb⟩
  obtain ⟨a2, c2, hv, hC, hc2⟩ := ckS_own hown
  rw [hlen] at hv hc2
  subst hv
  have hn1 := (hb.cell hgl).trans hn
  have k2 : ((k : Int) ≥ l.length) := by omega
  have k3 : decide (l.length ≤ k) = true := decide_eq_true (by omega)
  clear hown hC
  go_wp2_with fail
  refine (must_ok _).mono ?_
  rintro r w2 ⟨rfl, rfl⟩
  go_wp2_with fail
  refine (must_no 1 rfl _).mono ?_
  rintro r w2 ⟨rfl, rfl⟩
  exact ⟨rfl, rfl, hb⟩
/-- What Leads is told as. -/
def ynB : Bool → ByteArray
  | true => ⟨#[121, 101, 115]⟩
  | false => ⟨#[110, 111]⟩
set_option maxRecDepth 100000 in
set_option maxHeartbeats 2000000 in
theorem dk_leads (l : List Ev) (i j : Nat) (hi : i < l.length) (hj : j < l.length) (d g c : Nat) (w : World) (h : DkI w d l) (h0 : w.cell? ⟨g, 0, none⟩ = some (.int .i64 i)) (h1 : w.cell? ⟨g, 1, none⟩ = some (.int .i64 j)) :
    Calls Tryz.prog 19 #[.pointer (some ⟨d, 0, none⟩), .slice (some ⟨g, 0, none⟩) 2 c] w fun r w' => r = .returned (.string (ynB (R l j i))) ∧ Below w.heap.size w w' := by
  obtain ⟨hp, a, cc, hD, hS, _⟩ := h
  have hgl := World.block_lt_of_cell? w _ h0
  have F0 : ∀ w4, Below w.heap.size w w4 → w4.cell? ⟨d, 0, none⟩ = some (.slice a l.length cc) := fun w4 h4 => (hD.below h4 hD.lt).cell rfl
  have F1 : ∀ w4, Below w.heap.size w w4 → w4.cell? ⟨g, 0, none⟩ = some (.int .i64 i) := fun w4 h4 => (h4.cell hgl).trans h0
  have F2 : ∀ w4, Below w.heap.size w w4 → w4.cell? ⟨g, 1, none⟩ = some (.int .i64 j) := fun w4 h4 => (h4.cell (p := ⟨g, 1, none⟩) hgl).trans h1
  have hL := fun w4 (h4 : Below w.heap.size w w4) => leads_ok l i j a cc w4 (hS.below h4) hp hi hj
  go_enter Tryz.func19, Tryz.ntmps19
  go_upto_region 1 with fail
  refine wp_region_fac 15 (fun _ => false) [.one ?a0, .one ?a1, .one ?a2, .one ?a3, .one ?a4, .one ?a5, .one ?a6, .one ?a7, .one ?a8, .one ?a9, .one ?a10, .one ?a11, .one ?a12, .one ?a13, .one ?a14] (by kernel_rfl) (by kernel_rfl) (by kernel_rfl) (by intro F hF; simp at hF) ?goa
  case goa =>
  simp only [List.take_succ_cons, List.take_zero, List.drop_succ_cons, List.drop_zero]
  repeat (with_reducible refine wpFac_one rfl (fun w1 hw1 hd => ?_) (fun a1 ha1 => ?_); (· have eF0 := F0 w1 hw1; have eF1 := F1 w1 hw1; have eF2 := F2 w1 hw1; go_simp; first | exact rfl | (refine ⟨atD_some ?_, Below.refl _ _⟩; simp only [List.getElem?_toArray, List.getElem?_cons_succ, List.getElem?_cons_zero]; exact rfl)); simp [Act.put] at ha1; subst ha1)
  with_reducible refine wpFac_one rfl (fun w1 hw1 hd => ?_) (fun a1 ha1 => ?_)
  · go_simp
    refine (hL w1 hw1).mono ?_
    rintro r w2 ⟨rfl, hk⟩
    refine ⟨atD_some ?_, hk⟩
    simp only [List.getElem?_toArray, List.getElem?_cons_succ, List.getElem?_cons_zero]
    exact rfl
  simp [Act.put] at ha1; subst ha1
  repeat (with_reducible refine wpFac_one rfl (fun w1 hw1 hd => ?_) (fun a1 ha1 => ?_); (· have eF0 := F0 w1 hw1; have eF1 := F1 w1 hw1; have eF2 := F2 w1 hw1; go_simp; first | exact rfl | (refine ⟨atD_some ?_, Below.refl _ _⟩; simp only [List.getElem?_toArray, List.getElem?_cons_succ, List.getElem?_cons_zero]; exact rfl)); simp [Act.put] at ha1; subst ha1)
  refine wpFac_nil ?_
  intro w4 hw4 _
  clear F0 F1 F2 hL
  obtain ⟨q, hq⟩ : ∃ q, R l j i = q := ⟨_, rfl⟩
  have HQ : Hid (ynB (R l j i) = ynB q) := Lib.hid (by rw [hq])
  rw [hq]
  clear hq
  cases q
  all_goals
    go_wp2_with fail
    refine (must_ok _).mono ?_
    rintro r w2 ⟨rfl, rfl⟩
    go_wp2
    go_ret
    exact ⟨congrArg (fun t => Ending.returned (.string t)) HQ.out.symm, hw4⟩
set_option maxRecDepth 100000 in
set_option maxHeartbeats 2000000 in
theorem dk_leads_no (l : List Ev) (i j : Nat) (hij : ¬ (i < l.length ∧ j < l.length)) (d g c : Nat) (w : World) (h : DkI w d l) (h0 : w.cell? ⟨g, 0, none⟩ = some (.int .i64 i)) (h1 : w.cell? ⟨g, 1, none⟩ = some (.int .i64 j)) :
    Calls Tryz.prog 19 #[.pointer (some ⟨d, 0, none⟩), .slice (some ⟨g, 0, none⟩) 2 c] w fun r w' => r = .panicked (thrown 1) ∧ Below w.heap.size w w' := by
  obtain ⟨hp, a, cc, hD, hS, _⟩ := h
  have hgl := World.block_lt_of_cell? w _ h0
  have F0 : ∀ w4, Below w.heap.size w w4 → w4.cell? ⟨d, 0, none⟩ = some (.slice a l.length cc) := fun w4 h4 => (hD.below h4 hD.lt).cell rfl
  have F1 : ∀ w4, Below w.heap.size w w4 → w4.cell? ⟨g, 0, none⟩ = some (.int .i64 i) := fun w4 h4 => (h4.cell hgl).trans h0
  have F2 : ∀ w4, Below w.heap.size w w4 → w4.cell? ⟨g, 1, none⟩ = some (.int .i64 j) := fun w4 h4 => (h4.cell (p := ⟨g, 1, none⟩) hgl).trans h1
  have hL := fun w4 (h4 : Below w.heap.size w w4) => leads_no l i j a cc w4 (hS.below h4) hp hij
  go_enter Tryz.func19, Tryz.ntmps19
  go_upto_region 1 with fail
  refine wp_region_fac 15 (fun _ => false) [.one ?a0, .one ?a1, .one ?a2, .one ?a3, .one ?a4, .one ?a5, .one ?a6, .one ?a7, .one ?a8, .one ?a9, .one ?a10, .one ?a11, .one ?a12, .one ?a13, .one ?a14] (by kernel_rfl) (by kernel_rfl) (by kernel_rfl) (by intro F hF; simp at hF) ?goa
  case goa =>
  simp only [List.take_succ_cons, List.take_zero, List.drop_succ_cons, List.drop_zero]
  repeat (with_reducible refine wpFac_one rfl (fun w1 hw1 hd => ?_) (fun a1 ha1 => ?_); (· have eF0 := F0 w1 hw1; have eF1 := F1 w1 hw1; have eF2 := F2 w1 hw1; go_simp; first | exact rfl | (refine ⟨atD_some ?_, Below.refl _ _⟩; simp only [List.getElem?_toArray, List.getElem?_cons_succ, List.getElem?_cons_zero]; exact rfl)); simp [Act.put] at ha1; subst ha1)
  with_reducible refine wpFac_one rfl (fun w1 hw1 hd => ?_) (fun a1 ha1 => ?_)
  · go_simp
    refine (hL w1 hw1).mono ?_
    rintro r w2 ⟨rfl, hk⟩
    refine ⟨atD_some ?_, hk⟩
    simp only [List.getElem?_toArray, List.getElem?_cons_succ, List.getElem?_cons_zero]
    exact rfl
  simp [Act.put] at ha1; subst ha1
  repeat (with_reducible refine wpFac_one rfl (fun w1 hw1 hd => ?_) (fun a1 ha1 => ?_); (· have eF0 := F0 w1 hw1; have eF1 := F1 w1 hw1; have eF2 := F2 w1 hw1; go_simp; first | exact rfl | (refine ⟨atD_some ?_, Below.refl _ _⟩; simp only [List.getElem?_toArray, List.getElem?_cons_succ, List.getElem?_cons_zero]; exact rfl)); simp [Act.put] at ha1; subst ha1)
  refine wpFac_nil ?_
  intro w4 hw4 _
  clear F0 F1 F2 hL
  go_wp2_with fail
  refine (must_no 1 rfl _).mono ?_
  rintro r w2 ⟨rfl, rfl⟩
  exact ⟨rfl, rfl, hw4⟩
set_option maxRecDepth 100000 in
set_option maxHeartbeats 2000000 in
theorem dk_drop (l : List Ev) (k : Nat) (hk : k < l.length) (hq : (played (l.eraseIdx k)).2.2 = 0) (d g c : Nat) (w : World) (h : DkI w d l) (h0 : w.cell? ⟨g, 0, none⟩ = some (.int .i64 k)) :
    Calls Tryz.prog 22 #[.pointer (some ⟨d, 0, none⟩), .slice (some ⟨g, 0, none⟩) 1 c] w fun r w' => r = .returned (.string okB) ∧ DkI w' d (l.eraseIdx k) ∧ w.grownBy w' (some d) := by
  have hI := h
  obtain ⟨hp, a, cc, hD, hS, _⟩ := h
  have hgl := World.block_lt_of_cell? w _ h0
  have F0 : ∀ w4, Below w.heap.size w w4 → w4.cell? ⟨d, 0, none⟩ = some (.slice a l.length cc) := fun w4 h4 => (hD.below h4 hD.lt).cell rfl
  have F1 : ∀ w4, Below w.heap.size w w4 → w4.cell? ⟨g, 0, none⟩ = some (.int .i64 k) := fun w4 h4 => (h4.cell hgl).trans h0
  have hL := fun w4 (h4 : Below w.heap.size w w4) => without_cap l l.length k rfl hk a cc w4 (hS.below h4) hp hq
  go_enter Tryz.func22, Tryz.ntmps22
  go_upto_region 1 with fail
  refine wp_region_fac 12 (fun _ => false) [.one ?a0, .one ?a1, .one ?a2, .one ?a3, .one ?a4, .one ?a5, .one ?a6, .rel (DropF (l.eraseIdx k)), .rel (DropF (l.eraseIdx k)), .rel (DropS (l.eraseIdx k)), .one ?a10, .rel (DropS (l.eraseIdx k))] (by kernel_rfl) (by kernel_rfl) (by kernel_rfl) ?sta ?goa
  case sta =>
    intro F hF
    simp at hF
    rcases hF with rfl | rfl
    all_goals exact fun _ _ _ h1 h2 => h1.keep h2
  case goa =>
  simp only [List.take_succ_cons, List.take_zero, List.drop_succ_cons, List.drop_zero]
  repeat (with_reducible refine wpFac_one rfl (fun w1 hw1 hd => ?_) (fun a1 ha1 => ?_); (· have eF0 := F0 w1 hw1; have eF1 := F1 w1 hw1; go_simp; first | exact rfl | (refine ⟨atD_some ?_, Below.refl _ _⟩; simp only [List.getElem?_toArray, List.getElem?_cons_succ, List.getElem?_cons_zero]; exact rfl)); simp [Act.put] at ha1; subst ha1)
  with_reducible refine wpFac_rel rfl (fun w1 hw1 hd => ?_) (fun v a1 ha1 => ?_)
  · go_simp
    refine (hL w1 hw1).mono ?_
    rintro r w2 ⟨a2, c2, rfl, hS2, hc2, hT2, hk2⟩
    exact ⟨_, atD_some (by simp), ⟨a2, c2, rfl, hS2, hc2, hT2⟩, hk2⟩
  simp [Act.put] at ha1; subst ha1
  with_reducible refine wpFac_rel rfl (fun w1 hw1 hd => ?_) (fun v8 a1 ha1 => ?_)
  · have e7 : DropF (l.eraseIdx k) v w1 := hd 7 (by kernel_rfl)
    go_simp
    exact ⟨_, atD_some (by simp), e7, Below.refl _ _⟩
  simp [Act.put] at ha1; subst ha1
  with_reducible refine wpFac_rel rfl (fun w1 hw1 hd => ?_) (fun v9 a1 ha1 => ?_)
  · obtain ⟨a2, c2, rfl, hS2, hc2, hT2⟩ : DropF (l.eraseIdx k) v8 w1 := hd 8 (by kernel_rfl)
    go_simp
    exact ⟨_, atD_some (by simp), ⟨a2, c2, rfl, hS2, hc2, hT2⟩, Below.refl _ _⟩
  simp [Act.put] at ha1; subst ha1
  with_reducible refine wpFac_one rfl (fun w1 hw1 hd => ?_) (fun a1 ha1 => ?_)
  · obtain ⟨a2, c2, rfl, hS2, hc2, _⟩ : DropF (l.eraseIdx k) v8 w1 := hd 8 (by kernel_rfl)
    go_simp
    refine ⟨atD_some ?_, Below.refl _ _⟩
    simp only [List.getElem?_toArray, List.getElem?_cons_succ, List.getElem?_cons_zero]
    exact rfl
  simp [Act.put] at ha1; subst ha1
  with_reducible refine wpFac_rel rfl (fun w1 hw1 hd => ?_) (fun vb a1 ha1 => ?_)
  · have e9 : DropS (l.eraseIdx k) v9 w1 := hd 9 (by kernel_rfl)
    go_simp
    exact ⟨_, atD_some (by simp), e9, Below.refl _ _⟩
  simp [Act.put] at ha1; subst ha1
  refine wpFac_nil ?_
  intro w4 hw4 hG
  obtain ⟨a2, c2, rfl, hS2, hc2, hT2⟩ : DropS (l.eraseIdx k) vb w4 := hG 11 (by decide) (by kernel_rfl)
  have hI4 := hI.below hw4
  have hn := hI4.set hq hS2 hc2 hT2
  have hgr := dk_grown_cell (dk_grown_below (World.grownBy.refl w (some d)) hw4) 0 (.slice a2 (l.eraseIdx k).length c2)
  have z0 := (hD.below hw4 hD.lt).free 0
  have c0 := F0 w4 hw4
  clear F0 F1 hL
  obtain ⟨m, hm⟩ : ∃ m, l.eraseIdx k = m := ⟨_, rfl⟩
  have HM := Lib.hid hm
  rw [hm] at hn hgr hS2 hc2 ⊢
  clear hm
  go_wp2_with fail
  refine (must_ok _).mono ?_
  rintro r w2 ⟨rfl, rfl⟩
  go_wp2
  go_ret
  exact ⟨rfl, by rw [HM.out]; exact hn, hgr⟩
set_option maxRecDepth 100000 in
set_option maxHeartbeats 2000000 in
theorem dk_drop_no (l : List Ev) (k : Nat) (hw : woOk l k = false) (d g c : Nat) (w : World) (h : DkI w d l) (h0 : w.cell? ⟨g, 0, none⟩ = some (.int .i64 k)) :
    Calls Tryz.prog 22 #[.pointer (some ⟨d, 0, none⟩), .slice (some ⟨g, 0, none⟩) 1 c] w fun r w' => r = .panicked (thrown (woE l k)) ∧ Below w.heap.size w w' := by
  obtain ⟨hp, a, cc, hD, hS, _⟩ := h
  have hgl := World.block_lt_of_cell? w _ h0
  have F0 : ∀ w4, Below w.heap.size w w4 → w4.cell? ⟨d, 0, none⟩ = some (.slice a l.length cc) := fun w4 h4 => (hD.below h4 hD.lt).cell rfl
  have F1 : ∀ w4, Below w.heap.size w w4 → w4.cell? ⟨g, 0, none⟩ = some (.int .i64 k) := fun w4 h4 => (h4.cell hgl).trans h0
  have hL := fun w4 (h4 : Below w.heap.size w w4) => without_err l l.length k rfl a cc w4 (hS.below h4) hw
  have he : (woE l k == 0) = false := by
    unfold woE
    rw [if_neg (by simpa using hp)]
    split <;> rfl
  generalize woE l k = e at *
  go_enter Tryz.func22, Tryz.ntmps22
  go_upto_region 1 with fail
  refine wp_region_fac 12 (fun _ => false) [.one ?a0, .one ?a1, .one ?a2, .one ?a3, .one ?a4, .one ?a5, .one ?a6, .one ?a7, .one ?a8, .one ?a9, .one ?a10, .one ?a11] (by kernel_rfl) (by kernel_rfl) (by kernel_rfl) (by intro F hF; simp at hF) ?goa
  case goa =>
  simp only [List.take_succ_cons, List.take_zero, List.drop_succ_cons, List.drop_zero]
  repeat (with_reducible refine wpFac_one rfl (fun w1 hw1 hd => ?_) (fun a1 ha1 => ?_); (· have eF0 := F0 w1 hw1; have eF1 := F1 w1 hw1; go_simp; first | exact rfl | (refine ⟨atD_some ?_, Below.refl _ _⟩; simp only [List.getElem?_toArray, List.getElem?_cons_succ, List.getElem?_cons_zero]; exact rfl)); simp [Act.put] at ha1; subst ha1)
  with_reducible refine wpFac_one rfl (fun w1 hw1 hd => ?_) (fun a1 ha1 => ?_)
  · go_simp
    refine (hL w1 hw1).mono ?_
    rintro r w2 ⟨rfl, hk⟩
    refine ⟨atD_some ?_, hk⟩
    simp only [List.getElem?_toArray, List.getElem?_cons_succ, List.getElem?_cons_zero]
    exact rfl
  simp [Act.put] at ha1; subst ha1
  repeat (with_reducible refine wpFac_one rfl (fun w1 hw1 hd => ?_) (fun a1 ha1 => ?_); (· have eF0 := F0 w1 hw1; have eF1 := F1 w1 hw1; go_simp; first | exact rfl | (refine ⟨atD_some ?_, Below.refl _ _⟩; simp only [List.getElem?_toArray, List.getElem?_cons_succ, List.getElem?_cons_zero]; exact rfl)); simp [Act.put] at ha1; subst ha1)
  refine wpFac_nil ?_
  intro w4 hw4 _
  clear F0 F1 hL
  go_wp2_with fail
  refine (must_no e he _).mono ?_
  rintro r w2 ⟨rfl, rfl⟩
  exact ⟨rfl, rfl, hw4⟩
end Go.Proofs.YtfjbnhacfficnaaGreatDoor

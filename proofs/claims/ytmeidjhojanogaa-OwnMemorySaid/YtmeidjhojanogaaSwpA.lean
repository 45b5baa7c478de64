/- Contracts: group, touches, Apart, slices.Clone of events. -/
import Derived.Test.YtmeidjhojanogaaSwp
import Derived.Test.YtmeidjhojanogaaEvs
import Derived.Deep.DeepCutAuto
namespace Go.Proofs.Ytmeidjhojanogaa
open Go.RowKit

theorem group_any (k : Int) (w : World) : Calls Try.prog 19 #[.int .i64 k] w fun r w' => r = .returned (.tuple #[.int .i64 (grp k), .bool (mildB k)]) ∧ Below w.heap.size w w' := by
  rcases (by omega : k = 1 ∨ k = 2 ∨ k = 3 ∨ k = 4 ∨ k = 5 ∨ k = 6 ∨ k = 7 ∨ k = 8 ∨ (k < 1 ∨ 8 < k)) with rfl | rfl | rfl | rfl | rfl | rfl | rfl | rfl | hk
  case inr.inr.inr.inr.inr.inr.inr.inr =>
    have hg : grp k = 0 := by unfold grp; rw [if_neg (by omega), if_neg (by omega), if_neg (by omega), if_neg (by omega)]
    have hm : mildB k = false := by
      have e1 : (k == 1) = false := by simp; omega
      have e6 : (k == 6) = false := by simp; omega
      have e7 : (k == 7) = false := by simp; omega
      simp [mildB, e1, e6, e7]
    rw [hg, hm]
    have e1 : (k == 1) = false := by simp; omega
    have e2 : (k == 2) = false := by simp; omega
    have e3 : (k == 3) = false := by simp; omega
    have e4 : (k == 4) = false := by simp; omega
    have e5 : (k == 5) = false := by simp; omega
    have e6 : (k == 6) = false := by simp; omega
    have e7 : (k == 7) = false := by simp; omega
    have e8 : (k == 8) = false := by simp; omega
    clear hg hm hk
    go_enter Try.func19, Try.ntmps19
    go_wp2
    go_ret2
    exact ⟨rfl, Below.refl _ _⟩
  all_goals
    go_enter Try.func19, Try.ntmps19
    go_wp2
    go_ret2
    exact ⟨by first | rfl | simp [grp, mildB], Below.refl _ _⟩
theorem touches_any (a b : Ev) (w : World) : Calls Try.prog 18 #[evV a, evV b] w fun r w' => r = .returned (.bool (touchB a b)) ∧ Below w.heap.size w w' := by
  obtain ⟨q1, r1⟩ : ∃ q, (a.k == 5) = q := ⟨_, rfl⟩
  obtain ⟨q2, r2⟩ : ∃ q, (a.k == 6) = q := ⟨_, rfl⟩
  obtain ⟨q3, r3⟩ : ∃ q, (a.o == b.t) = q := ⟨_, rfl⟩
  rw [show touchB a b = ((q1 || q2) && q3) by simp only [touchB, r1, r2, r3]]
  have hb := ((Below.refl w.heap.size w).alloc (Nat.le_refl _) (.cells (evC a) 26)).alloc (by simp) (.cells (evC b) 26)
  have hA := (Has.new w (evC a) 26).alloc (.cells (evC b) 26)
  have hB := (Has.new (w.alloc (.cells (evC a) 26)) (evC b) 26).at (c := w.heap.size + 1) (by simp)
  go_enter Try.func18, Try.ntmps18
  cases q1 <;> cases q2 <;> cases q3 <;>
  · go_wp2
    go_ret
    exact ⟨rfl, hb⟩
set_option maxHeartbeats 1000000 in
theorem apart_any (a b : Ev) (w : World) : Calls Try.prog 11 #[evV a, evV b] w fun r w' => r = .returned (.bool (apartB a b)) ∧ Below w.heap.size w w' := by
  have hap : apartB a b = (!(a.t == b.t || touchB a b || touchB b a) && (grp a.k == 0 || grp a.k != grp b.k || a.o != b.o || (mildB a.k && mildB b.k))) := rfl
  obtain ⟨q0, r0⟩ : ∃ q, (a.t == b.t) = q := ⟨_, rfl⟩
  have t1 := touches_any a b
  have t2 := touches_any b a
  have g1 := group_any a.k
  have g2 := group_any b.k
  generalize touchB a b = p1 at *
  generalize touchB b a = p2 at *
  generalize grp a.k = G at *
  generalize grp b.k = H at *
  generalize mildB a.k = m1 at *
  generalize mildB b.k = m2 at *
  obtain ⟨s1, z1⟩ : ∃ q, (G == 0) = q := ⟨_, rfl⟩
  obtain ⟨s2, z2⟩ : ∃ q, (G != H) = q := ⟨_, rfl⟩
  obtain ⟨s3, z3⟩ : ∃ q, (a.o != b.o) = q := ⟨_, rfl⟩
  rw [r0, z1, z2, z3] at hap
  rw [hap]
  have T1 := Lib.hid t1
  have T2 := Lib.hid t2
  have G1 := Lib.hid g1
  have G2 := Lib.hid g2
  clear hap t1 t2 g1 g2
  have hb := ((Below.refl w.heap.size w).alloc (Nat.le_refl _) (.cells (evC a) 26)).alloc (by simp) (.cells (evC b) 26)
  have hA := (Has.new w (evC a) 26).alloc (.cells (evC b) 26)
  have hB := (Has.new (w.alloc (.cells (evC a) 26)) (evC b) 26).at (c := w.heap.size + 1) (by simp)
  go_enter Try.func11, Try.ntmps11
  go_upto_region 1 with fail
  generalize (w.alloc (.cells (evC a) 26)).alloc (.cells (evC b) 26) = w1 at *
  obtain ⟨a0, a1, a2⟩ : w1.cell? ⟨w.heap.size, 0, none⟩ = some (.int .i64 a.k) ∧ w1.cell? ⟨w.heap.size, 1, none⟩ = some (.int .i64 a.t) ∧ w1.cell? ⟨w.heap.size, 2, none⟩ = some (.int .i64 a.o) := ⟨hA.cell rfl, hA.cell rfl, hA.cell rfl⟩
  obtain ⟨b0, b1, b2⟩ : w1.cell? ⟨w.heap.size + 1, 0, none⟩ = some (.int .i64 b.k) ∧ w1.cell? ⟨w.heap.size + 1, 1, none⟩ = some (.int .i64 b.t) ∧ w1.cell? ⟨w.heap.size + 1, 2, none⟩ = some (.int .i64 b.o) := ⟨hB.cell rfl, hB.cell rfl, hB.cell rfl⟩
  cases q0
  · go_wp2_with fail
    refine (T1.out _).mono ?_
    rintro r w2 ⟨rfl, hk⟩
    replace hA := hA.below hk hA.lt
    replace hB := hB.below hk hB.lt
    replace hb := hb.trans (hk.mono hb.size)
    clear hk a0 a1 a2 b0 b1 b2
    obtain ⟨a0, a1, a2⟩ : w2.cell? ⟨w.heap.size, 0, none⟩ = some (.int .i64 a.k) ∧ w2.cell? ⟨w.heap.size, 1, none⟩ = some (.int .i64 a.t) ∧ w2.cell? ⟨w.heap.size, 2, none⟩ = some (.int .i64 a.o) := ⟨hA.cell rfl, hA.cell rfl, hA.cell rfl⟩
    obtain ⟨b0, b1, b2⟩ : w2.cell? ⟨w.heap.size + 1, 0, none⟩ = some (.int .i64 b.k) ∧ w2.cell? ⟨w.heap.size + 1, 1, none⟩ = some (.int .i64 b.t) ∧ w2.cell? ⟨w.heap.size + 1, 2, none⟩ = some (.int .i64 b.o) := ⟨hB.cell rfl, hB.cell rfl, hB.cell rfl⟩
    cases p1
    · go_wp2_with fail
      refine (T2.out _).mono ?_
      rintro r w3 ⟨rfl, hk⟩
      replace hA := hA.below hk hA.lt
      replace hB := hB.below hk hB.lt
      replace hb := hb.trans (hk.mono hb.size)
      clear hk a0 a1 a2 b0 b1 b2
      cases p2
      · have a0 : w3.cell? ⟨w.heap.size, 0, none⟩ = some (.int .i64 a.k) := hA.cell rfl
        go_wp2_with fail
        refine (G1.out _).mono ?_
        rintro r w4 ⟨rfl, hk⟩
        replace hA := hA.below hk hA.lt
        replace hB := hB.below hk hB.lt
        replace hb := hb.trans (hk.mono hb.size)
        clear hk a0
        have b0 : w4.cell? ⟨w.heap.size + 1, 0, none⟩ = some (.int .i64 b.k) := hB.cell rfl
        go_wp2_with fail
        refine (G2.out _).mono ?_
        rintro r w5 ⟨rfl, hk⟩
        replace hA := hA.below hk hA.lt
        replace hB := hB.below hk hB.lt
        replace hb := hb.trans (hk.mono hb.size)
        clear hk b0
        have a2 : w5.cell? ⟨w.heap.size, 2, none⟩ = some (.int .i64 a.o) := hA.cell rfl
        have b2 : w5.cell? ⟨w.heap.size + 1, 2, none⟩ = some (.int .i64 b.o) := hB.cell rfl
        clear T1 T2 G1 G2
        cases s1 <;> cases s2 <;> cases s3 <;> cases m1 <;>
        · go_wp2
          go_ret
          exact ⟨by cases m2 <;> rfl, hb⟩
      · go_wp2
        go_ret
        exact ⟨rfl, hb⟩
    · go_wp2
      go_ret
      exact ⟨by cases p2 <;> rfl, hb⟩
  · go_wp2
    go_ret
    exact ⟨rfl, hb⟩
theorem nil_ev (b o n c : Nat) (w : World) : (binOp .eql 22 (.slice (some ⟨b, o, none⟩) n c) (.slice none 0 0)).run Try.prog w = .ok (.bool false) w := by kernel_rfl
/-- A copy. -/
def ClonePost (l : List Ev) (w : World) (r : Ending) (w' : World) : Prop := ∃ v, r = .returned v ∧ w'.ownsRow w.heap.size 26 3 v l.length (evL l) ∧ Below w.heap.size w w'
set_option maxRecDepth 100000 in
set_option maxHeartbeats 1000000 in
theorem cloneEv_any (l : List Ev) (a : Option Addr) (c : Nat) (w : World) (h : EvS w a l) (hl : l ≠ []) (h24 : l.length * 24 ≤ 140737488351232) :
    Calls Try.prog 13 #[.slice a l.length c] w (ClonePost l w) := by
  obtain ⟨i0, hi, hz0, hz1, hz2⟩ := info_parts infoE
  obtain ⟨b, o, rfl⟩ : ∃ b o, a = some ⟨b, o, none⟩ := by
    rcases h.ok with h0 | ⟨b, o, ha, _⟩
    · exact absurd h0 hl
    · exact ⟨b, o, ha⟩
  have hN := Has.new w #[] 26
  have hown := own_full (base := w.heap.size) (size := 3) (n := 0) hN (Nat.le_refl _) rfl (by decide)
  have hb := (Below.refl w.heap.size w).alloc (Nat.le_refl _) (.cells #[] 26)
  have S1 := (h.below hb).src
  have hbig := h.big
  have hnil := nil_ev b o l.length c
  go_enter Try.func13, Try.ntmps13
  go_wp2_with (at_builtin; refine app_list _ rfl (.tmp 5) (.tmp 6) 22 rfl Try.underlying22 hi hz0 hz1 hz2 rfl (by decide) rfl hown rfl S1 (evL_one _) ?c3 ?c4 ?c5 ?_)
  case c3 => unfold maxLen; omega
  case c4 => omega
  intro v w2 hAp
  have hb2 := hAp.below hown hb (by simp)
  go_wp2
  go_ret
  refine ⟨_, rfl, ?_, hb2⟩
  have := hAp.own
  simpa using this
end Go.Proofs.Ytmeidjhojanogaa

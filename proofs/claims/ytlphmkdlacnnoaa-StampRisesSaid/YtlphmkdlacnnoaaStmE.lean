/- The closed fact 'stamped'; slices of clocks as the laws read them. -/
import Derived.Test.YtlphmkdlacnnoaaStmD
import Derived.Deep.RegionLaw
import Derived.Deep.RegionHeld3
namespace Go.Proofs.Ytlphmkdlacnnoaa
open Go.RowKit

theorem CkS.six {w : World} {a : Option Addr} {L : List (Nat → Int)} (h : CkS w a L) {i : Nat} (hi : i < L.length) : ∃ b, a = some ⟨b, 0, none⟩ ∧
    w.cell? ⟨b, i * 6, none⟩ = some (.int .i64 (L[i] 0)) ∧ w.cell? ⟨b, i * 6 + 1, none⟩ = some (.int .i64 (L[i] 1)) ∧ w.cell? ⟨b, i * 6 + 2, none⟩ = some (.int .i64 (L[i] 2)) ∧
    w.cell? ⟨b, i * 6 + 3, none⟩ = some (.int .i64 (L[i] 3)) ∧ w.cell? ⟨b, i * 6 + 4, none⟩ = some (.int .i64 (L[i] 4)) ∧ w.cell? ⟨b, i * 6 + 5, none⟩ = some (.int .i64 (L[i] 5)) ∧
    ∀ j, j < 6 → w.cell? ⟨b, i * 6 + j, none⟩ = some (.int .i64 (L[i] j)) := by
  rcases h.ok with h0 | ⟨b, ha, hc⟩
  · simp [h0] at hi
  · exact ⟨b, ha, hc i hi 0 (by omega), hc i hi 1 (by omega), hc i hi 2 (by omega), hc i hi 3 (by omega), hc i hi 4 (by omega), hc i hi 5 (by omega), hc i hi⟩
/-- Six cells from place o on. -/
abbrev SixAt (w : World) (b o : Nat) (f : Nat → Int) : Prop :=
  w.cell? ⟨b, o, none⟩ = some (.int .i64 (f 0)) ∧ w.cell? ⟨b, o + 1, none⟩ = some (.int .i64 (f 1)) ∧ w.cell? ⟨b, o + 2, none⟩ = some (.int .i64 (f 2)) ∧
    w.cell? ⟨b, o + 3, none⟩ = some (.int .i64 (f 3)) ∧ w.cell? ⟨b, o + 4, none⟩ = some (.int .i64 (f 4)) ∧ w.cell? ⟨b, o + 5, none⟩ = some (.int .i64 (f 5))
theorem stampL_get (l : List Ev) {n i : Nat} (_ : i < n) (h : i < (stampL l n).length) : (stampL l n)[i] = stampOf l i := by simp [stampL]
/-- The clocks of a trace, by their places. -/
theorem CkS.stamp {w : World} {a : Option Addr} {l : List Ev} {n : Nat} (h : CkS w a (stampL l n)) {i : Nat} (hi : i < n) : ∃ b, a = some ⟨b, 0, none⟩ ∧
    w.cell? ⟨b, i * 6, none⟩ = some (.int .i64 (stampOf l i 0)) ∧ w.cell? ⟨b, i * 6 + 1, none⟩ = some (.int .i64 (stampOf l i 1)) ∧ w.cell? ⟨b, i * 6 + 2, none⟩ = some (.int .i64 (stampOf l i 2)) ∧
    w.cell? ⟨b, i * 6 + 3, none⟩ = some (.int .i64 (stampOf l i 3)) ∧ w.cell? ⟨b, i * 6 + 4, none⟩ = some (.int .i64 (stampOf l i 4)) ∧ w.cell? ⟨b, i * 6 + 5, none⟩ = some (.int .i64 (stampOf l i 5)) ∧
    ∀ j, j < 6 → w.cell? ⟨b, i * 6 + j, none⟩ = some (.int .i64 (stampOf l i j)) := by
  have hl : i < (stampL l n).length := by rw [stampL_length]; exact hi
  have h2 := h.six hl
  rw [stampL_get l hi hl] at h2
  exact h2

theorem CkS.sixAt {w : World} {g : Nat} {l : List Ev} {n : Nat} (h : CkS w (some ⟨g, 0, none⟩) (stampL l n)) {i : Nat} (hi : i < n) : SixAt w g (i * 6) (stampOf l i) := by
  obtain ⟨b, hb, x0, x1, x2, x3, x4, x5, _⟩ := h.stamp hi
  cases hb
  exact ⟨x0, x1, x2, x3, x4, x5⟩
theorem CkS.oneAt {w : World} {g : Nat} {l : List Ev} {n : Nat} (h : CkS w (some ⟨g, 0, none⟩) (stampL l n)) {i : Nat} (hi : i < n) {j : Nat} (hj : j < 6) : w.cell? ⟨g, i * 6 + j, none⟩ = some (.int .i64 (stampOf l i j)) := by
  obtain ⟨b, hb, x0, x1, x2, x3, x4, x5, x6⟩ := h.stamp hi
  cases hb
  exact x6 j hj
theorem CkS.some {w : World} {a : Option Addr} {l : List Ev} {n : Nat} (h : CkS w a (stampL l n)) (hn : 0 < n) : ∃ g, a = some ⟨g, 0, none⟩ := by
  obtain ⟨b, hb, _⟩ := h.stamp hn
  exact ⟨b, hb⟩
def k11 : Nat → Int | 0 => 1 | 1 => 1 | _ => 0
def k20 : Nat → Int | 0 => 2 | _ => 0
theorem stamped_any (w : World) : Calls Try.prog 21 #[] w fun r w' => r = .returned (.bool true) ∧ Below w.heap.size w w' := by
  have he1 : ∀ w, (binOp .eql 44 (.agg #[.int .i64 (stampOf twoL 2 0), .int .i64 (stampOf twoL 2 1), .int .i64 (stampOf twoL 2 2), .int .i64 (stampOf twoL 2 3), .int .i64 (stampOf twoL 2 4), .int .i64 (stampOf twoL 2 5)]) (.agg #[.int .i64 1, .int .i64 1, .int .i64 0, .int .i64 0, .int .i64 0, .int .i64 0])).run Try.prog w = .ok (.bool true) w := by
    intro w
    have := eql_clk (stampOf twoL 2) k11 w
    rw [show ceq (stampOf twoL 2) k11 = true by decide +kernel] at this
    exact this
  have he2 : ∀ w, (binOp .eql 44 (.agg #[.int .i64 (stampOf twoL 1 0), .int .i64 (stampOf twoL 1 1), .int .i64 (stampOf twoL 1 2), .int .i64 (stampOf twoL 1 3), .int .i64 (stampOf twoL 1 4), .int .i64 (stampOf twoL 1 5)]) (.agg #[.int .i64 2, .int .i64 0, .int .i64 0, .int .i64 0, .int .i64 0, .int .i64 0])).run Try.prog w = .ok (.bool true) w := by
    intro w
    have := eql_clk (stampOf twoL 1) k20 w
    rw [show ceq (stampOf twoL 1) k20 = true by decide +kernel] at this
    exact this
  go_enter Try.func21, Try.ntmps21
  go_wp2_with fail
  refine (two_any _).mono ?_
  rintro r w1 ⟨rfl, h1, hb⟩
  have hS := evS_full (l := twoL) h1 rfl (by decide)
  go_wp2_with fail
  have hck := stamps_ok twoL (some ⟨w.heap.size, 0, none⟩) 3 w1 hS (by decide +kernel)
  rw [show twoL.length = 3 from rfl] at hck
  refine hck.mono ?_
  clear hck
  rintro r w2 ⟨v, rfl, hown, hk⟩
  have hb2 := hb.trans (hk.mono hb.size)
  have hex : ∃ a c, v = .slice a 3 c ∧ CkS w2 a (stampL twoL 3) := by
    obtain ⟨a, c, h1, h2, _⟩ := ckS_own hown
    exact ⟨a, c, h1, h2⟩
  obtain ⟨a, c, rfl, hC⟩ := hex
  obtain ⟨b, rfl, x0, x1, x2, x3, x4, x5, _⟩ := hC.stamp (i := 2) (by omega)
  obtain ⟨b', hbb, y0, y1, y2, y3, y4, y5, _⟩ := hC.stamp (i := 1) (by omega)
  cases hbb
  clear hk hb hown hS h1 hC
  go_wp2
  go_ret
  exact ⟨rfl, hb2⟩
end Go.Proofs.Ytlphmkdlacnnoaa

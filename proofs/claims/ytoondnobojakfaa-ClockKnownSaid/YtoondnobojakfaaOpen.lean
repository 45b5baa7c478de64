/- Arguments of a law, opened: what is known of each kind of argument. -/
import Derived.Test.YtoondnobojakfaaBase
import Derived.ProofKit
import Derived.OpenShut
import Derived.ShutString
import Derived.ChangeOld
import Derived.Lib.SmallJoins
import Derived.Deep.Slices
import Derived.Deep.Fields
import Derived.ChangeSame
namespace Go.Proofs.Ytoondnobojakfaa
open Go.ChangeShapes Go.WideShapes Go.ChangeAt Go.RowKit Go.Deep Go.Joins

/-- An int of 64 bits. -/
def I64 (n : Int) : Prop := -9223372036854775808 ≤ n ∧ n ≤ 9223372036854775807
theorem wf_i64 {n : Int} (h : (Lit.int .i64 n).wf = true) : I64 n := by
  have := bounds_i64 h
  exact ⟨by omega, by omega⟩

section
variable {H : Type} {enc : TypeId × Value → H} {P : Program} {w : World} {base : Nat} {spare : Nat → Bool} {held : Bool} {r : Reach} {b0 : Nat}
theorem okWide_array {t e : TypeId} {n : Nat} {v : Value} (ht : P.underlying t = some (.array n e)) (h : Value.okWide P w r b0 t v) : ∃ cs, v = .agg cs ∧ cs.size = P.cellsOf t := by
  simp only [Value.okWide, ht] at h
  obtain ⟨cs, h1, h2, _⟩ := h
  exact ⟨cs, h1, h2⟩

theorem list6 {l : List Value} (h : l.length = 6) : ∃ a b c d e f, l = [a, b, c, d, e, f] := by
  match l, h with
  | [a, b, c, d, e, f], _ => exact ⟨a, b, c, d, e, f, rfl⟩

/-- A clock by value. -/
theorem open_clk {t e : TypeId} {v : Value} {d : DataW H} {p : List MemPlace} (ht : P.underlying t = some (.array 6 e)) (he : P.underlying e = some (.int .i64)) (hc : P.cellsOf e = 1) (hct : P.cellsOf t = 6)
    (hv : Value.okWide P w r b0 t v) (h : DataW.Trod enc P w base spare held t v d p) : ∃ f : Nat → Int, v = clkV f ∧ ∀ i, i < 6 → I64 (f i) := by
  obtain ⟨⟨cs⟩, rfl, hs⟩ := okWide_array ht hv
  obtain ⟨a0, a1, a2, a3, a4, a5, rfl⟩ := list6 (hs.trans hct)
  obtain ⟨fuel, hf⟩ := h
  obtain ⟨xs, m, _, _, _, hl, hx⟩ := DataW.trod_array ht hf
  rw [hc] at hx
  have get : ∀ i (hi : i < 6) (c : Value), [a0, a1, a2, a3, a4, a5][i]? = some c → ∃ n : Int, c = .int .i64 n ∧ I64 n := by
    intro i hi c hci
    have h1 := hx i hi
    have h2 : (([a0, a1, a2, a3, a4, a5].drop (i * 1)).take 1) = [c] := by
      rw [Nat.mul_one, List.drop_eq_getElem_cons (by simpa using hi)]
      have := List.getElem?_eq_some_iff.1 hci
      obtain ⟨_, e⟩ := this
      simp [e]
    rw [show Value.cells (.agg [a0, a1, a2, a3, a4, a5].toArray) = [a0, a1, a2, a3, a4, a5].toArray from rfl] at h1
    rw [h2, List.getElem?_eq_getElem (by omega)] at h1
    obtain ⟨n, hn, _, hw⟩ := DataW.trod_int he h1
    simp only [List.cons.injEq, and_true] at hn
    exact ⟨n, hn, wf_i64 hw⟩
  obtain ⟨n0, rfl, w0⟩ := get 0 (by omega) a0 rfl
  obtain ⟨n1, rfl, w1⟩ := get 1 (by omega) a1 rfl
  obtain ⟨n2, rfl, w2⟩ := get 2 (by omega) a2 rfl
  obtain ⟨n3, rfl, w3⟩ := get 3 (by omega) a3 rfl
  obtain ⟨n4, rfl, w4⟩ := get 4 (by omega) a4 rfl
  obtain ⟨n5, rfl, w5⟩ := get 5 (by omega) a5 rfl
  refine ⟨fun | 0 => n0 | 1 => n1 | 2 => n2 | 3 => n3 | 4 => n4 | _ => n5, rfl, ?_⟩
  apply idx6 <;> assumption
end
end Go.Proofs.Ytoondnobojakfaa

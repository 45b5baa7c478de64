/- What a desk's row gives of the library's variables. -/
import Derived.Test.YtfjbnhacfficnaaGreatDoorRows
import Derived.Test.YtfjbnhacfficnaaGreatDoorZU
import Derived.Test.YtfjbnhacfficnaaGreatDoorZC
import Derived.Lib.LaidTab
import Derived.Stop.LaidErr
namespace Go.Proofs.YtfjbnhacfficnaaGreatDoor
open Go.ChangeShapes Go.WideShapes Go.ChangeAt Go.RowKit Go.Lib

theorem star_err : "*" ++ "errors.errorString" = "*errors.errorString" := by decide
theorem err_row (u : TypeId) (h : Tryz.prog.typeName? 3 u = some "*errors.errorString") : u = 228 :=
  typeName_ptr_named (nm := "errors.errorString") (by rw [star_err]; kernel_rfl) (by kernel_rfl) (by decide) u (by rw [star_err]; exact h)
theorem es_named : Tryz.prog.globalNamed "strconv.ErrSyntax" = some 0 := by kernel_rfl
theorem er_named : Tryz.prog.globalNamed "strconv.ErrRange" = some 1 := by kernel_rfl
theorem ar_named : Tryz.prog.globalNamed "unicode/utf8.acceptRanges" = some 7 := by kernel_rfl
theorem dkV_of {W : World} (hSh : W.ShapedOpen Tryz.prog) (hL : laidMetH Tryz.prog Rows.deskFrontRow.laid W) : DkV W ∧ 8 ≤ W.heap.size := by
  rw [MakeChecks.laidMetH_plain _ _ _ (by kernel_rfl)] at hL
  have h0 : laidMet Tryz.prog [("math/bits.deBruijn32tab", Rows.laid_math_bits_deBruijn32tab), ("math/bits.deBruijn64tab", Rows.laid_math_bits_deBruijn64tab), ("internal/strconv.uint64pow10", Rows.laid_internal_strconv_uint64pow10), ("unicode/utf8.acceptRanges", Rows.laid_unicode_utf8_acceptRanges), ("strconv.ErrRange", Rows.laid_strconv_ErrRange), ("strconv.ErrSyntax", Rows.laid_strconv_ErrSyntax), ("unicode/utf8.first", Rows.laid_unicode_utf8_first)] W := hL
  have h2 := h0.tail.tail
  have h3 := h2.tail
  have h4 := h3.tail
  have h5 := h4.tail
  have ht : TabIs Tryz.prog W "internal/strconv.uint64pow10" .u64 pow10Tab := tabIs_of_head pow_named (by kernel_rfl) Tryz.underlying202 Tryz.underlying154 (by kernel_rfl) (by kernel_rfl) h2
  obtain ⟨a0, s0, hv0, -, -, -⟩ := laid_sentinel h4 er_named (by kernel_rfl) Tryz.underlying48 err_row Tryz.underlying228 Tryz.underlying230 rfl rfl Tryz.underlying9 (by kernel_rfl) (by kernel_rfl)
  obtain ⟨a1, s1, hv1, -, -, -⟩ := laid_sentinel h5 es_named (by kernel_rfl) Tryz.underlying48 err_row Tryz.underlying228 Tryz.underlying230 rfl rfl Tryz.underlying9 (by kernel_rfl) (by kernel_rfl)
  refine ⟨⟨maxLen_cell hSh, ⟨_, (by have h0 := World.var?_cell es_named hv1 0; simpa using h0), .inr ⟨_, _, rfl⟩⟩, ⟨_, (by have h0 := World.var?_cell er_named hv0 0; simpa using h0), .inr ⟨_, _, rfl⟩⟩, ht⟩, ?_⟩
  obtain ⟨ps, ⟨g', t', cs, fuel, p, q, hg', ht', hvar, _⟩, _⟩ := h3
  obtain rfl := Option.some.inj (ar_named.symm.trans hg')
  unfold World.var? at hvar
  rw [ar_named] at hvar
  simp only [Option.bind_some] at hvar
  rcases Nat.lt_or_ge 7 W.heap.size with h | h
  · exact h
  · rw [Array.getElem?_eq_none h] at hvar
    cases hvar
end Go.Proofs.YtfjbnhacfficnaaGreatDoor

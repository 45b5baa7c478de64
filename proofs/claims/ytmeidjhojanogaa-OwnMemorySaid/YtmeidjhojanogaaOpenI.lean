/- Arguments of a law, opened: slices of ints. -/
import Derived.Test.YtmeidjhojanogaaChecked
import Derived.Test.YtmeidjhojanogaaOpen
import Derived.Test.YtmeidjhojanogaaLst
namespace Go.Proofs.Ytmeidjhojanogaa
open Go.ChangeShapes Go.WideShapes Go.ChangeAt Go.RowKit Go.Deep Go.Joins

section
variable {H : Type} {enc : TypeId × Value → H} {P : Program} {w : World} {base : Nat} {spare : Nat → Bool} {held : Bool} {r : Reach} {b0 : Nat}
theorem open_ints0 {t e : TypeId} {v : Value} {d : DataW H} {p : List MemPlace} (ht : P.underlying t = some (.slice e)) (he : P.underlying e = some (.int .i64)) (hC : P.cellsOf e = 1)
    (hv : Value.okWide P w r b0 t v) (h : DataW.Trod enc P w base spare held t v d p) (hsz : ∀ els sp, d = .slice els sp → (els.length + sp.length) * P.bytesOf e ≤ reachBytes) :
    ∃ (a : Option Addr) (len c : Nat) (F : Nat → Int), v = .slice a len c ∧ len * P.bytesOf e ≤ reachBytes ∧ len ≤ c ∧
      (len = 0 ∨ ∃ b o, a = some ⟨b, o, none⟩ ∧ ∀ i, i < len → w.cell? ⟨b, o + i, none⟩ = some (.int .i64 (F i))) ∧ ∀ i, i < len → I64 (F i) := by
  obtain ⟨a0, len0, cap0, rfl⟩ := okWide_slice ht hv
  obtain ⟨fuel, hf⟩ := h
  rcases open_slice ht hf with ⟨hcs, _⟩ | ⟨a, len, cap, m, n, D, Pl, hcs, _, hl, _, hm, hx, hi⟩
  · simp [Value.cells] at hcs
    obtain ⟨rfl, rfl, rfl⟩ := hcs
    exact ⟨none, 0, 0, fun _ => 0, rfl, by simp, Nat.le_refl _, .inl rfl, fun i hi => absurd hi (Nat.not_lt_zero _)⟩
  simp [Value.cells] at hcs
  obtain ⟨rfl, rfl, rfl⟩ := hcs
  have hlm : len0 ≤ m := by rw [hm]; split <;> omega
  have hs1 : len0 * P.bytesOf e ≤ reachBytes := by
    simp only [Prod.mk.injEq] at hx
    have := hsz _ _ hx.1
    refine Nat.le_trans (Nat.mul_le_mul_right _ ?_) this
    simp
  have get : ∀ i, i < len0 → ∃ n : Int, w.cell? (a.add i) = some (.int .i64 n) ∧ I64 n := by
    intro i him
    obtain ⟨cs', hc, ht'⟩ := hi i (by omega)
    rw [hC] at hc
    obtain ⟨n, hn, _, hw⟩ := DataW.trod_int he ht'
    obtain ⟨_, hcl, hat⟩ := World.cells?_some hc
    have hcell := hat 0 (by omega)
    rw [hn] at hcell
    refine ⟨n, ?_, wf_i64 hw⟩
    rw [Go.Deep.add_add, Nat.mul_one, Nat.add_zero] at hcell
    exact hcell
  refine ⟨some a, len0, cap0, fun i => if h : i < len0 then Classical.choose (get i h) else 0, rfl, hs1, hl, ?_, ?_⟩
  · by_cases h0 : len0 = 0
    · exact .inl h0
    · right
      obtain ⟨n, hn, _⟩ := get 0 (by omega)
      have hspot := World.cell?_spot hn
      obtain ⟨b, o, sp⟩ := a
      have hsp : sp = none := by simpa [Addr.add] using hspot
      subst hsp
      refine ⟨b, o, rfl, fun i hi => ?_⟩
      simp only [dif_pos hi]
      rw [← add_off]
      exact (Classical.choose_spec (get i hi)).1
  · intro i hi
    simp only [dif_pos hi]
    exact (Classical.choose_spec (get i hi)).2
end
section
variable {H : Type} {enc : TypeId × Value → H} {w : World} {base : Nat} {spare : Nat → Bool} {held : Bool} {r : Reach} {b0 : Nat}
theorem ints_bytes : Try.prog.bytesOf 3 = 8 := by kernel_rfl
set_option maxRecDepth 100000 in
theorem open_ints {v : Value} {d : DataW H} {p : List MemPlace}
    (hv : Value.okWide Try.prog w r b0 49 v) (h : DataW.Trod enc Try.prog w base spare held 49 v d p) (hsz : ∀ els sp, d = .slice els sp → (els.length + sp.length) * Try.prog.bytesOf 3 ≤ reachBytes) :
    ∃ (a : Option Addr) (z : List Int) (c : Nat), v = .slice a z.length c ∧ IntS w a z ∧ z.length ≤ c ∧ z.length * 8 ≤ 140737488351232 ∧ ∀ n ∈ z, I64 n := by
  obtain ⟨a, len, c, F, rfl, hb, hlc, hok, hI⟩ := open_ints0 Try.underlying49 Try.underlying3 (by kernel_rfl) hv h hsz
  rw [ints_bytes] at hb
  have hb' : len * 8 ≤ 140737488351232 := hb
  refine ⟨a, (List.range len).map F, c, by simp, ⟨by simp; omega, ?_⟩, by simpa using hlc, by simpa using hb', ?_⟩
  · rcases hok with h0 | ⟨b, o, rfl, hc⟩
    · left; simp [h0]
    · right
      refine ⟨b, o, rfl, fun i hi => ?_⟩
      have hi' : i < len := by simpa using hi
      simp only [List.getElem_map, List.getElem_range]
      exact hc i hi'
  · intro e he
    simp only [List.mem_map, List.mem_range] at he
    obtain ⟨i, hi, rfl⟩ := he
    exact hI i hi
end
end Go.Proofs.Ytmeidjhojanogaa

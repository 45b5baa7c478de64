/- Joined texts. -/
import Derived.Test.YtoohconipcleiaaOpen
import Derived.Test.YtoohconipcleiaaMX
import Derived.Test.YtoohconipcleiaaChecked
import Derived.Test.YtoohconipcleiaaMD

/- Arguments of a law, opened: slices of events. -/
namespace Go.Proofs.Ytoohconipcleiaa
open Go.ChangeShapes Go.WideShapes Go.ChangeAt Go.RowKit Go.Deep Go.Joins

theorem frame_own : ownKnob Try.prog.godebug = none := by kernel_rfl
theorem frame_laid : laidOutB Try.prog = true := by kernel_rfl
theorem evs_bytes : Try.prog.bytesOf 36 = 24 := by kernel_rfl
section
variable {H : Type} {enc : TypeId × Value → H} {w : World} {base : Nat} {spare : Nat → Bool} {held : Bool} {r : Reach} {b0 : Nat}
set_option maxRecDepth 100000 in
theorem open_evs {v : Value} {d : DataW H} {p : List MemPlace}
    (hv : Value.okWide Try.prog w r b0 30 v) (h : DataW.Trod enc Try.prog w base spare held 30 v d p) (hsz : ∀ els sp, d = .slice els sp → (els.length + sp.length) * Try.prog.bytesOf 36 ≤ reachBytes) :
    ∃ (a : Option Addr) (z : List Ev) (c : Nat), v = .slice a z.length c ∧ EvS w a z ∧ z.length ≤ c ∧ z.length * 24 ≤ 140737488351232 ∧ ∀ e ∈ z, I64 e.k ∧ I64 e.t ∧ I64 e.o := by
  obtain ⟨a, len, c, F, rfl, hb, hlc, hok, hI⟩ := open_structs Try.underlying30 Try.underlying36 (by kernel_rfl) (by decide) (by kernel_rfl) Try.underlying3 (by
    intro j f hj
    rcases (by have := (Array.getElem?_eq_some_iff.1 hj).1; simp at this; omega : j = 0 ∨ j = 1 ∨ j = 2) with rfl | rfl | rfl <;> (simp at hj; subst hj; rfl)) hv h hsz
  rw [evs_bytes] at hb
  have hb' : len * 24 ≤ 140737488351232 := hb
  refine ⟨a, (List.range len).map fun i => ⟨F i 0, F i 1, F i 2⟩, c, by simp, ⟨by simp; omega, ?_⟩, by simpa using hlc, by simpa using hb', ?_⟩
  · rcases hok with h0 | ⟨b, o, rfl, hc⟩
    · left; simp [h0]
    · right
      refine ⟨b, o, rfl, fun i hi => ?_⟩
      have hi' : i < len := by simpa using hi
      have h0 := hc i hi' 0 (by decide)
      have h1 := hc i hi' 1 (by decide)
      have h2 := hc i hi' 2 (by decide)
      simp only [List.getElem_map, List.getElem_range]
      exact ⟨h0, by rw [Nat.add_assoc]; exact h1, by rw [Nat.add_assoc]; exact h2⟩
  · intro e he
    simp only [List.mem_map, List.mem_range] at he
    obtain ⟨i, hi, rfl⟩ := he
    exact ⟨hI i hi 0 (by decide), hI i hi 1 (by decide), hI i hi 2 (by decide)⟩
set_option maxRecDepth 100000 in
/-- An event by value. -/
theorem open_ev {v : Value} {d : DataW H} {p : List MemPlace}
    (hv : Value.okWide Try.prog w r b0 36 v) (h : DataW.Trod enc Try.prog w base spare held 36 v d p) :
    ∃ e : Ev, v = evV e ∧ I64 e.k ∧ I64 e.t ∧ I64 e.o := by
  obtain ⟨v0, v1, v2, y0, y1, y2, n, rfl, _, _, h0, h1, h2⟩ := open_agg3 Try.underlying36 (by kernel_rfl) (by kernel_rfl) hv h
  obtain ⟨k, e0, _, w0⟩ := DataW.trod_int Try.underlying3 h0
  obtain ⟨t, e1, _, w1⟩ := DataW.trod_int Try.underlying3 h1
  obtain ⟨o, e2, _, w2⟩ := DataW.trod_int Try.underlying3 h2
  simp only [List.cons.injEq, and_true] at e0 e1 e2
  subst e0 e1 e2
  exact ⟨⟨k, t, o⟩, rfl, wf_i64 w0, wf_i64 w1, wf_i64 w2⟩
end
end Go.Proofs.Ytoohconipcleiaa

/- Arguments of a law, opened: slices of ints. -/
namespace Go.Proofs.Ytoohconipcleiaa
open Go.ChangeShapes Go.WideShapes Go.ChangeAt Go.RowKit Go.Deep Go.Joins

section
variable {H : Type} {enc : TypeId × Value → H} {P : Program} {w : World} {base : Nat} {spare : Nat → Bool} {held : Bool} {r : Reach} {b0 : Nat}
theorem open_ints0 {t e : TypeId} {v : Value} {d : DataW H} {p : List MemPlace} (ht : P.underlying t = some (.slice e)) (he : P.underlying e = some (.int .i64)) (hC : P.cellsOf e = 1)
    (hv : Value.okWide P w r b0 t v) (h : DataW.Trod enc P w base spare held t v d p) (hsz : ∀ els sp, d = .slice els sp → (els.length + sp.length) * P.bytesOf e ≤ reachBytes) :
    ∃ (a : Option Addr) (len c : Nat) (F : Nat → Int), v = .slice a len c ∧ len * P.bytesOf e ≤ reachBytes ∧ len ≤ c ∧
      (len = 0 ∨ ∃ b o, a = some ⟨b, o, none⟩ ∧ ∀ i, i < len → w.cell? ⟨b, o + i, none⟩ = some (.int .i64 (F i))) ∧ ∀ i, i < len → I64 (F i) := by
  obtain ⟨a0, len0, cap0, rfl⟩ := okWide_slice ht hv
  obtain ⟨fuel, hf⟩ := h
  rcases open_slice ht hf with ⟨hcs, _⟩ | ⟨a, len, cap, m, n, D, Pl, hcs, _, hl, _, hm, hx, hi⟩
  · simp [Value.cells] at hcs
    obtain ⟨rfl, rfl, rfl⟩ := hcs
    exact ⟨none, 0, 0, fun _ => 0, rfl, by simp, Nat.le_refl _, .inl rfl, fun i hi => absurd hi (Nat.not_lt_zero _)⟩
  simp [Value.cells] at hcs
  obtain ⟨rfl, rfl, rfl⟩ := hcs
  have hlm : len0 ≤ m := by rw [hm]; split <;> omega
  have hs1 : len0 * P.bytesOf e ≤ reachBytes := by
    simp only [Prod.mk.injEq] at hx
    have := hsz _ _ hx.1
    refine Nat.le_trans (Nat.mul_le_mul_right _ ?_) this
    simp
  have get : ∀ i, i < len0 → ∃ n : Int, w.cell? (a.add i) = some (.int .i64 n) ∧ I64 n := by
    intro i him
    obtain ⟨cs', hc, ht'⟩ := hi i (by omega)
    rw [hC] at hc
    obtain ⟨n, hn, _, hw⟩ := DataW.trod_int he ht'
    obtain ⟨_, hcl, hat⟩ := World.cells?_some hc
    have hcell := hat 0 (by omega)
    rw [hn] at hcell
    refine ⟨n, ?_, wf_i64 hw⟩
    rw [Go.Deep.add_add, Nat.mul_one, Nat.add_zero] at hcell
    exact hcell
  refine ⟨some a, len0, cap0, fun i => if h : i < len0 then Classical.choose (get i h) else 0, rfl, hs1, hl, ?_, ?_⟩
  · by_cases h0 : len0 = 0
    · exact .inl h0
    · right
      obtain ⟨n, hn, _⟩ := get 0 (by omega)
      have hspot := World.cell?_spot hn
      obtain ⟨b, o, sp⟩ := a
      have hsp : sp = none := by simpa [Addr.add] using hspot
      subst hsp
      refine ⟨b, o, rfl, fun i hi => ?_⟩
      simp only [dif_pos hi]
      rw [← add_off]
      exact (Classical.choose_spec (get i hi)).1
  · intro i hi
    simp only [dif_pos hi]
    exact (Classical.choose_spec (get i hi)).2
end
section
variable {H : Type} {enc : TypeId × Value → H} {w : World} {base : Nat} {spare : Nat → Bool} {held : Bool} {r : Reach} {b0 : Nat}
theorem ints_bytes : Try.prog.bytesOf 3 = 8 := by kernel_rfl
set_option maxRecDepth 100000 in
theorem open_ints {v : Value} {d : DataW H} {p : List MemPlace}
    (hv : Value.okWide Try.prog w r b0 23 v) (h : DataW.Trod enc Try.prog w base spare held 23 v d p) (hsz : ∀ els sp, d = .slice els sp → (els.length + sp.length) * Try.prog.bytesOf 3 ≤ reachBytes) :
    ∃ (a : Option Addr) (z : List Int) (c : Nat), v = .slice a z.length c ∧ IntS w a z ∧ z.length ≤ c ∧ z.length * 8 ≤ 140737488351232 ∧ ∀ n ∈ z, I64 n := by
  obtain ⟨a, len, c, F, rfl, hb, hlc, hok, hI⟩ := open_ints0 Try.underlying23 Try.underlying3 (by kernel_rfl) hv h hsz
  rw [ints_bytes] at hb
  have hb' : len * 8 ≤ 140737488351232 := hb
  refine ⟨a, (List.range len).map F, c, by simp, ⟨by simp; omega, ?_⟩, by simpa using hlc, by simpa using hb', ?_⟩
  · rcases hok with h0 | ⟨b, o, rfl, hc⟩
    · left; simp [h0]
    · right
      refine ⟨b, o, rfl, fun i hi => ?_⟩
      have hi' : i < len := by simpa using hi
      simp only [List.getElem_map, List.getElem_range]
      exact hc i hi'
  · intro e he
    simp only [List.mem_map, List.mem_range] at he
    obtain ⟨i, hi, rfl⟩ := he
    exact hI i hi
end
end Go.Proofs.Ytoohconipcleiaa

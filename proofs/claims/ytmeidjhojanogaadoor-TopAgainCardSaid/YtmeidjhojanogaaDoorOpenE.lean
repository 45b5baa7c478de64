/- Arguments of a law, opened: slices of events. -/
import Derived.Test.YtmeidjhojanogaaDoorOpen
import Derived.Test.YtmeidjhojanogaaDoorMX
namespace Go.Proofs.YtmeidjhojanogaaDoor
open Go.ChangeShapes Go.WideShapes Go.ChangeAt Go.RowKit Go.Deep Go.Joins

theorem frame_own : ownKnob Tryd.prog.godebug = none := by kernel_rfl
theorem frame_laid : laidOutB Tryd.prog = true := by kernel_rfl
theorem evs_bytes : Tryd.prog.bytesOf 30 = 24 := by kernel_rfl
section
variable {H : Type} {enc : TypeId × Value → H} {w : World} {base : Nat} {spare : Nat → Bool} {held : Bool} {r : Reach} {b0 : Nat}
set_option maxRecDepth 100000 in
theorem open_evs {v : Value} {d : DataW H} {p : List MemPlace}
    (hv : Value.okWide Tryd.prog w r b0 22 v) (h : DataW.Trod enc Tryd.prog w base spare held 22 v d p) (hsz : ∀ els sp, d = .slice els sp → (els.length + sp.length) * Tryd.prog.bytesOf 30 ≤ reachBytes) :
    ∃ (a : Option Addr) (z : List Ev) (c : Nat), v = .slice a z.length c ∧ EvS w a z ∧ z.length ≤ c ∧ z.length * 24 ≤ 140737488351232 ∧ ∀ e ∈ z, I64 e.k ∧ I64 e.t ∧ I64 e.o := by
  obtain ⟨a, len, c, F, rfl, hb, hlc, hok, hI⟩ := open_structs Tryd.underlying22 Tryd.underlying30 (by kernel_rfl) (by decide) (by kernel_rfl) Tryd.underlying3 (by
    intro j f hj
    rcases (by have := (Array.getElem?_eq_some_iff.1 hj).1; simp at this; omega : j = 0 ∨ j = 1 ∨ j = 2) with rfl | rfl | rfl <;> (simp at hj; subst hj; rfl)) hv h hsz
  rw [evs_bytes] at hb
  have hb' : len * 24 ≤ 140737488351232 := hb
  refine ⟨a, (List.range len).map fun i => ⟨F i 0, F i 1, F i 2⟩, c, by simp, ⟨by simp; omega, ?_⟩, by simpa using hlc, by simpa using hb', ?_⟩
  · rcases hok with h0 | ⟨b, o, rfl, hc⟩
    · left; simp [h0]
    · right
      refine ⟨b, o, rfl, fun i hi => ?_⟩
      have hi' : i < len := by simpa using hi
      have h0 := hc i hi' 0 (by decide)
      have h1 := hc i hi' 1 (by decide)
      have h2 := hc i hi' 2 (by decide)
      simp only [List.getElem_map, List.getElem_range]
      exact ⟨h0, by rw [Nat.add_assoc]; exact h1, by rw [Nat.add_assoc]; exact h2⟩
  · intro e he
    simp only [List.mem_map, List.mem_range] at he
    obtain ⟨i, hi, rfl⟩ := he
    exact ⟨hI i hi 0 (by decide), hI i hi 1 (by decide), hI i hi 2 (by decide)⟩
set_option maxRecDepth 100000 in
/-- An event by value. -/
theorem open_ev {v : Value} {d : DataW H} {p : List MemPlace}
    (hv : Value.okWide Tryd.prog w r b0 30 v) (h : DataW.Trod enc Tryd.prog w base spare held 30 v d p) :
    ∃ e : Ev, v = evV e ∧ I64 e.k ∧ I64 e.t ∧ I64 e.o := by
  obtain ⟨v0, v1, v2, y0, y1, y2, n, rfl, _, _, h0, h1, h2⟩ := open_agg3 Tryd.underlying30 (by kernel_rfl) (by kernel_rfl) hv h
  obtain ⟨k, e0, _, w0⟩ := DataW.trod_int Tryd.underlying3 h0
  obtain ⟨t, e1, _, w1⟩ := DataW.trod_int Tryd.underlying3 h1
  obtain ⟨o, e2, _, w2⟩ := DataW.trod_int Tryd.underlying3 h2
  simp only [List.cons.injEq, and_true] at e0 e1 e2
  subst e0 e1 e2
  exact ⟨⟨k, t, o⟩, rfl, wf_i64 w0, wf_i64 w1, wf_i64 w2⟩
end
end Go.Proofs.YtmeidjhojanogaaDoor

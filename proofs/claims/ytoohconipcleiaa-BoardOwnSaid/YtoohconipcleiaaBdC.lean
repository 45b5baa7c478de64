/- A board in memory: what it holds; Tell and Trace at it; copies of events. -/
import Derived.Test.YtoohconipcleiaaBdB
import Derived.Test.YtoohconipcleiaaEqE
namespace Go.Proofs.Ytoohconipcleiaa
open Go.RowKit

/-- A board that holds the events L. -/
structure BdI (w : World) (b : Nat) (L : List Ev) : Prop where
  may : (played L).2.2 = 0
  bd : ∃ a c, Has w b (bdC 0 (.slice a L.length c)) bdT ∧ EvS w a L ∧ (∀ y : Addr, a = some y → y.block ≠ b) ∧ L.length ≤ c
theorem BdI.lt {w : World} {b : Nat} {L : List Ev} (h : BdI w b L) : b < w.heap.size := by
  obtain ⟨a, c, h1, _⟩ := h.bd
  exact h1.lt
theorem BdI.below {w w' : World} {b : Nat} {L : List Ev} (h : BdI w b L) (k : Below w.heap.size w w') : BdI w' b L := by
  obtain ⟨a, c, h1, h2, h3, h4⟩ := h.bd
  exact ⟨h.may, a, c, h1.below k h1.lt, h2.below k, h3, h4⟩
theorem BdI.small {w : World} {b : Nat} {L : List Ev} (h : BdI w b L) : L.length ≤ 80 := (played_evs h.may).1
/-- What a board holds behind a Tell. -/
def tellL (L : List Ev) (x : Ev) : List Ev := if (played (L ++ [x])).2.2 = 0 then L ++ [x] else L
def tellE (L : List Ev) (x : Ev) : Value := .tuple #[.int .i64 (if (played (L ++ [x])).2.2 = 0 then (L.length : Int) else 0), .int .i64 (played (L ++ [x])).2.2]
theorem tellI_any (L : List Ev) (x : Ev) (b : Nat) (w : World) (h : BdI w b L) :
    Calls Try.prog 39 #[.pointer (some ⟨b, 0, none⟩), evV x] w fun r w' => r = .returned (tellE L x) ∧ BdI w' b (tellL L x) ∧ w.grownBy w' (some b) := by
  obtain ⟨a, c, h1, h2, h3, h4⟩ := h.bd
  have h80 := h.small
  refine (bdTell_any L x a c b w h1 h2 h3 (by omega) h4).mono ?_
  rintro r w' ⟨hg, ⟨he, rfl, a', c', g1, g2, g3, g4⟩ | ⟨he, rfl, g1⟩⟩
  · refine ⟨?_, ?_, hg⟩
    · unfold tellE; rw [if_pos he, he]
    · unfold tellL; rw [if_pos he]
      exact ⟨he, a', c', by rw [List.length_append]; exact g1, g2, g3, by rw [List.length_append]; exact g4⟩
  · refine ⟨?_, ?_, hg⟩
    · unfold tellE; rw [if_neg he]
    · unfold tellL; rw [if_neg he]
      refine ⟨h.may, a, c, g1, ?_, h3, h4⟩
      refine ⟨h2.big, ?_⟩
      rcases h2.ok with h0 | ⟨g, o, ha, hc⟩
      · exact .inl h0
      · refine .inr ⟨g, o, ha, fun i hi => ?_⟩
        obtain ⟨d0, d1, d2⟩ := hc i hi
        have hb := hg.block g (World.block_lt_of_cell? w _ d0) (fun e => h3 _ ha (Option.some.inj e))
        exact ⟨(World.cell?_of_block hb).trans d0, (World.cell?_of_block hb).trans d1, (World.cell?_of_block hb).trans d2⟩
theorem traceI_any (L : List Ev) (b : Nat) (w : World) (h : BdI w b L) :
    Calls Try.prog 40 #[.pointer (some ⟨b, 0, none⟩)] w fun r w' => ∃ v, r = .returned v ∧ w'.ownsRow w.heap.size 36 3 v L.length (evL L) ∧ BdI w' b L ∧ Below w.heap.size w w' := by
  obtain ⟨a, c, h1, h2, h3, h4⟩ := h.bd
  have h80 := h.small
  refine (bdTrace_any L a c b w h1 h2 h3 (by omega)).mono ?_
  rintro r w' ⟨v, rfl, ho, _, hk⟩
  exact ⟨v, rfl, ho, h.below hk, hk⟩
theorem copyEv_all (l : List Ev) (a : Option Addr) (c : Nat) (w : World) (h : EvS w a l) (h24 : l.length * 24 ≤ 140737488351232) :
    Calls Try.prog 41 #[.slice a l.length c] w (ClonePost l w) := by
  obtain ⟨i0, hi, hz0, hz1, hz2⟩ := info_parts infoE
  have S1 := h.src
  have hbig := h.big
  have hO := World.ownsRow_nil w w.heap.size 36 3
  go_enter Try.func41, Try.ntmps41
  go_wp2_with (at_builtin; refine app_list _ rfl _ _ 30 rfl Try.underlying30 hi hz0 hz1 hz2 rfl (by decide) rfl hO rfl S1 (evL_one _) ?c3 ?c4 (Nat.le_refl _) ?_)
  case c3 => unfold maxLen; omega
  case c4 => omega
  intro v w2 hAp
  have hb2 := hAp.below hO (Below.refl _ _) (Nat.le_refl _)
  go_wp2
  go_ret
  refine ⟨_, rfl, ?_, hb2⟩
  have := hAp.own
  simpa using this
theorem played_one : (played [⟨2, 0, 0⟩]).2.2 = 0 := by decide
end Go.Proofs.Ytoohconipcleiaa

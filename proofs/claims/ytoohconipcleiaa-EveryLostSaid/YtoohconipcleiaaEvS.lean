/- slices.SortFunc at ends: what lies there is put in another order. -/
import Derived.Test.YtoohconipcleiaaEvO
import Derived.Test.YtoohconipcleiaaShf
import Derived.Shelf.Abstract
namespace Go.Proofs.Ytoohconipcleiaa
open Go.RowKit Go.Shelf

def encE (e : EnD) : List Value := (enE e).toList
theorem encE_len (e : EnD) : (encE e).length = 20 := by rw [encE, Array.length_toList, enE_size]
theorem encE_one (e : EnD) : ∀ v ∈ encE e, v.oneCell' = true := fun u hu => (Array.all_eq_true_iff_forall_mem.1 (enE_one e)) u (by simpa [encE] using hu)
theorem swo_order : Go.Sort.SWO (Go.Proofs.ltOf orderP) where
  irrefl x := by
    unfold Go.Proofs.ltOf
    rw [orderP_key, cmpL_self]
    rfl
  trans x y z h1 h2 := by
    unfold Go.Proofs.ltOf at *
    rw [orderP_key, decide_eq_true_iff] at *
    exact cmpL_trans _ _ _ h1 h2
  ntrans x y z h1 h2 := by
    unfold Go.Proofs.ltOf at *
    rw [orderP_key, decide_eq_false_iff_not] at *
    exact cmpL_ntrans _ _ _ h1 h2
theorem cmpLays_order (blk off size : Nat) (w : World) : Go.Proofs.CmpLays Try.prog 59 #[] encE 20 orderP blk off size w :=
  fun _ _ _ _ x y => order_any x y _
theorem flat_get (out : List EnD) (j : Nat) (hj : j < out.length * 20) : some ((Go.Sort.flatK encE 20 out.toArray)[j]!) = (enL out)[j]? := by
  have hi : j / 20 < out.length := by omega
  have h20 : j % 20 < 20 := Nat.mod_lt _ (by decide)
  rw [Go.Sort.get_flatK encE 20 out.toArray j (by simpa using hj)]
  have e1 := enL_get out (j / 20) hi (j % 20) h20
  rw [show j / 20 * 20 + j % 20 = j by omega] at e1
  rw [e1]
  have e2 : out.toArray[j / 20]! = out[j / 20] := by simp [hi]
  rw [e2]
  unfold encE
  have hl : j % 20 < (enE out[j / 20]).toList.length := by rw [Array.length_toList, enE_size]; exact h20
  rw [List.getElem?_eq_getElem hl, List.getElem!_eq_getElem?_getD, List.getElem?_eq_getElem hl]
  rfl
theorem sort_keeps {w w' : World} {g n : Nat} {d : Array EnD} {os : Array Obj} (e : w' = Go.Proofs.sortWorldK encE 20 w g 0 n d os) : Kept (fun k => k = g) w w' := by
  subst e
  refine ⟨rfl, rfl, rfl, ?_, fun k hk hn => ?_⟩
  · simp [Go.Proofs.sortWorldK, Go.Sort.grow, Go.Sort.putRowK, Go.Sort.putRow, Go.Sort.mapBlock, Go.Sort.ahead]
  · simp only [Go.Proofs.sortWorldK, Go.Sort.grow, Go.Sort.putRowK, Go.Sort.putRow, Go.Sort.mapBlock, Go.Sort.ahead]
    rw [Array.getElem?_append_left (by simpa using hk), Array.getElem?_modify, if_neg (fun e => hn e.symm)]
set_option maxHeartbeats 1000000 in
theorem sortE_any (out : List EnD) (g cap : Nat) (cur : Array Value) (w : World) (hh : w.heap[g]? = some (.cells cur endT (0, 0))) (hcur : cur.toList.take (out.length * 20) = enL out) (hb : out.length < 4611686018427387904) :
    Calls Try.prog 58 #[.slice (some ⟨g, 0, none⟩) out.length cap, .func (.func 59) #[] #[]] w
      fun r w' => r = .returned (.tuple #[]) ∧ ∃ out' : List EnD, out'.Perm out ∧ EnS w' (some ⟨g, 0, none⟩) out' ∧ Kept (fun k => k = g) w w' := by
  have hg : g < w.heap.size := (Array.getElem?_eq_some_iff.1 hh).1
  have hH : Go.Sort.HoldsK encE 20 w g 0 out.toArray := fun j hj => by
    have hj' : j < out.length * 20 := by simpa using hj
    refine ⟨?_, ?_⟩
    · have e1 := flat_get out j hj'
      rw [← hcur, List.getElem?_take, if_pos hj'] at e1
      show w.cell? ⟨g, 0 + j, none⟩ = some _
      rw [Nat.zero_add]
      simp only [World.cell?, hh, id]
      rw [e1]
      simp
    · simp [World.frozen?, hh]
  have hcon := Go.Proofs.AnyQ.slices_SortFunc l_sortE 20 Try.isAgg29 Try.sizeOf29 encE encE_len encE_one orderP swo_order 59 #[] g 0 cap out.toArray w (enters_of Try.func59 (by kernel_rfl) rfl) (cmpLays_order g 0 out.toArray.size w) hH hg (by simpa using hb)
  change Calls Try.prog 58 _ _ _ at hcon
  rw [List.size_toArray] at hcon
  refine hcon.mono ?_
  rintro r w' ⟨rfl, d', n, os, hp, _, hw⟩
  obtain ⟨hs, _, hperm⟩ := hp
  have hsz : d'.size = out.length := by simpa using hs
  have hH' : Go.Sort.HoldsK encE 20 w' g 0 d' := by
    rw [hw]
    refine Go.Sort.holdsK_grow encE 20 _ _ _ _ _ ?_ (Go.Sort.holdsK_putRowK encE 20 _ _ _ out.toArray d' (Go.Sort.holdsK_ahead encE 20 _ _ _ _ _ hH) hs)
    simp [Go.Sort.putRowK, Go.Sort.putRow, Go.Sort.mapBlock, Go.Sort.ahead]
    exact hg
  refine ⟨rfl, d'.toList, ?_, ⟨by rw [Array.length_toList, hsz]; exact hb, .inr ⟨g, 0, rfl, fun i hi j v hv => ?_⟩⟩, sort_keeps hw⟩
  · have h1 : d'.extract 0 out.length = d' := by rw [← hsz]; simp
    have h2 : out.toArray.extract 0 out.length = out.toArray := by
      simp
    rw [h1, h2] at hperm
    simpa using hperm
  · have hj : j < 20 := by
      have := (List.getElem?_eq_some_iff.1 hv).1
      rwa [Array.length_toList, enE_size] at this
    have hi' : i < out.length := by rw [Array.length_toList, hsz] at hi; exact hi
    have h1 := (hH' (i * 20 + j) (by simp; omega)).1
    have e1 := flat_get d'.toList (i * 20 + j) (by rw [Array.length_toList, hsz]; omega)
    rw [Array.toArray_toList, enL_get d'.toList i hi j hj, hv] at e1
    show w'.cell? ⟨g, 0 + i * 20 + j, none⟩ = some v
    rw [show 0 + i * 20 + j = 0 + (i * 20 + j) by omega, h1, ← e1]
    rfl
end Go.Proofs.Ytoohconipcleiaa

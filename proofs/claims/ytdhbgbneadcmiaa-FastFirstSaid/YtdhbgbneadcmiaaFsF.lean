/- Contract of the fast detector's Access. -/
import Derived.Test.YtdhbgbneadcmiaaFsC
import Derived.Test.YtdhbgbneadcmiaaFsD
import Derived.Test.YtdhbgbneadcmiaaFsE
namespace Go.Proofs.Ytdhbgbneadcmiaa
open Go.RowKit

/-- What a cell's numbers keep to. -/
structure FcOk (x : Fc) (m : Int) : Prop where
  wt : x.wt < 6
  rt : x.rt < 6
  slow : 0 ≤ x.slow ∧ x.slow ≤ m
theorem reads_any (x : Fc) (t : Nat) (c : Nat → Int) (b : Nat) (w : World) (h : Has w b (fcC x) 117) (hx : FcOk x 1000) (ht : t < 6) :
    Calls Try.prog 75 #[.pointer (some ⟨b, 0, none⟩), epV t (c t), clkV c] w fun r w' => r = .returned (.int .i64 (x.read t c).2) ∧ CTook w w' b (x.read t c).1 := by
  cases hm : x.many
  · by_cases hs : x.rt = t ∧ x.rn = c t
    · have he : x.read t c = (x, 0) := by rw [Fc.read, if_pos ⟨hm, hs⟩]
      rw [he]
      exact reads_same x t (c t) c b w h hm hs
    · have he : x.read t c = (if decide (x.rn ≤ c x.rt) then { x with rt := t, rn := c t } else { x with many := true, rc := setC (setC (fun _ => 0) x.rt x.rn) t (c t), slow := x.slow + 1 }, if x.seen c then 0 else 2) := by
        rw [Fc.read, if_neg (fun hh => hs hh.2), hm]; rfl
      rw [he]
      cases hq : decide (x.rn ≤ c x.rt)
      · exact reads_slow x t c b w h hm hx.rt hs hq hx.slow hx.wt ht
      · exact reads_one x t c b w h hm hx.rt hs hq hx.wt ht
  · have he : x.read t c = ({ x with rc := setC x.rc t (c t) }, if x.seen c then 0 else 2) := by
      rw [Fc.read, if_neg (fun hh => by rw [hm] at hh; cases hh.1), if_pos hm]
    rw [he]
    exact reads_many x t c b w h hm hx.wt ht
theorem writes_any (x : Fc) (t : Nat) (c : Nat → Int) (b : Nat) (w : World) (h : Has w b (fcC x) 117) (hx : FcOk x 1000) :
    Calls Try.prog 76 #[.pointer (some ⟨b, 0, none⟩), epV t (c t), clkV c] w fun r w' => r = .returned (.int .i64 (x.write t c).2) ∧ CTook w w' b (x.write t c).1 := by
  by_cases hs : x.wt = t ∧ x.wn = c t
  · have he : x.write t c = (x, 0) := by rw [Fc.write, if_pos hs]
    rw [he]
    exact writes_same x t (c t) c b w h hs
  · cases hm : x.many
    · have he : x.write t c = ({ x with wt := t, wn := c t }, if x.seen c then (if x.known c then 0 else 3) else 1) := by
        rw [Fc.write, if_neg hs, if_neg (by rw [hm]; decide)]
      rw [he]
      exact writes_one x t c b w h hm hx.rt hx.wt hs
    · have he : x.write t c = ({ x with wt := t, wn := c t, many := false, rt := 0, rn := 0 }, if x.seen c then (if x.known c then 0 else 3) else 1) := by
        rw [Fc.write, if_neg hs, if_pos hm]
      rw [he]
      exact writes_many x t c b w h hm hx.wt hs

set_option maxRecDepth 100000 in
set_option maxHeartbeats 2000000 in
theorem faccess_any (x : Fc) (K : Int) (hK : K = 1 ∨ K = 2) (t o : Nat) (c : Nat → Int) (b : Nat) (w : World) (h : Has w b (fcC x) 117) (hx : FcOk x 1000) (ht : t < 6) :
    Calls Try.prog 62 #[.pointer (some ⟨b, 0, none⟩), evV ⟨K, t, o⟩, clkV c] w fun r w' => r = .returned (.int .i64 (x.acc ⟨K, t, o⟩ c).2) ∧ CTook w w' b (x.acc ⟨K, t, o⟩ c).1 := by
  have hb : Below w.heap.size w ((w.alloc (.cells (evC ⟨K, t, o⟩) 40)).alloc (.cells (clkC c) 73)) := ((Below.refl _ _).alloc (by simp) _).alloc (by simp) _
  have h1 := (h.alloc (.cells (evC ⟨K, t, o⟩) 40)).alloc (.cells (clkC c) 73)
  have hN := (Has.new w (evC ⟨K, t, o⟩) 40).alloc (.cells (clkC c) 73)
  have hc := (Has.new (w.alloc (.cells (evC ⟨K, t, o⟩) 40)) (clkC c) 73).at (c := w.heap.size + 1) (by simp)
  go_enter Try.func62, Try.ntmps62
  go_wp2_with fail
  generalize (w.alloc (.cells (evC ⟨K, t, o⟩) 40)).alloc (.cells (clkC c) 73) = w1 at *
  refine (of_ok c t _ ht).mono ?_
  rintro r w2 ⟨rfl, hk⟩
  replace h1 := h1.below hk h1.lt
  replace hN := hN.below hk hN.lt
  replace hc := hc.below hk hc.lt
  replace hb := hb.trans (hk.mono hb.size)
  clear hk
  have e0 : w2.cell? ⟨w.heap.size, 0, none⟩ = some (.int .i64 K) := hN.cell rfl
  obtain ⟨c0, c1, c2, c3, c4, c5⟩ := hc.clk
  have hNl := hN.lt
  have hcl := hc.lt
  have h3 := h1.alloc (.cells (epC t (c t)) 113)
  have hb3 := hb.alloc hb.size (.cells (epC t (c t)) 113)
  rcases hK with rfl | rfl
  · have he : x.acc ⟨1, t, o⟩ c = x.read t c := by simp [Fc.acc]
    have HE := Lib.hid he
    clear he
    go_wp2_with fail
    refine (reads_any x t c b _ h3 hx ht).mono ?_
    rintro r w4 ⟨rfl, ht4⟩
    go_wp2
    go_ret
    rw [HE.out]
    exact ⟨rfl, ⟨ht4.has, (grown_of hb3).trans ht4.grown⟩⟩
  · have he : x.acc ⟨2, t, o⟩ c = x.write t c := by simp [Fc.acc]
    have HE := Lib.hid he
    clear he
    go_wp2_with fail
    refine (writes_any x t c b _ h3 hx).mono ?_
    rintro r w4 ⟨rfl, ht4⟩
    go_wp2
    go_ret
    rw [HE.out]
    exact ⟨rfl, ⟨ht4.has, (grown_of hb3).trans ht4.grown⟩⟩
end Go.Proofs.Ytdhbgbneadcmiaa

/- Several swaps: the trace that they leave; contract of swaps. -/
import Derived.Test.YtdgkedpggmkclaaSwpB
import Derived.Test.YtdgkedpggmkclaaRest
namespace Go.Proofs.Ytdgkedpggmkclaa
open Go.RowKit

/-- One swap, as far as it can be. -/
def swpR (n : Int) (m : Nat) : Int := n % max 1 ((m : Int) - 1)
def swpS (l : List Ev) (n : Int) : List Ev := if swOk l (swpR n l.length) then sw l (swpR n l.length).toNat else l
def swpL (l : List Ev) (at_ : List Int) : List Ev := at_.foldl swpS l
/-- What a swap leaves as it was. -/
structure SwSame (l m : List Ev) : Prop where
  len : m.length = l.length
  ok : (played m).2.2 = 0
  st : (played m).1 = (played l).1
  fl : ∀ t : Int, m.filter (fun e => decide (e.t = t)) = l.filter fun e => decide (e.t = t)
theorem SwSame.refl {l : List Ev} (h : (played l).2.2 = 0) : SwSame l l := ⟨rfl, h, rfl, fun _ => rfl⟩
theorem SwSame.trans {l m n : List Ev} (h : SwSame l m) (k : SwSame m n) : SwSame l n := ⟨k.len.trans h.len, k.ok, k.st.trans h.st, fun t => (k.fl t).trans (h.fl t)⟩
theorem swpS_same {l : List Ev} (h : (played l).2.2 = 0) (n : Int) : SwSame l (swpS l n) := by
  unfold swpS
  by_cases hs : swOk l (swpR n l.length) = true
  · rw [if_pos hs]
    obtain ⟨k, hk, e, hp, hA⟩ := swOk_at hs
    rw [e, Int.toNat_natCast]
    obtain ⟨h1, h2⟩ := played_sw hk hA hp
    exact ⟨sw_len l k, h1, h2, fun t => sw_thread hk hA t⟩
  · rw [if_neg hs]; exact .refl h
theorem swpL_same (at_ : List Int) : ∀ {l : List Ev}, (played l).2.2 = 0 → SwSame l (swpL l at_) := by
  induction at_ with
  | nil => intro l h; exact .refl h
  | cons n at_ ih =>
    intro l h
    have h1 := swpS_same h n
    exact h1.trans (ih h1.ok)
theorem swpL_snoc (l : List Ev) (at_ : List Int) (n : Int) : swpL l (at_ ++ [n]) = swpS (swpL l at_) n := by simp [swpL]
/-- A slice of events, given back. -/
def EvsRet (m : List Ev) (w : World) (r : Ending) (w' : World) : Prop := ∃ a c, r = .returned (.slice a m.length c) ∧ EvS w' a m ∧ Below w.heap.size w w'
theorem swap_n (l : List Ev) (n : Nat) (hn : l.length = n) (a : Option Addr) (c : Nat) (i : Int) (w : World) (h : EvS w a l) (hs : swOk l i = false) :
    Calls Try.prog 23 #[.slice a n c, .int .i64 i] w (NoSwap w) := by
  subst hn; exact swap_no l a c i w h hs
theorem swap_y (l : List Ev) (n : Nat) (hn : l.length = n) (a : Option Addr) (c : Nat) (i : Int) (w : World) (h : EvS w a l) (hs : swOk l i = true) :
    Calls Try.prog 23 #[.slice a n c, .int .i64 i] w (SwapPost (sw l i.toNat) w) := by
  subst hn
  obtain ⟨k, hk, rfl, hp, hA⟩ := swOk_at hs
  exact swap_ok l a c k w h hp hk hA
set_option maxRecDepth 100000 in
set_option maxHeartbeats 4000000 in
theorem swaps_any (z : List Ev) (l : List Int) (a a' : Option Addr) (c c' : Nat) (w : World) (h : EvS w a z) (h' : IntS w a' l) (hp : (played z).2.2 = 0) :
    Calls Try.prog 21 #[.slice a z.length c, .slice a' l.length c'] w (EvsRet (swpL z l) w) := by
  have hl80 := (played_evs hp).1
  have hbig := h'.big
  have HP := Lib.hid hp
  have hw := IntWalk.i64_in ((z.length : Int) - 1) (by omega)
  clear hp
  go_enter Try.func21, Try.ntmps21
  go_wp2
  go_loopw [0, 11] (fun v i wr => ∃ (k c2 : Nat) (a2 : Option Addr), k ≤ l.length ∧ i = .int .i64 k ∧ v = .slice a2 z.length c2 ∧ EvS wr a2 (swpL z (l.take k)) ∧ Below w.heap.size w wr) (fun _ i _ => l.length - (intOf i).toNat)
  case atStart => exact ⟨0, _, _, Nat.zero_le _, rfl, rfl, h, Below.refl _ _⟩
  case round =>
    obtain ⟨k, c2, a2, hk, rfl, rfl, hS, hb⟩ := hrel
    by_cases hlt : k < l.length
    · obtain ⟨g, o, rfl, d0⟩ := (h'.below hb).at hlt
      have hsn : swpL z (l.take (k + 1)) = swpS (swpL z (l.take k)) l[k] := by rw [List.take_add_one, List.getElem?_eq_getElem hlt, Option.toList_some, swpL_snoc]
      have hss := swpL_same (l.take k) HP.out
      obtain ⟨n, hn⟩ : ∃ n, l[k] = n := ⟨_, rfl⟩
      rw [hn] at hsn
      have HN := Lib.hid hn
      clear hn
      generalize swpL z (l.take k) = m at *
      have hlen : m.length = z.length := hss.len
      have hR : swpS m n = if swOk m (n % max 1 ((z.length : Int) - 1)) then sw m (n % max 1 ((z.length : Int) - 1)).toNat else m := by unfold swpS swpR; rw [hlen]
      rw [hR] at hsn
      obtain ⟨q, hq⟩ : ∃ q, max 1 ((z.length : Int) - 1) = q := ⟨_, rfl⟩
      have hq1 : 0 < q := by omega
      have hq2 : q ≤ 4611686018427387904 := by omega
      rw [hq] at hsn
      obtain ⟨r, hr⟩ : ∃ r, n % q = r := ⟨_, rfl⟩
      rw [hr] at hsn
      have HSN := Lib.hid hsn
      have HL := Lib.hid hlen
      have HQ := Lib.hid hq
      have HR := Lib.hid hr
      clear hsn hR hss hlen hq hr d0
      obtain ⟨g', o', hgo, d0⟩ := (h'.below hb).at hlt
      cases hgo
      have hn : l[k] = n := HN.out
      rw [hn] at d0
      clear hn
      by_cases hz : (z.length : Int) - 1 ≤ 1
      · skip
        obtain rfl : q = 1 := by have := HQ.out; omega
        go_wp2_with fail
        refine (rest_any n _ _ hq1 hq2).mono ?_
        rintro r w3 ⟨rfl, rfl⟩
        rw [HR.out]
        clear hz
        cases hs : swOk m r
        · have hx : swpL z (l.take (k + 1)) = m := by rw [HSN.out, hs]; rfl
          have HX := Lib.hid hx
          have HS := Lib.hid hs
          clear hs hx d0
          go_wp2_with fail
          refine (swap_n m z.length HL.out _ _ _ _ hS HS.out).mono ?_
          rintro r w4 ⟨e, he, rfl, hk4⟩
          go_wp2
          go_roundw
          case rel => exact ⟨k + 1, _, _, by omega, by go_num, rfl, by rw [HX.out]; exact hS.below hk4, hb.trans (hk4.mono hb.size)⟩
          case measure => (simp [intOf]; try omega)
        · have hx : swpL z (l.take (k + 1)) = sw m r.toNat := by rw [HSN.out, hs]; rfl
          have HX := Lib.hid hx
          have HS := Lib.hid hs
          clear hs hx d0
          go_wp2_with fail
          refine (swap_y m z.length HL.out _ _ _ _ hS HS.out).mono ?_
          rintro r w4 ⟨a3, c3, rfl, hM, _, hk4⟩
          go_wp2
          go_roundw
          case rel => exact ⟨k + 1, _, _, by omega, by go_num, by rw [sw_len, HL.out], by rw [HX.out]; exact hM, hb.trans (hk4.mono hb.size)⟩
          case measure => (simp [intOf]; try omega)
      · skip
        obtain rfl : q = (z.length : Int) - 1 := by have := HQ.out; omega
        go_wp2_with fail
        refine (rest_any n _ _ hq1 hq2).mono ?_
        rintro r w3 ⟨rfl, rfl⟩
        rw [HR.out]
        clear hz
        cases hs : swOk m r
        · have hx : swpL z (l.take (k + 1)) = m := by rw [HSN.out, hs]; rfl
          have HX := Lib.hid hx
          have HS := Lib.hid hs
          clear hs hx d0
          go_wp2_with fail
          refine (swap_n m z.length HL.out _ _ _ _ hS HS.out).mono ?_
          rintro r w4 ⟨e, he, rfl, hk4⟩
          go_wp2
          go_roundw
          case rel => exact ⟨k + 1, _, _, by omega, by go_num, rfl, by rw [HX.out]; exact hS.below hk4, hb.trans (hk4.mono hb.size)⟩
          case measure => (simp [intOf]; try omega)
        · have hx : swpL z (l.take (k + 1)) = sw m r.toNat := by rw [HSN.out, hs]; rfl
          have HX := Lib.hid hx
          have HS := Lib.hid hs
          clear hs hx d0
          go_wp2_with fail
          refine (swap_y m z.length HL.out _ _ _ _ hS HS.out).mono ?_
          rintro r w4 ⟨a3, c3, rfl, hM, _, hk4⟩
          go_wp2
          go_roundw
          case rel => exact ⟨k + 1, _, _, by omega, by go_num, by rw [sw_len, HL.out], by rw [HX.out]; exact hM, hb.trans (hk4.mono hb.size)⟩
          case measure => (simp [intOf]; try omega)
    · obtain rfl : k = l.length := by omega
      rw [List.take_length] at hS
      have hlen := (swpL_same l HP.out).len
      have HL := Lib.hid hlen
      clear hlen
      generalize swpL z l = m at *
      go_wp2
      go_ret
      exact ⟨_, _, by rw [HL.out]; rfl, hS, hb⟩
end Go.Proofs.Ytdgkedpggmkclaa

/- DeskFront: what follows is not seen in what was answered; each line has one answer. A tied card, where what is read is of bounded bulk. -/
import Derived.Test.YtfjbnhacfficnaaGreatDoorRows
import Derived.Test.YtfjbnhacfficnaaGreatDoorCards
import Derived.Test.YtfjbnhacfficnaaGreatDoorTie
import Derived.Test.YtfjbnhacfficnaaGreatDoorDkLs
import Derived.Test.YtfjbnhacfficnaaGreatDoorOpS
import Derived.Test.YtfjbnhacfficnaaGreatDoorDkV
import Derived.Test.YtfjbnhacfficnaaGreatDoorZC
import Derived.Test.YtfjbnhacfficnaaGreatDoorZB
import Derived.Lay
import Derived.LaidOnce
import Derived.SevenTiedAt
import Derived.ChangeVars
import Derived.HandedShaped
import Derived.Shelf.Vars
namespace Go.Proofs.YtfjbnhacfficnaaGreatDoor
open Go.ChangeShapes Go.WideShapes Go.ChangeAt Go.RowKit

def fiveL : List ByteArray := [⟨#[116, 48, 32, 102, 111, 114, 107, 32, 116, 49]⟩, ⟨#[116, 48, 32, 119, 114, 105, 116, 101, 32, 120, 48]⟩, ⟨#[116, 49, 32, 119, 114, 105, 116, 101, 32, 120, 48]⟩, ⟨#[114, 97, 99, 101, 115]⟩, ⟨#[119, 104, 97, 116]⟩]
def ansL : List ByteArray := [⟨#[111, 107]⟩, ⟨#[111, 107]⟩, ⟨#[111, 107]⟩, ⟨#[49, 45, 50]⟩, ⟨#[101, 114, 114, 111, 114, 32, 51]⟩]
set_option maxRecDepth 100000 in
theorem fv_words0 : wordsB ⟨#[116, 48, 32, 102, 111, 114, 107, 32, 116, 49]⟩ = [⟨#[116, 48]⟩, ⟨#[102, 111, 114, 107]⟩, ⟨#[116, 49]⟩] := by kernel_rfl
theorem fv_line0 : lineB ⟨5, 0, 1⟩ = ⟨#[116, 48, 32, 102, 111, 114, 107, 32, 116, 49]⟩ := by
  rw [line_X (K := 5) (T := 0) (O := 1) rfl rfl rfl (by decide) (by decide)]
  kernel_rfl
theorem fv_f0 : dkF [] ⟨#[116, 48, 32, 102, 111, 114, 107, 32, 116, 49]⟩ = (okB, [⟨5, 0, 1⟩]) := by
  have hsp : spB (wordsB ⟨#[116, 48, 32, 102, 111, 114, 107, 32, 116, 49]⟩) = lineB ⟨5, 0, 1⟩ := by
    rw [fv_words0, fv_line0]
    kernel_rfl
  have hp : (played ([] ++ [⟨5, 0, 1⟩])).2.2 = 0 := by decide +kernel
  unfold dkF dkLine
  rw [hsp, fv_words0, if_pos (by decide)]
  unfold dkTell
  rw [evOf_line (by decide)]
  simp only
  rw [if_pos hp]
  rfl
set_option maxRecDepth 100000 in
theorem fv_words1 : wordsB ⟨#[116, 48, 32, 119, 114, 105, 116, 101, 32, 120, 48]⟩ = [⟨#[116, 48]⟩, ⟨#[119, 114, 105, 116, 101]⟩, ⟨#[120, 48]⟩] := by kernel_rfl
theorem fv_line1 : lineB ⟨2, 0, 0⟩ = ⟨#[116, 48, 32, 119, 114, 105, 116, 101, 32, 120, 48]⟩ := by
  rw [line_X (K := 2) (T := 0) (O := 0) rfl rfl rfl (by decide) (by decide)]
  kernel_rfl
theorem fv_f1 : dkF [⟨5, 0, 1⟩] ⟨#[116, 48, 32, 119, 114, 105, 116, 101, 32, 120, 48]⟩ = (okB, [⟨5, 0, 1⟩, ⟨2, 0, 0⟩]) := by
  have hsp : spB (wordsB ⟨#[116, 48, 32, 119, 114, 105, 116, 101, 32, 120, 48]⟩) = lineB ⟨2, 0, 0⟩ := by
    rw [fv_words1, fv_line1]
    kernel_rfl
  have hp : (played ([⟨5, 0, 1⟩] ++ [⟨2, 0, 0⟩])).2.2 = 0 := by decide +kernel
  unfold dkF dkLine
  rw [hsp, fv_words1, if_pos (by decide)]
  unfold dkTell
  rw [evOf_line (by decide)]
  simp only
  rw [if_pos hp]
  rfl
set_option maxRecDepth 100000 in
theorem fv_words2 : wordsB ⟨#[116, 49, 32, 119, 114, 105, 116, 101, 32, 120, 48]⟩ = [⟨#[116, 49]⟩, ⟨#[119, 114, 105, 116, 101]⟩, ⟨#[120, 48]⟩] := by kernel_rfl
theorem fv_line2 : lineB ⟨2, 1, 0⟩ = ⟨#[116, 49, 32, 119, 114, 105, 116, 101, 32, 120, 48]⟩ := by
  rw [line_X (K := 2) (T := 1) (O := 0) rfl rfl rfl (by decide) (by decide)]
  kernel_rfl
theorem fv_f2 : dkF [⟨5, 0, 1⟩, ⟨2, 0, 0⟩] ⟨#[116, 49, 32, 119, 114, 105, 116, 101, 32, 120, 48]⟩ = (okB, [⟨5, 0, 1⟩, ⟨2, 0, 0⟩, ⟨2, 1, 0⟩]) := by
  have hsp : spB (wordsB ⟨#[116, 49, 32, 119, 114, 105, 116, 101, 32, 120, 48]⟩) = lineB ⟨2, 1, 0⟩ := by
    rw [fv_words2, fv_line2]
    kernel_rfl
  have hp : (played ([⟨5, 0, 1⟩, ⟨2, 0, 0⟩] ++ [⟨2, 1, 0⟩])).2.2 = 0 := by decide +kernel
  unfold dkF dkLine
  rw [hsp, fv_words2, if_pos (by decide)]
  unfold dkTell
  rw [evOf_line (by decide)]
  simp only
  rw [if_pos hp]
  rfl
set_option maxRecDepth 100000 in
theorem fv_words3 : wordsB ⟨#[114, 97, 99, 101, 115]⟩ = [⟨#[114, 97, 99, 101, 115]⟩] := by kernel_rfl
theorem fv_races : raceL [⟨5, 0, 1⟩, ⟨2, 0, 0⟩, ⟨2, 1, 0⟩] = [⟨1, 2, 0, 1⟩] := by decide +kernel
theorem fv_f3 : dkF [⟨5, 0, 1⟩, ⟨2, 0, 0⟩, ⟨2, 1, 0⟩] ⟨#[114, 97, 99, 101, 115]⟩ = (⟨#[49, 45, 50]⟩, [⟨5, 0, 1⟩, ⟨2, 0, 0⟩, ⟨2, 1, 0⟩]) := by
  unfold dkF dkLine
  rw [fv_words3, if_neg (by decide)]
  simp only [show dkPick ⟨#[114, 97, 99, 101, 115]⟩ = some 0 by decide]
  show ((toldB ((raceL [⟨5, 0, 1⟩, ⟨2, 0, 0⟩, ⟨2, 1, 0⟩]).map rcB), _) : ByteArray × List Ev) = _
  rw [fv_races, show toldB (([⟨1, 2, 0, 1⟩] : List Rc).map rcB) = ⟨#[49, 45, 50]⟩ by kernel_rfl]
set_option maxRecDepth 100000 in
theorem fv_words4 : wordsB ⟨#[119, 104, 97, 116]⟩ = [⟨#[119, 104, 97, 116]⟩] := by kernel_rfl
theorem fv_f4 (l : List Ev) : dkF l ⟨#[119, 104, 97, 116]⟩ = (⟨#[101, 114, 114, 111, 114, 32, 51]⟩, l) := by
  unfold dkF dkLine
  rw [fv_words4, if_neg (by decide)]
  simp only [show dkPick ⟨#[119, 104, 97, 116]⟩ = none by decide]
  show ((errB 3, l) : ByteArray × List Ev) = _
  rw [show errB 3 = ⟨#[101, 114, 114, 111, 114, 32, 51]⟩ by kernel_rfl]
theorem run_five : dkA dkF [] fiveL = ansL := by
  unfold fiveL ansL
  simp only [dkA, fv_f0, fv_f1, fv_f2, fv_f3, fv_f4]
  rfl
theorem run_any (r : List ByteArray) (a : Option Addr) (c : Nat) (w : World) (h : StrS w a r) (hv : DkV w) (h8 : 8 ≤ w.heap.size) :
    Calls Tryz.prog 6 #[.slice a r.length c] w fun e w' => ∃ (a' : Option Addr) (c' : Nat) (AN : List ByteArray) (f : Int), e = .returned (.tuple #[.slice a' AN.length c', .int .i64 f]) ∧ StrS w' a' AN ∧ AN.length ≤ c' ∧ Below w.heap.size w w' ∧ (okLines r → f = 0 ∧ AN = dkA dkF [] r) := by
  by_cases hok : okLines r
  · refine (run_ok r a c w h hok hv h8).mono ?_
    rintro e w' ⟨a', c', rfl, hS, hc, hb⟩
    have hl := dkA_len dkF r []
    exact ⟨a', c', dkA dkF [] r, 0, by rw [hl], hS, by rw [hl]; exact hc, hb, fun _ => ⟨rfl, rfl⟩⟩
  · refine (run_no r a c w h hok).mono ?_
    rintro e w' ⟨rfl, hb⟩
    exact ⟨none, 0, [], 2, rfl, StrS.nil _, Nat.le_refl _, hb, fun h => absurd h hok⟩
set_option maxRecDepth 100000 in
set_option maxHeartbeats 8000000 in
theorem deskFront_walk (a : Option Addr) (z : List ByteArray) (c : Nat) (a' : Option Addr) (y : List ByteArray) (c' : Nat) (w : World) (hV : DkV w) (hV8 : 8 ≤ w.heap.size) (h : StrS w a z ∧ z.length ≤ c ∧ z.length * 16 ≤ 140737488351232) (hz : z.length ≤ 1048576) (h' : StrS w a' y ∧ y.length ≤ c' ∧ y.length * 16 ≤ 140737488351232) (hy : y.length ≤ 1048576) :
    Calls Tryz.prog 3 #[.slice a z.length c, .slice a' y.length c'] w fun e w' => e = .returned (.bool true) ∧ Below w.heap.size w w' := by
  obtain ⟨h1, _, _⟩ := h
  obtain ⟨h2, _, _⟩ := h'
  obtain ⟨i0', hi, hz0, hz1, hz2⟩ := info_parts infoSt
  have hT0 := Has.new w #[.string ⟨#[116, 48, 32, 102, 111, 114, 107, 32, 116, 49]⟩, .string ⟨#[116, 48, 32, 119, 114, 105, 116, 101, 32, 120, 48]⟩, .string ⟨#[116, 49, 32, 119, 114, 105, 116, 101, 32, 120, 48]⟩, .string ⟨#[114, 97, 99, 101, 115]⟩, .string ⟨#[119, 104, 97, 116]⟩] 9
  have hb0 := (Below.refl w.heap.size w).alloc (Nat.le_refl _) (.cells #[.string ⟨#[116, 48, 32, 102, 111, 114, 107, 32, 116, 49]⟩, .string ⟨#[116, 48, 32, 119, 114, 105, 116, 101, 32, 120, 48]⟩, .string ⟨#[116, 49, 32, 119, 114, 105, 116, 101, 32, 120, 48]⟩, .string ⟨#[114, 97, 99, 101, 115]⟩, .string ⟨#[119, 104, 97, 116]⟩] 9)
  have hS0 := strS_full (l := fiveL) hT0 rfl (by decide)
  have hr1 := run_ok fiveL (some ⟨w.heap.size, 0, none⟩) 5 _ hS0 ⟨by decide, by decide⟩ (hV.below hV8 hb0) (by have := hb0.size; omega)
  unfold DkRun at hr1
  rw [run_five, show fiveL.length = 5 from rfl] at hr1
  go_enter Tryz.func3, Tryz.ntmps3
  go_wp2_with fail
  refine hr1.mono ?_
  clear hr1
  rintro e w1 ⟨a1, c1, rfl, hS1, _, hk1⟩
  have hb1 := hb0.trans (hk1.mono hb0.size)
  clear hT0 hb0 hS0 hk1
  have hT2 := Has.new w1 #[.string ⟨#[111, 107]⟩, .string ⟨#[111, 107]⟩, .string ⟨#[111, 107]⟩, .string ⟨#[49, 45, 50]⟩, .string ⟨#[101, 114, 114, 111, 114, 32, 51]⟩] 9
  have hb2 := hb1.alloc hb1.size (.cells #[.string ⟨#[111, 107]⟩, .string ⟨#[111, 107]⟩, .string ⟨#[111, 107]⟩, .string ⟨#[49, 45, 50]⟩, .string ⟨#[101, 114, 114, 111, 114, 32, 51]⟩] 9)
  have hS2 := strS_full (l := ansL) hT2 rfl (by decide)
  have hS3 := hS1.below ((Below.refl _ _).alloc (Nat.le_refl _) (.cells #[.string ⟨#[111, 107]⟩, .string ⟨#[111, 107]⟩, .string ⟨#[111, 107]⟩, .string ⟨#[49, 45, 50]⟩, .string ⟨#[101, 114, 114, 111, 114, 32, 51]⟩] 9))
  go_wp2_with fail
  refine (eqSt_same ansL 5 rfl _ _ _ _ _ hS3 hS2).mono ?_
  rintro e w2 ⟨rfl, rfl⟩
  go_upto_region 4 with fail
  generalize w1.alloc (.cells #[.string ⟨#[111, 107]⟩, .string ⟨#[111, 107]⟩, .string ⟨#[111, 107]⟩, .string ⟨#[49, 45, 50]⟩, .string ⟨#[101, 114, 114, 111, 114, 32, 51]⟩] 9) = W at *
  have h1W := h1.below hb2
  have hVW := hV.below hV8 hb2
  have h8W : 8 ≤ W.heap.size := by have := hb2.size; omega
  clear hT2 hS2 hS3 hS1 hb1
  go_wp2_with fail
  refine (run_any z a c W h1W hVW h8W).mono ?_
  rintro e w4 ⟨a4, c4, AN, f, rfl, hS4, hc4, hk4, hcase⟩
  have hb4 := hb2.trans (hk4.mono hb2.size)
  have h14 := h1.below hb4
  have h24 := h2.below hb4
  have HC := Lib.hid hcase
  clear hcase h1W hVW h8W hk4 hb2
  go_wp2_with (at_builtin; refine app_list _ rfl (.const (.slice none 0 0)) (.tmp 30) 22 rfl Tryz.underlying22 hi hz0 hz1 hz2 rfl (by decide) (base := w4.heap.size) rfl (World.ownsRow_nil _ _ _ _) rfl h14.src (stL_one _) ?c3 ?c4 (Nat.le_refl _) ?_)
  case c3 => unfold maxLen; omega
  case c4 => omega
  intro v5 w5 hA5
  have hb5 := hA5.below (World.ownsRow_nil _ _ _ _) (Below.refl w4.heap.size w4) (Nat.le_refl _)
  have ho5 := hA5.own
  have hs5 := hb5.size
  have h25 := h24.below hb5
  clear hA5
  go_wp2_with (at_builtin; refine app_list _ rfl (.tmp 31) (.tmp 32) 22 rfl Tryz.underlying22 hi hz0 hz1 hz2 rfl (by decide) rfl ho5 rfl h25.src (stL_one _) ?c3 ?c4 hs5 ?_)
  case c3 => unfold maxLen; omega
  case c4 => omega
  intro v6 w6 hA6
  have hb6 := hA6.below ho5 hb5 hs5
  have ho6 := hA6.own
  rw [← stL_append] at ho6
  have hlen : (z ++ y).length = z.length + y.length := List.length_append
  obtain ⟨a6, c6, hv6, hS6, _⟩ := strS_own (l := z ++ y) (by rw [hlen]; exact ho6) (by rw [hlen]; omega)
  rw [hlen] at hv6
  subst hv6
  have hbw := hb4.trans (hb6.mono hb4.size)
  have hV6 := hV.below hV8 hbw
  have h86 : 8 ≤ w6.heap.size := by have := hbw.size; omega
  have hS46 := hS4.below hb6
  have HL := Lib.hid hlen
  clear hA6 ho5 ho6 hb5 hb6 hs5 h25 h24 h14 hlen h1 h2 hS4 hb4
  by_cases hok : okLines (z ++ y)
  · have hokz : okLines z := ⟨by have := hok.1; have := HL.out; omega, fun s hs => hok.2 s (by simp [hs])⟩
    obtain ⟨rfl, hAN⟩ := HC.out hokz
    have hr := run_ok (z ++ y) a6 c6 w6 hS6 hok hV6 h86
    unfold DkRun at hr
    rw [dkA_append, ← hAN, HL.out] at hr
    have hal : AN.length = z.length := by rw [hAN, dkA_len]
    have hyl : (dkA dkF (dkS dkF [] z) y).length = y.length := dkA_len _ _ _
    obtain ⟨B, hB⟩ : ∃ B, dkA dkF (dkS dkF [] z) y = B := ⟨_, rfl⟩
    rw [hB] at hr hyl
    clear hok hokz hAN hB HC hS6
    go_wp2_with fail
    refine hr.mono ?_
    clear hr
    rintro e w7 ⟨a7, c7, rfl, hS7, hc7, hk7⟩
    have hb7 := hbw.trans (hk7.mono hbw.size)
    have hS47 := hS46.below hk7
    have hST := hS7.take AN.length
    rw [List.take_left] at hST
    rw [hal]
    have q1 : ((z.length : Int) == (z.length : Int)) = true := by simp
    have hw2 := IntWalk.i64_in ((z.length : Int) + y.length) (by omega)
    have q0 : (0 : Int) ≤ z.length := by omega
    have q2 : (z.length : Int) ≤ c7 := by omega
    have q3 : (z.length : Int) ≤ (z.length + y.length : Nat) := by omega
    have hes := eqSt_same AN z.length hal a4 a7 c4 c7 w7 hS47 hST
    clear hS46 hS7 hS47 hST hk7 hbw
    go_wp2_with fail
    refine hes.mono ?_
    rintro e w8 ⟨rfl, rfl⟩
    go_wp2
    go_ret
    exact ⟨rfl, hb7⟩
  · have hr := run_no (z ++ y) a6 c6 w6 hS6 hok
    rw [HL.out] at hr
    go_wp2_with fail
    refine hr.mono ?_
    clear hr
    rintro e w7 ⟨rfl, hk7⟩
    have hb7 := hbw.trans (hk7.mono hbw.size)
    go_wp2
    go_ret
    exact ⟨rfl, hb7⟩
/-! The frame of the law DeskFront (where what it reads is small), by program. -/
set_option maxRecDepth 100000 in
theorem deskFront_contract (H : Type) (enc : TypeId × Value → H) (W : World) (base : Nat) (args : Array Value) (ds gs : List (DataW H)) (before : List MemPlace)
    (hval0 : ∀ (j : Nat) t v, Tryz.f3.params[j]? = some t → args[j]? = some v → Value.okWide Tryz.prog W .any base t v)
    (hW : DataW.Whole enc Tryz.prog Tryz.f3.params.toList Rows.deskFrontSpec.vars false W args.toList ds gs before) (hk : Rows.uptoSmall H (ds ++ gs) = true) (hSh : W.ShapedOpen Tryz.prog) (hL : laidMetH Tryz.prog Rows.deskFrontUptoRow.laid W) :
    Calls Tryz.prog 3 args W fun e W' => ∃ v, e = .returned v ∧ Rows.deskFrontSpec.post enc Tryz.prog Tryz.f3 false true false false W args v W' := by
  have hval : ∀ (j : Nat) t v, Tryz.f3.params[j]? = some t → args[j]? = some v → Value.okWide Tryz.prog W .any base t v := hval0
  have hW' := hW
  obtain ⟨p, q, hA0, hV, rfl, hfz, hnd⟩ := hW
  have hA : DataW.TrodAll enc Tryz.prog W 0 (fun _ => true) true Tryz.f3.params.toList args.toList ds p := hA0
  rw [Tryz.params3] at hA hval
  obtain ⟨v0, vs0, d0, ds0, p0, q0, hargs, rfl, rfl, h0, r0⟩ := trodAll_cons hA
  obtain ⟨v1, vs1, d1, ds1, p1, q1, rfl, rfl, rfl, h1, r1⟩ := trodAll_cons r0
  obtain ⟨rfl, rfl, rfl⟩ := trodAll_nil r1
  obtain rfl : args = #[v0, v1] := by cases args; simp_all
  obtain ⟨rfl, rfl⟩ := trodVars_none hV
  have k0 := h0
  have lt0 : ∀ x ∈ p0, x.block < W.heap.size := by obtain ⟨m, hm⟩ := k0; exact DataW.trod_lt m _ _ _ hm
  obtain ⟨a0, z0, c0, rfl, w0⟩ := open_strs (hval 0 22 v0 rfl rfl) h0 (fun els sp hd => Nat.le_trans (Nat.mul_le_mul_right _ (upto_slice hk (by simp) hd)) (of_decide_eq_true (by kernel_rfl)))
  have n0 : z0.length ≤ 1048576 := upto_len Tryz.underlying22 k0 hk (by simp)
  have k1 := h1
  have lt1 : ∀ x ∈ p1, x.block < W.heap.size := by obtain ⟨m, hm⟩ := k1; exact DataW.trod_lt m _ _ _ hm
  obtain ⟨a1, z1, c1, rfl, w1⟩ := open_strs (hval 1 22 v1 rfl rfl) h1 (fun els sp hd => Nat.le_trans (Nat.mul_le_mul_right _ (upto_slice hk (by simp) hd)) (of_decide_eq_true (by kernel_rfl)))
  have n1 : z1.length ≤ 1048576 := upto_len Tryz.underlying22 k1 hk (by simp)
  clear hA0 hval0 hk
  obtain ⟨hV, hV8⟩ := dkV_of hSh hL
  refine (deskFront_walk a0 z0 c0 a1 z1 c1 W hV hV8 w0 n0 w1 n1).mono fun e W' ⟨he, bel⟩ => ?_
  subst he
  exact ⟨_, rfl, _, _, _, [], _, [], hW', trodAll_mk1 (shut_bool Tryz.underlying4 _), (trodAll_cons_mk (Below.trod frame_laid (by kernel_rfl) (of_decide_eq_true (by kernel_rfl)) k0 bel lt0) (trodAll_cons_mk (Below.trod frame_laid (by kernel_rfl) (of_decide_eq_true (by kernel_rfl)) k1 bel lt1) trodAll_mk0)), rfl, bel.frame _, fun h => by cases h⟩
set_option maxRecDepth 100000 in
theorem deskFront_lifted (os : Os) (started : os.Started) (H : Type) (enc : TypeId × Value → H) (F : Stop.Interp) :
    ReturnsInHanded {} Tryz.checked os 3 .any (fun w args => ((Rows.OpenSpec.upto Rows.deskFrontSpec).pre enc Tryz.prog Tryz.f3 [] false w args ∧ laidMetH Tryz.prog Rows.deskFrontUptoRow.laid w) ∧ sizedMet enc Tryz.prog Tryz.f3 (Rows.OpenSpec.upto Rows.deskFrontSpec) false w args) (((Rows.OpenSpec.upto Rows.deskFrontSpec).at F).post enc Tryz.prog Tryz.f3 false true false false) := by
  refine cond_and_shaped (C := Tryz.checked) (s := Rows.OpenSpec.upto Rows.deskFrontSpec) (k := Rows.uptoSmall) rfl (X := fun w _ => laidMetH Tryz.prog Rows.deskFrontUptoRow.laid w) (fun _ _ _ hh h => h.of_heap hh) frame_own started (by kernel_rfl) Tryz.func3
    (cond_witness (enc := enc) (C := Tryz.checked) (os := os) (s := Rows.OpenSpec.upto Rows.deskFrontSpec) (k := Rows.uptoSmall) rfl (X := fun w _ => laidMetH Tryz.prog Rows.deskFrontUptoRow.laid w) false (World.laidAll Tryz.prog os Rows.deskFrontUptoRow.laid) #[.slice none 0 0, .slice none 0 0] 8 (World.laidAll_os _ _ _)
      (World.shaped_of_ZipB (by kernel_rfl) (by kernel_rfl)) (by kernel_rfl) (x := ([.nil, .nil], [], [])) (by kernel_rfl) rfl (by kernel_rfl) (by kernel_rfl)
      (by rw [MakeChecks.laidMetH_plain _ _ _ (by kernel_rfl)]; exact laidMet_laidAll _ (by kernel_rfl) (by kernel_rfl))) ?_
  intro W base args ds gs before hval hW hk hL hSh
  exact deskFront_contract H enc W base args ds gs before hval hW hk hSh hL

theorem deskFront_over : Rows.deskFrontUptoRow.holds Tryz.pinned (Rows.OpenSpec.upto Rows.deskFrontSpec) :=
  OpenClaim.holds_of_cond 3 Tryz.f3 rfl rfl rfl rfl rfl rfl rfl ⟨rfl, rfl, rfl, rfl, rfl⟩ rfl rfl rfl rfl rfl (by kernel_rfl) Tryz.func3 (by kernel_rfl)
    (of_decide_eq_true (by kernel_rfl)) (by unfold Func.isWrapper; first | (rw [if_pos (by decide +kernel)]; kernel_rfl) | (rw [if_neg (by decide +kernel)]; exact ⟨rfl, rfl⟩))
    (fun os started H enc _ F => deskFront_lifted os started H enc F)


theorem deskFront_holds : Rows.DeskFrontUptoCardSaid :=
  Claim7.holds_tied_plain_at .later [] [.data, .data, .data, .data, .sentinel, .sentinel, .pinned] true (true, "29a05870c4a8c29996d1cd37cebb1180ea1a94bb86ee612645e2ddada1e73ee7") true deskFront_over (fun _ h => by cases h) (by kernel_rfl) (fun _ h => by cases h) deskFrontUpto_row_tie rfl ⟨rfl, rfl⟩ (by kernel_rfl) rfl
    (fun f fn hf hfn => by
      obtain rfl : f = 3 := (Option.some.inj ((show Tryz.prog.funcNamed "deadheat/deadheatkeep.DeskFront" = some 3 by kernel_rfl).symm.trans hf)).symm
      obtain rfl : fn = Tryz.f3 := (Option.some.inj (Tryz.func3.symm.trans hfn)).symm
      exact ⟨by kernel_rfl, fun j t ht => by
        rw [Tryz.params3] at ht
        have hm : t ∈ [22, 22] := by simpa using Array.mem_of_getElem? ht
        have hall : ([22, 22].all fun u => !Tryz.prog.wantsStandIn u) = true := by kernel_rfl
        exact (show Tryz.prog.wantsStandIn t = false by simpa using List.all_eq_true.1 hall t hm)⟩)
    (by kernel_rfl)
end Go.Proofs.YtfjbnhacfficnaaGreatDoor

/- deadheatkeep.texted; lines of different events differ. -/
import Derived.Test.YtmeidjhojanogaaDoorTxE
namespace Go.Proofs.YtmeidjhojanogaaDoor
open Go.RowKit

def twoLines : List UInt8 := [116, 48, 32, 102, 111, 114, 107, 32, 116, 49, 10, 116, 48, 32, 119, 114, 105, 116, 101, 32, 120, 48, 10, 116, 49, 32, 119, 114, 105, 116, 101, 32, 120, 48]
theorem lineL_X {e : Ev} {K T O : Nat} (hK : e.k = K) (hT : e.t = T) (hO : e.o = O) (h6 : T < 10) (h8 : O < 10) : lineL e = (lineX K T O).data.toList := by
  rw [← line_X hK hT hO h6 h8]
  rfl
theorem two_text : txtV twoL = ⟨twoLines.toArray⟩ := by
  unfold txtV
  rw [if_pos (show (played twoL).2.2 = 0 by decide +kernel)]
  unfold textB textL twoL
  simp only [List.map_cons, List.map_nil]
  rw [lineL_X (K := 5) (T := 0) (O := 1) rfl rfl rfl (by decide) (by decide), lineL_X (K := 2) (T := 0) (O := 0) rfl rfl rfl (by decide) (by decide), lineL_X (K := 2) (T := 1) (O := 0) rfl rfl rfl (by decide) (by decide)]
  rw [show Lib.join [(lineX 5 0 1).data.toList, (lineX 2 0 0).data.toList, (lineX 2 1 0).data.toList] [10] = twoLines by kernel_rfl]
theorem text_two (a : Option Addr) (w : World) (h : EvS w a twoL) : Calls Tryd.prog 9 #[.slice a 3 3] w fun r w' => r = .returned (.tuple #[.string ⟨twoLines.toArray⟩, .int .i64 0]) ∧ Below w.heap.size w w' := by
  have := text_any twoL a 3 w h
  rw [two_text, show (played twoL).2.2 = 0 by decide +kernel] at this
  exact this
set_option maxRecDepth 100000 in
theorem texted_any (w : World) : Calls Tryd.prog 8 #[] w fun r w' => r = .returned (.bool true) ∧ Below w.heap.size w w' := by
  go_enter Tryd.func8, Tryd.ntmps8
  go_wp2_with fail
  refine (two_any w).mono ?_
  rintro r w1 ⟨rfl, hS, hb⟩
  go_wp2_with fail
  refine (text_two _ w1 (evS_full hS rfl (by decide))).mono ?_
  rintro r w2 ⟨rfl, hb2⟩
  go_wp2
  go_ret
  exact ⟨rfl, hb.trans (hb2.mono hb.size)⟩
theorem bytes_two {a b c d : UInt8} (h : (⟨#[a, b]⟩ : ByteArray) = ⟨#[c, d]⟩) : a = c ∧ b = d := by
  have := congrArg (fun s : ByteArray => s.data.toList) h
  simpa using this
theorem ofNat_inj {a b : Nat} (ha : a < 100) (hb : b < 100) (h : UInt8.ofNat (48 + a) = UInt8.ofNat (48 + b)) : a = b := by
  have h1 := congrArg UInt8.toNat h
  have h2 : (48 + a) % 2 ^ 8 = (48 + b) % 2 ^ 8 := h1
  omega
theorem line_inj {x y : Ev} (hx : isEv x = true) (hy : isEv y = true) (h : lineB x = lineB y) : x = y := by
  obtain ⟨⟨k1, k8⟩, ⟨t0, t6⟩, o0, o8⟩ := isEv_bounds hx
  obtain ⟨⟨l1, l8⟩, ⟨s0, s6⟩, p0, p8⟩ := isEv_bounds hy
  obtain ⟨k, t, o⟩ := x
  obtain ⟨l, s, p⟩ := y
  obtain ⟨k, rfl⟩ := Int.eq_ofNat_of_zero_le (show 0 ≤ k by simp at k1; omega)
  obtain ⟨t, rfl⟩ := Int.eq_ofNat_of_zero_le t0
  obtain ⟨o, rfl⟩ := Int.eq_ofNat_of_zero_le o0
  obtain ⟨l, rfl⟩ := Int.eq_ofNat_of_zero_le (show 0 ≤ l by simp at l1; omega)
  obtain ⟨s, rfl⟩ := Int.eq_ofNat_of_zero_le s0
  obtain ⟨p, rfl⟩ := Int.eq_ofNat_of_zero_le p0
  simp only at k1 k8 t6 o8 l1 l8 s6 p8
  rw [line_X (K := k) (T := t) (O := o) rfl rfl rfl (by omega) (by omega), line_X (K := l) (T := s) (O := p) rfl rfl rfl (by omega) (by omega)] at h
  have h1 := (parts_line (K := k) (T := t) (O := o) (by omega) (by omega) (by omega) (by omega)).2
  rw [h, (parts_line (K := l) (T := s) (O := p) (by omega) (by omega) (by omega) (by omega)).2] at h1
  simp only [List.cons.injEq, and_true] at h1
  obtain ⟨e0, e1, e2⟩ := h1
  have ek := wordA_inj (mem_eight.2 ⟨by omega, by omega⟩) (mem_eight.2 ⟨by omega, by omega⟩) e1
  subst ek
  obtain ⟨c, hc⟩ := letA_byte (mem_eight.2 ⟨by omega, by omega⟩ : l ∈ eight)
  have q0 := ofNat_inj (by omega) (by omega) (bytes_two e0).2
  have q2 : (⟨#[c, UInt8.ofNat (48 + p)]⟩ : ByteArray) = ⟨#[c, UInt8.ofNat (48 + o)]⟩ := by
    unfold p2X at e2
    rw [hc] at e2
    exact e2
  have q3 := ofNat_inj (by omega) (by omega) (bytes_two q2).2
  rw [q0, q3]
end Go.Proofs.YtmeidjhojanogaaDoor

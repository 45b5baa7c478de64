/- Arguments of a law, opened: slices of strings; equality of two slices of strings. -/
import Derived.Test.YtfjbnhacfficnaaGreatDoorZC
import Derived.Test.YtfjbnhacfficnaaGreatDoorZB
import Derived.Deep.Strs
namespace Go.Proofs.YtfjbnhacfficnaaGreatDoor
open Go.ChangeShapes Go.WideShapes Go.ChangeAt Go.RowKit Go.Deep Go.Joins

section
variable {H : Type} {enc : TypeId × Value → H} {w : World} {base : Nat} {spare : Nat → Bool} {held : Bool} {r : Reach} {b0 : Nat}
theorem strs_bytes : Tryz.prog.bytesOf 9 = 16 := by kernel_rfl
set_option maxRecDepth 100000 in
theorem open_strs {v : Value} {d : DataW H} {p : List MemPlace}
    (hv : Value.okWide Tryz.prog w r b0 22 v) (h : DataW.Trod enc Tryz.prog w base spare held 22 v d p) (hsz : ∀ els sp, d = .slice els sp → (els.length + sp.length) * Tryz.prog.bytesOf 9 ≤ reachBytes) :
    ∃ (a : Option Addr) (z : List ByteArray) (c : Nat), v = .slice a z.length c ∧ StrS w a z ∧ z.length ≤ c ∧ z.length * 16 ≤ 140737488351232 := by
  obtain ⟨a0, len0, cap0, rfl⟩ := okWide_slice Tryz.underlying22 hv
  obtain ⟨fuel, hf⟩ := h
  rcases Go.Deep.open_strs Tryz.underlying22 Tryz.underlying9 (by kernel_rfl) hf with ⟨hcs, _⟩ | ⟨a, len, cap, m, Sx, hcs, _, hl, _, hm, hx, hi⟩
  · simp [Value.cells] at hcs
    obtain ⟨rfl, rfl, rfl⟩ := hcs
    exact ⟨none, [], 0, rfl, StrS.nil w, Nat.le_refl _, by simp⟩
  · simp [Value.cells] at hcs
    obtain ⟨rfl, rfl, rfl⟩ := hcs
    have hlm : len0 ≤ m := by rw [hm]; split <;> omega
    have hs1 : len0 * 16 ≤ 140737488351232 := by
      simp only [Prod.mk.injEq] at hx
      have h1 := hsz _ _ hx.1
      rw [strs_bytes] at h1
      simp only [List.length_map, List.length_range] at h1
      have h2 : reachBytes = 140737488351232 := by decide
      omega
    refine ⟨some a, (List.range len0).map Sx, cap0, by simp, ⟨by simp; omega, ?_⟩, by simpa using hl, by simpa using hs1⟩
    by_cases h0 : len0 = 0
    · left
      subst h0
      rfl
    · right
      have hspot := World.cell?_spot (hi 0 (by omega)).1
      obtain ⟨b, o, sp⟩ := a
      have hsp : sp = none := by simpa [Addr.add] using hspot
      subst hsp
      refine ⟨b, o, rfl, fun i h => ?_⟩
      have hil : i < len0 := by simpa using h
      have h3 := (hi i (by omega)).1
      have hadd : (⟨b, o, none⟩ : Addr).add i = ⟨b, o + i, none⟩ := by unfold Addr.add; split <;> simp_all
      rw [hadd] at h3
      rw [h3]
      simp
end
theorem strEqS (s t : ByteArray) : (s.toList == t.toList) = decide (s = t) := by
  rw [Bool.eq_iff_iff, decide_eq_true_eq, beq_iff_eq]
  constructor
  · intro h
    exact ByteArray.ext (by simpa [ByteArray.toList_eq] using h)
  · intro h
    rw [h]
set_option maxHeartbeats 2000000 in
theorem eqSt_same (l : List ByteArray) (n : Nat) (hn : l.length = n) (a a' : Option Addr) (c c' : Nat) (w : World) (h : StrS w a l) (h' : StrS w a' l) :
    Calls Tryz.prog 7 #[.slice a n c, .slice a' n c'] w fun e w' => e = .returned (.bool true) ∧ w' = w := by
  subst hn
  have hbig := h.big
  have hne : ((l.length : Int) != (l.length : Int)) = false := by simp
  go_enter Tryz.func7, Tryz.ntmps7
  go_wp2
  go_loopw [5, 14] (fun _ i wr => ∃ k : Nat, k ≤ l.length ∧ i = .int .i64 k ∧ wr = w) (fun _ i _ => l.length - (intOf i).toNat)
  case atStart => exact ⟨0, Nat.zero_le _, rfl, rfl⟩
  case round =>
    obtain ⟨k, hk, rfl, rfl⟩ := hrel
    by_cases hlt : k < l.length
    · obtain ⟨b, o, rfl, d0⟩ := h.at hlt
      obtain ⟨b', o', rfl, e0⟩ := h'.at hlt
      generalize l[k] = y at *
      have hq : (y.toList == y.toList) = true := by simp
      go_wp2
      go_roundw
      case rel => exact ⟨k + 1, by omega, by go_num, trivial⟩
      case measure => (simp [intOf]; try omega)
    · obtain rfl : k = l.length := by omega
      go_wp2
      go_ret
      exact ⟨rfl, rfl⟩
end Go.Proofs.YtfjbnhacfficnaaGreatDoor

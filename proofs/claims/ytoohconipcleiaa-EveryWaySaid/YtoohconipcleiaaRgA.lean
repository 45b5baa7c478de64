/- Contracts for rings: slices.Contains, slices.Clone of ints. -/
import Derived.Test.YtoohconipcleiaaMD
import Derived.IntWalk
namespace Go.Proofs.Ytoohconipcleiaa
open Go.RowKit

/-- The first place of a number (-1: none). -/
def idxL (x : Int) : List Int → Nat → Int
  | [], _ => -1
  | y :: l, i => if x = y then i else idxL x l (i + 1)
theorem idxL_has (x : Int) : ∀ (l : List Int) (i : Nat), decide (idxL x l i ≥ 0) = hasB l x
  | [], i => by simp [idxL, hasB]
  | y :: l, i => by
    by_cases e : x = y
    · have h1 : hasB (y :: l) x = true := by simp [hasB, e]
      have h2 : idxL x (y :: l) i = i := by simp only [idxL]; rw [if_pos e]
      rw [h1, h2]
      exact decide_eq_true (by omega)
    · have h2 : idxL x (y :: l) i = idxL x l (i + 1) := by simp only [idxL]; rw [if_neg e]
      rw [h2, idxL_has x l (i + 1)]
      simp [hasB, e]
set_option maxHeartbeats 1000000 in
theorem index_any (l : List Int) (x : Int) (a : Option Addr) (c : Nat) (w : World) (h : IntS w a l) :
    Calls Try.prog 148 #[.slice a l.length c, .int .i64 x] w fun e w' => e = .returned (.int .i64 (idxL x l 0)) ∧ w' = w := by
  have hbig := h.big
  go_enter Try.func148, Try.ntmps148
  go_wp2
  go_loopw [5, 8] (fun _ i wr => ∃ k : Nat, k ≤ l.length ∧ i = .int .i64 k ∧ Hid (idxL x l 0 = idxL x (l.drop k) k) ∧ wr = w) (fun _ i _ => l.length - (intOf i).toNat)
  case atStart => exact ⟨0, Nat.zero_le _, rfl, Lib.hid rfl, rfl⟩
  case round =>
    obtain ⟨k, hk, rfl, HC, rfl⟩ := hrel
    by_cases hlt : k < l.length
    · obtain ⟨b, o, rfl, hc⟩ := h.at hlt
      have hd : l.drop k = l[k] :: l.drop (k + 1) := List.drop_eq_getElem_cons hlt
      have k0 : (0 : Int) ≤ k := by omega
      have k1 : (k : Int) < l.length := by omega
      generalize l[k] = y at *
      by_cases hy : x = y
      · have hr : idxL x l 0 = k := by rw [HC.out, hd]; simp [idxL, hy]
        have hxy : (x == y) = true := by simpa using hy
        have HR := Lib.hid hr
        clear hr hd HC hy
        go_wp2
        go_ret
        rw [HR.out]
        exact ⟨rfl, rfl⟩
      · have hxy : (x == y) = false := by simpa using hy
        have hr : idxL x l 0 = idxL x (l.drop (k + 1)) (k + 1) := by rw [HC.out, hd]; simp [idxL, hy]
        have HR := Lib.hid hr
        clear hr hd HC hy
        go_wp2
        go_roundw
        case rel => exact ⟨k + 1, by omega, by go_num, HR, trivial⟩
        case measure => (simp [intOf]; try omega)
    · have hr : idxL x l 0 = -1 := by rw [HC.out, List.drop_eq_nil_of_le (by omega)]; rfl
      have HR := Lib.hid hr
      clear hr HC
      go_wp2
      go_ret
      rw [HR.out]
      exact ⟨rfl, rfl⟩
theorem contains_any (l : List Int) (x : Int) (a : Option Addr) (c : Nat) (w : World) (h : IntS w a l) :
    Calls Try.prog 133 #[.slice a l.length c, .int .i64 x] w fun e w' => e = .returned (.bool (hasB l x)) ∧ w' = w := by
  have hi := idxL_has x l 0
  go_enter Try.func133, Try.ntmps133
  go_wp2_with fail
  refine (index_any l x a c _ h).mono ?_
  rintro r w1 ⟨rfl, rfl⟩
  go_wp2
  go_ret
  exact ⟨rfl, rfl⟩
theorem nil_int (b o n c : Nat) (w : World) : (binOp .eql 23 (.slice (some ⟨b, o, none⟩) n c) (.slice none 0 0)).run Try.prog w = .ok (.bool false) w := by kernel_rfl
theorem nn_int (b o n c : Nat) (w : World) : (binOp .neq 23 (.slice (some ⟨b, o, none⟩) n c) (.slice none 0 0)).run Try.prog w = .ok (.bool true) w := by kernel_rfl
theorem nz_int (w : World) : (binOp .neq 23 (.slice none 0 0) (.slice none 0 0)).run Try.prog w = .ok (.bool false) w := by kernel_rfl
/-- A copy of ints. -/
def CloneI (l : List Int) (w : World) (r : Ending) (w' : World) : Prop := ∃ v, r = .returned v ∧ w'.ownsRow w.heap.size 3 1 v l.length (ints l) ∧ Below w.heap.size w w'
theorem ints_one (l : List Int) : ∀ u ∈ ints l, u.oneCell' = true := by
  intro u hu
  obtain ⟨n, _, rfl⟩ := List.mem_map.1 hu
  rfl
theorem IntS.src {w : World} {a : Option Addr} {l : List Int} (h : IntS w a l) : Src w 1 a l.length (ints l) := by
  refine ⟨by simp, ?_⟩
  rcases h.ok with rfl | ⟨b, o, ha, hc⟩
  · exact .inl ⟨rfl, rfl⟩
  · right
    refine ⟨_, ha, fun j u hu => ?_⟩
    have hj : j < l.length := by have := (List.getElem?_eq_some_iff.1 hu).1; simpa using this
    have hadd : (⟨b, o, none⟩ : Addr).add j = ⟨b, o + j, none⟩ := by unfold Addr.add; split <;> simp_all
    rw [hadd, hc j hj]
    simp [hj] at hu
    rw [hu]
set_option maxRecDepth 100000 in
set_option maxHeartbeats 1000000 in
theorem cloneInt_any (l : List Int) (a : Option Addr) (c : Nat) (w : World) (h : IntS w a l) (hl : l ≠ []) (h8 : l.length ≤ 1000) :
    Calls Try.prog 63 #[.slice a l.length c] w (CloneI l w) := by
  obtain ⟨i0, hi, hz0, hz1, hz2⟩ := info_parts infoI
  obtain ⟨b, o, rfl⟩ : ∃ b o, a = some ⟨b, o, none⟩ := by
    rcases h.ok with h0 | ⟨b, o, ha, _⟩
    · exact absurd h0 hl
    · exact ⟨b, o, ha⟩
  have hN := Has.new w #[] 3
  have hown := own_full (base := w.heap.size) (size := 1) (n := 0) hN (Nat.le_refl _) rfl (by decide)
  have hb := (Below.refl w.heap.size w).alloc (Nat.le_refl _) (.cells #[] 3)
  have S1 := (h.below hb).src
  have hnil := nil_int b o l.length c
  go_enter Try.func63, Try.ntmps63
  go_wp2_with (at_builtin; refine app_list _ rfl (.tmp 5) (.tmp 6) 23 rfl Try.underlying23 hi hz0 hz1 hz2 rfl (by decide) rfl hown rfl S1 (ints_one _) (by unfold maxLen; omega) (by omega) (by simp) ?_)
  intro v w2 hAp
  have hb2 := hAp.below hown hb (by simp)
  go_wp2
  go_ret
  refine ⟨_, rfl, ?_, hb2⟩
  have := hAp.own
  simpa using this
end Go.Proofs.Ytoohconipcleiaa

/- Contracts of the references' helpers: Rest; slices of ints: Has, Eq. -/
import Derived.Test.YtkkfomggfgfooaaChecked
import Derived.Test.YtkkfomggfgfooaaBase
import Derived.IntWalk
namespace Go.Proofs.Ytkkfomggfgfooaa
open Go.RowKit

/-- Is it in a list? (a plain definition, which the walk leaves alone) -/
def hasB {α : Type} [DecidableEq α] (l : List α) (x : α) : Bool := decide (x ∈ l)
theorem hasB_iff {α : Type} [DecidableEq α] {l : List α} {x : α} : hasB l x = true ↔ x ∈ l := by simp [hasB]
/-- Are two lists equal? -/
def eqB {α : Type} [DecidableEq α] (l m : List α) : Bool := decide (l = m)
theorem eqB_iff {α : Type} [DecidableEq α] {l m : List α} : eqB l m = true ↔ l = m := by simp [eqB]

/-- A slice of ints: its elements read as a list. -/
structure IntS (w : World) (a : Option Addr) (l : List Int) : Prop where
  big : l.length < 4611686018427387904
  ok : l = [] ∨ ∃ b o, a = some ⟨b, o, none⟩ ∧ ∀ i (h : i < l.length), w.cell? ⟨b, o + i, none⟩ = some (.int .i64 l[i])
theorem IntS.below {w w' : World} {a : Option Addr} {l : List Int} (h : IntS w a l) (k : Below w.heap.size w w') : IntS w' a l := by
  refine ⟨h.big, ?_⟩
  rcases h.ok with h0 | ⟨b, o, ha, hc⟩
  · exact .inl h0
  · exact .inr ⟨b, o, ha, fun i hi => (k.cell (World.block_lt_of_cell? w _ (hc i hi))).trans (hc i hi)⟩
theorem IntS.at {w : World} {a : Option Addr} {l : List Int} (h : IntS w a l) {i : Nat} (hi : i < l.length) : ∃ b o, a = some ⟨b, o, none⟩ ∧ w.cell? ⟨b, o + i, none⟩ = some (.int .i64 l[i]) := by
  rcases h.ok with h0 | ⟨b, o, ha, hc⟩
  · simp [h0] at hi
  · exact ⟨b, o, ha, hc i hi⟩

set_option maxHeartbeats 400000 in
theorem rest_any (n m : Int) (w : World) (hm : 0 < m) (hm2 : m ≤ 4611686018427387904) :
    Calls Try.prog 14 #[.int .i64 n, .int .i64 m] w fun e w' => e = .returned (.int .i64 (n % m)) ∧ w' = w := by
  have h0 := Int.emod_nonneg n (show m ≠ 0 by omega)
  have h1 := Int.emod_lt_of_pos n hm
  have h2 : n.tmod m = n % m ∨ (n.tmod m < 0 ∧ n.tmod m + m = n % m) := by
    by_cases hn : 0 ≤ n
    · exact .inl (Int.tmod_eq_emod_of_nonneg hn)
    · by_cases hd : m ∣ n
      · exact .inl (by rw [Int.emod_eq_zero_of_dvd hd, Int.tmod_eq_zero_of_dvd hd])
      · right
        have := Int.tmod_eq_emod (a := n) (b := m)
        rw [this]
        have e : ¬ (0 ≤ n ∨ m ∣ n) := by simp [hn, hd]
        rw [if_neg e]
        omega
  have hz : (m == 0) = false := by simp; omega
  have h3 : -4611686018427387904 ≤ n.tmod m ∧ n.tmod m ≤ 4611686018427387904 := by omega
  have h4 : ¬ (m = -1) := by omega
  have h5 := IntWalk.i64_in (n.tmod m) (by omega)
  generalize hq : n.tmod m = q at *
  rcases h2 with h2 | ⟨h2, h6⟩
  · have d : decide (q < 0) = false := by simp; omega
    have H2 := Lib.hid h2
    have HQ := Lib.hid hq
    clear h2 
    go_enter Try.func14, Try.ntmps14
    go_wp2
    go_ret
    exact ⟨ret_int H2.out, rfl⟩
  · have d : decide (q < 0) = true := by simp; omega
    have h7 := IntWalk.i64_in (q + m) (by omega)
    have H6 := Lib.hid h6
    clear h6
    go_enter Try.func14, Try.ntmps14
    go_wp2
    go_ret
    exact ⟨ret_int H6.out, rfl⟩

set_option maxHeartbeats 400000 in
theorem hasInt_any (l : List Int) (x : Int) (a : Option Addr) (c : Nat) (w : World) (h : IntS w a l) :
    Calls Try.prog 16 #[.slice a l.length c, .int .i64 x] w fun e w' => e = .returned (.bool (hasB l x)) ∧ w' = w := by
  have hbig := h.big
  go_enter Try.func16, Try.ntmps16
  go_wp2
  go_loop [9] (fun i => ∃ k : Nat, k ≤ l.length ∧ i = .int .i64 k ∧ Hid (hasB l x = hasB (l.drop k) x)) (fun i => l.length - (intOf i).toNat)
  case atStart => exact ⟨0, Nat.zero_le _, rfl, Lib.hid rfl⟩
  case round =>
    obtain ⟨k, hk, rfl, HC⟩ := hrel
    by_cases hlt : k < l.length
    · obtain ⟨b, o, rfl, hc⟩ := h.at hlt
      have hd : l.drop k = l[k] :: l.drop (k + 1) := List.drop_eq_getElem_cons hlt
      generalize l[k] = y at *
      by_cases hy : x = y
      · subst hy
        have hr : hasB l x = true := by rw [HC.out, hd]; simp [hasB]
        have HR := Lib.hid hr
        clear hr hd HC
        go_wp2
        go_ret
        rw [HR.out]
        exact ⟨rfl, rfl⟩
      · have hxy : (x == y) = false := by simpa using hy
        have hr : hasB l x = hasB (l.drop (k + 1)) x := by rw [HC.out, hd]; simp [hasB, hy]
        have HR := Lib.hid hr
        clear hr hd HC
        go_wp2
        go_round
        case rel => exact ⟨k + 1, by omega, by go_num, HR⟩
        case measure => simp [intOf]; omega
    · have hr : hasB l x = false := by rw [HC.out, List.drop_eq_nil_of_le (by omega)]; simp [hasB]
      have HR := Lib.hid hr
      clear hr HC
      go_wp2
      go_ret
      rw [HR.out]
      exact ⟨rfl, rfl⟩

set_option maxHeartbeats 400000 in
theorem eqInt_any (l m : List Int) (a a' : Option Addr) (c c' : Nat) (w : World) (h : IntS w a l) (h' : IntS w a' m) :
    Calls Try.prog 23 #[.slice a l.length c, .slice a' m.length c'] w fun e w' => e = .returned (.bool (eqB l m)) ∧ w' = w := by
  have hbig := h.big
  have hbig' := h'.big
  by_cases hl : l.length = m.length
  · have hne : ((l.length : Int) != (m.length : Int)) = false := by simp [hl]
    have HL := Lib.hid hl
    clear hl
    go_enter Try.func23, Try.ntmps23
    go_wp2
    go_loop [14] (fun i => ∃ k : Nat, k ≤ l.length ∧ i = .int .i64 k ∧ Hid (eqB l m = eqB (l.drop k) (m.drop k))) (fun i => l.length - (intOf i).toNat)
    case atStart => exact ⟨0, Nat.zero_le _, rfl, Lib.hid rfl⟩
    case round =>
      obtain ⟨k, hk, rfl, HC⟩ := hrel
      by_cases hlt : k < l.length
      · have hlt' : k < m.length := by rw [← HL.out]; exact hlt
        obtain ⟨b, o, rfl, hc⟩ := h.at hlt
        obtain ⟨b', o', rfl, hc'⟩ := h'.at hlt'
        have hd : l.drop k = l[k] :: l.drop (k + 1) := List.drop_eq_getElem_cons hlt
        have hd' : m.drop k = m[k] :: m.drop (k + 1) := List.drop_eq_getElem_cons hlt'
        generalize l[k] = y at *
        generalize m[k] = y' at *
        have hr : eqB l m = (decide (y = y') && eqB (l.drop (k + 1)) (m.drop (k + 1))) := by rw [HC.out, hd, hd']; simp [eqB]
        have HR := Lib.hid hr
        clear hr hd hd' HC
        by_cases hy : y = y'
        · subst hy
          have HR2 := Lib.hid (show eqB l m = eqB (l.drop (k + 1)) (m.drop (k + 1)) by rw [HR.out]; simp)
          clear HR
          go_wp2
          go_round
          case rel => exact ⟨k + 1, by omega, by go_num, HR2⟩
          case measure => simp [intOf]; omega
        · have HR2 := Lib.hid (show eqB l m = false by rw [HR.out]; simp [hy])
          have hyy : (y != y') = true := by simpa using hy
          clear HR
          go_wp2
          go_ret
          rw [HR2.out]
          exact ⟨rfl, rfl⟩
      · have hr : eqB l m = true := by rw [HC.out, List.drop_eq_nil_of_le (by omega), List.drop_eq_nil_of_le (by rw [← HL.out]; omega)]; simp [eqB]
        have HR := Lib.hid hr
        clear hr HC
        go_wp2
        go_ret
        rw [HR.out]
        exact ⟨rfl, rfl⟩
  · have hne : ((l.length : Int) != (m.length : Int)) = true := by simp; omega
    have hr : eqB l m = false := by simp [eqB]; exact fun e => hl (by rw [e])
    rw [hr]
    clear hr
    go_enter Try.func23, Try.ntmps23
    go_wp2
    go_ret
    exact ⟨rfl, rfl⟩
end Go.Proofs.Ytkkfomggfgfooaa

/- Contract of every.check. -/
import Derived.Test.YtoohconipcleiaaPgA
import Derived.Test.YtoohconipcleiaaNF
namespace Go.Proofs.Ytoohconipcleiaa
open Go.RowKit

def totO (p : List (List Ev)) : Nat := (p.map List.length).sum
def chkE (p : List (List Ev)) : Int := if chkP p ≠ 0 then chkP p else if 10 < totO p then 2 else 0
theorem totO_take {p : List (List Ev)} {k : Nat} (h : k < p.length) : totO (p.take (k + 1)) = totO (p.take k) + p[k].length := by
  unfold totO
  rw [List.take_add_one, List.getElem?_eq_getElem h, Option.toList_some, List.map_append, List.sum_append]
  simp
theorem totO_le {p : List (List Ev)} (hp : OkP p) (k : Nat) : totO (p.take k) ≤ 12 * k := by
  induction k with
  | zero => simp [totO]
  | succ k ih =>
    by_cases h : k < p.length
    · rw [totO_take h]
      have := hp.len _ (List.getElem_mem h)
      omega
    · rw [List.take_of_length_le (by omega)] at ih ⊢
      omega
theorem totO_tot {p : List (List Ev)} (h6 : p.length ≤ 6) : totO p = totL p := by
  have h : ∀ k, k ≤ p.length → totO (p.take k) = ((List.range k).map (plen p)).sum := by
    intro k
    induction k with
    | zero => intro _; simp [totO]
    | succ k ih =>
      intro hk
      rw [totO_take (by omega), ih (by omega), List.range_succ, List.map_append, List.sum_append]
      have : plen p k = p[k].length := by unfold plen; simp [show k < p.length by omega]
      simp [this]
  have h0 : ∀ k, p.length ≤ k → plen p k = 0 := fun k hk => by
    unfold plen
    rw [List.getD_eq_getElem?_getD, List.getElem?_eq_none hk]
    rfl
  have h1 := h p.length (Nat.le_refl _)
  rw [List.take_length] at h1
  rw [h1]
  unfold totL
  rcases (by omega : p.length = 0 ∨ p.length = 1 ∨ p.length = 2 ∨ p.length = 3 ∨ p.length = 4 ∨ p.length = 5 ∨ p.length = 6) with e | e | e | e | e | e | e
  · rw [h0 0 (by omega), h0 1 (by omega), h0 2 (by omega), h0 3 (by omega), h0 4 (by omega), h0 5 (by omega), e]; rfl
  · rw [h0 1 (by omega), h0 2 (by omega), h0 3 (by omega), h0 4 (by omega), h0 5 (by omega), e]; simp [List.range_succ]
  · rw [h0 2 (by omega), h0 3 (by omega), h0 4 (by omega), h0 5 (by omega), e]; simp [List.range_succ]
  · rw [h0 3 (by omega), h0 4 (by omega), h0 5 (by omega), e]; simp [List.range_succ]; omega
  · rw [h0 4 (by omega), h0 5 (by omega), e]; simp [List.range_succ]; omega
  · rw [h0 5 (by omega), e]; simp [List.range_succ]; omega
  · rw [e]; simp [List.range_succ]; omega
theorem chkE_ok {p : List (List Ev)} (h : chkE p = 0) : OkP p ∧ totL p ≤ 10 := by
  unfold chkE at h
  split at h
  · rename_i h1; exact absurd h h1
  · split at h
    · cases h
    · rename_i h1 h2
      have hp := chkP_ok (by simpa using h1)
      exact ⟨hp, by rw [← totO_tot hp.six]; omega⟩
set_option maxRecDepth 100000 in
set_option maxHeartbeats 8000000 in
theorem checkE_any (p : List (List Ev)) (a : Option Addr) (c : Nat) (w : World) (h : PgS w a p) :
    Calls Try.prog 54 #[.slice a p.length c] w fun r w' => r = .returned (.int .i64 (chkE p)) ∧ Below w.heap.size w w' := by
  have hck := checkP_any p a c w h
  by_cases hc : chkP p = 0
  · have hp := chkP_ok hc
    rw [hc] at hck
    have hE : chkE p = if 10 < totO p then 2 else 0 := by unfold chkE; rw [if_neg (by simp [hc])]
    have HE := Lib.hid hE
    have HP := Lib.hid hp
    have h6 := hp.six
    have hbig := h.big
    clear hp hE hc
    go_enter Try.func54, Try.ntmps54
    go_wp2_with fail
    refine hck.mono ?_
    rintro r w1 ⟨rfl, hb1⟩
    have h1 := h.below hb1
    clear hck
    go_wp2
    go_loopw [14, 4] (fun i m wr => ∃ k : Nat, k ≤ p.length ∧ i = .int .i64 k ∧ m = .int .i64 (totO (p.take k) : Nat) ∧ Below w.heap.size w wr) (fun i _ _ => p.length - (intOf i).toNat)
    case atStart => exact ⟨0, Nat.zero_le _, rfl, rfl, hb1⟩
    case round =>
      clear hb1 h1
      obtain ⟨k, hk, rfl, rfl, hb⟩ := hrel
      by_cases hlt : k < p.length
      · obtain ⟨b, o, a1, c1, rfl, d0, hz⟩ := (h.below hb).at hlt
        have hs := totO_take hlt
        have hl1 := totO_le HP.out k
        have hl2 := totO_le HP.out (k + 1)
        generalize p[k] = z at *
        have k0 : (0 : Int) ≤ k := by omega
        have k1 : (k : Int) < p.length := by omega
        obtain ⟨S, hS⟩ : ∃ S, totO (p.take k) = S := ⟨_, rfl⟩
        rw [hS] at hs hl1 ⊢
        have s1 : (S : Int) + z.length ≤ 100 := by omega
        have HS := Lib.hid hs
        have h100 : (S : Int) ≤ 100 := by omega
        have z100 : (z.length : Int) ≤ 100 := by omega
        clear hs hl1 hl2 hS hz
        go_wp2
        go_roundw
        case rel => exact ⟨k + 1, by omega, by go_num, by rw [HS.out]; go_num, hb⟩
        case measure => (simp [intOf]; try omega)
      · obtain rfl : k = p.length := by omega
        have hl1 := totO_le HP.out p.length
        rw [List.take_length] at hl1 ⊢
        generalize totO p = S at *
        by_cases c10 : 10 < S
        · have e1 : decide (10 < S) = true := decide_eq_true c10
          have e2 : decide ((S : Int) > 10) = true := decide_eq_true (by omega)
          have HR := Lib.hid (show chkE p = 2 by rw [HE.out, if_pos c10])
          clear HE
          go_wp2
          go_ret
          rw [HR.out]
          exact ⟨rfl, hb⟩
        · have e1 : decide (10 < S) = false := decide_eq_false c10
          have e2 : decide ((S : Int) > 10) = false := decide_eq_false (by omega)
          have HR := Lib.hid (show chkE p = 0 by rw [HE.out, if_neg c10])
          clear HE
          go_wp2
          go_ret
          rw [HR.out]
          exact ⟨rfl, hb⟩
  · have hE : chkE p = chkP p := by unfold chkE; rw [if_pos hc]
    have e1 : (chkP p != 0) = true := bne_iff_ne.2 hc
    have e2 : (chkP p == 0) = false := beq_eq_false_iff_ne.2 hc
    have e3 : decide (chkP p = 0) = false := decide_eq_false hc
    have HE := Lib.hid hE
    clear hE
    generalize chkP p = C at *
    go_enter Try.func54, Try.ntmps54
    go_wp2_with fail
    refine hck.mono ?_
    rintro r w1 ⟨rfl, hb1⟩
    clear hck
    go_wp2
    go_ret
    rw [HE.out]
    exact ⟨rfl, hb1⟩
end Go.Proofs.Ytoohconipcleiaa

/- Contracts: ring, read, Ring. -/
import Derived.Test.YthfeakfakjecoaaRgB
import Derived.Test.YthfeakfakjecoaaPrs
namespace Go.Proofs.Ythfeakfakjecoaa
open Go.RowKit

def ringM (E : Nat → Nat → Bool) (m : Nat) : List Int := scanF (fun k : Nat => longP E (m - 1) [(k : Int)]) 0 5
/-- The ring with the fewest locks. -/
def ringP (E : Nat → Nat → Bool) : List Int := scanF (ringM E) 1 5
set_option maxRecDepth 100000 in
set_option maxHeartbeats 4000000 in
theorem ring_any (E : Nat → Nat → Bool) (G : Nat) (w : World) (hG : Has w G (grC E) 146) :
    Calls Try.prog 54 #[.pointer (some ⟨G, 0, none⟩)] w (RowPost (ringP E) w) := by
  go_enter Try.func54, Try.ntmps54
  go_wp2
  go_loopw [3] (fun i wr => ∃ m : Nat, 1 ≤ m ∧ m ≤ 6 ∧ i = .int .i64 m ∧ Hid (ringP E = scanF (ringM E) m (6 - m)) ∧ Below w.heap.size w wr) (fun i _ => 6 - (intOf i).toNat)
  case atStart => exact ⟨1, Nat.le_refl _, by omega, rfl, Lib.hid rfl, Below.refl _ _⟩
  case round =>
    obtain ⟨m, hm1, hm6, rfl, HC, hb⟩ := hrel
    by_cases hm : m < 6
    · have hmd : decide ((m : Int) ≤ 5) = true := decide_eq_true (by omega)
      have h54 : 6 - m = (6 - (m + 1)) + 1 := by omega
      have hno : ringM E m = [] → ringP E = scanF (ringM E) (m + 1) (6 - (m + 1)) := fun e => by rw [HC.out, h54, scanF_no e]
      have hye : ringM E m ≠ [] → ringP E = ringM E m := fun e => by rw [HC.out, h54, scanF_yes e]
      have HNO := Lib.hid hno
      have HYE := Lib.hid hye
      have hM : ringM E m = scanF (fun k : Nat => longP E (m - 1) [(k : Int)]) 0 5 := rfl
      obtain ⟨f, hf⟩ : ∃ f : Nat → List Int, f = fun k : Nat => longP E (m - 1) [(k : Int)] := ⟨_, rfl⟩
      rw [← hf] at hM
      have hfk := fun k : Nat => show f k = longP E (m - 1) [(k : Int)] by rw [hf]
      have HF := Lib.hid hfk
      have HM := Lib.hid hM
      clear h54 hno hye HC hM hf hfk
      obtain ⟨wo, rfl⟩ : ∃ wo : World, wo = wr := ⟨_, rfl⟩
      have hb0 := Below.refl wo.heap.size wo
      go_wp2
      go_loopw [10] (fun i wr => ∃ k : Nat, k ≤ 5 ∧ i = .int .i64 k ∧ Hid (ringM E m = scanF f k (5 - k)) ∧ Below wo.heap.size wo wr) (fun i _ => 5 - (intOf i).toNat)
      case atStart => exact ⟨0, Nat.zero_le _, rfl, HM, hb0⟩
      case round =>
        clear hb0
        obtain ⟨k, hk, rfl, HC, hb2⟩ := hrel
        by_cases hk5 : k < 5
        · have hkd : decide ((k : Int) < 5) = true := decide_eq_true (by omega)
          have h54 : 5 - k = (5 - (k + 1)) + 1 := by omega
          have hno : f k = [] → ringM E m = scanF f (k + 1) (5 - (k + 1)) := fun e => by rw [HC.out, h54, scanF_no e]
          have hye : f k ≠ [] → ringM E m = f k := fun e => by rw [HC.out, h54, scanF_yes e]
          rw [HF.out k] at hno hye
          have KNO := Lib.hid hno
          have KYE := Lib.hid hye
          have hI := intS_full (l := [(k : Int)]) (Has.new wr #[.int .i64 (k : Int)] 3) rfl (by simp)
          have hbT := hb2.alloc hb2.size (.cells #[.int .i64 (k : Int)] 3)
          have hbw := (Below.refl wr.heap.size wr).alloc (Nat.le_refl _) (.cells #[.int .i64 (k : Int)] 3)
          have hGw := (hG.below hb hG.lt)
          have hG2 := (hGw.below hb2 hGw.lt).alloc (.cells #[.int .i64 (k : Int)] 3)
          have hca := longer_ok E G (m - 1) [(k : Int)] _ 1 _ ⟨by simp, fun x hx => by simp at hx; subst hx; omega⟩ (by simp; omega) (Nat.le_refl _) hI hG2
          rw [show ([(k : Int)].length + (m - 1) : Nat) = m by simp; omega, show [(k : Int)].length = 1 from rfl] at hca
          have HCA := Lib.hid hca
          clear h54 hno hye HC hca hI hG2 hGw
          generalize longP E (m - 1) [(k : Int)] = L at *
          go_wp2_with fail
          refine HCA.out.mono ?_
          clear HCA
          rintro r w4 ⟨a4, c4, rfl, hI4, hnil, hc4, hk4⟩
          have hb4 := hbT.trans (hk4.mono hbT.size)
          by_cases hLe : L = []
          · obtain ⟨rfl, rfl⟩ := hnil hLe
            subst hLe
            have HN := Lib.hid (KNO.out rfl)
            have hnz := nz_int
            clear KNO KYE hnil hI4 HNO HYE
            go_wp2
            go_roundw
            case rel => exact ⟨k + 1, by omega, by go_num, HN, hb4⟩
            case measure => (simp [intOf]; try omega)
          · obtain ⟨b4, o4, rfl⟩ : ∃ b o, a4 = some ⟨b, o, none⟩ := by
              rcases hI4.ok with h0 | ⟨b, o, ha, _⟩
              · exact absurd h0 hLe
              · exact ⟨b, o, ha⟩
            have hRL := KYE.out hLe
            have HL := Lib.hid ((HYE.out (by rw [hRL]; exact hLe)).trans hRL)
            have hnn2 := nn_int b4 o4 L.length c4
            clear KNO KYE hnil HNO HYE hRL
            have hb5 := hb.trans (hb4.mono hb.size)
            go_wp2
            go_ret
            rw [HL.out]
            exact ⟨_, _, rfl, hI4, fun e => absurd e hLe, hc4, hb5⟩
        · obtain rfl : k = 5 := by omega
          have hL : ringM E m = [] := HC.out
          have HN := Lib.hid (HNO.out hL)
          have hb5 := hb.trans (hb2.mono hb.size)
          clear hL HC HNO HYE
          have hw := IntWalk.i64_in ((m : Int) + 1) (by omega)
          go_wp2
          go_roundw
          case rel => exact ⟨m + 1, by omega, by omega, by go_num, HN, hb5⟩
          case measure => (simp [intOf]; try omega)
    · obtain rfl : m = 6 := by omega
      have hL : ringP E = [] := HC.out
      have HL := Lib.hid hL
      clear hL HC
      go_wp2
      go_ret
      rw [HL.out]
      exact ⟨none, 0, rfl, ⟨by simp, .inl rfl⟩, fun _ => ⟨rfl, rfl⟩, Nat.le_refl _, hb⟩
end Go.Proofs.Ythfeakfakjecoaa

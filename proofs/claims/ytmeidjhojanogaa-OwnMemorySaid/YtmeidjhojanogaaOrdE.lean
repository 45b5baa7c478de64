/- Contracts of package order: Before. -/
import Derived.Test.YtmeidjhojanogaaOrdD
import Derived.Test.YtmeidjhojanogaaPlE
namespace Go.Proofs.Ytmeidjhojanogaa
open Go.RowKit

theorem own_low {w : World} {b0 b1 e size n : Nat} {v : Value} {cs : List Value} (h : w.ownsRow b1 e size v n cs) (hb : b0 ≤ b1) : w.ownsRow b0 e size v n cs := by
  obtain ⟨h1, h2 | ⟨g, cap, cur, h2, h3, h4⟩⟩ := h
  · exact ⟨h1, .inl h2⟩
  · exact ⟨h1, .inr ⟨g, cap, cur, h2, Nat.le_trans hb h3, h4⟩⟩
theorem before1_any (i j b g n : Nat) (B : Nat → Nat) (M : Nat → Nat → Bool) (w : World) (hb : Has w b #[.slice (some ⟨g, 0, none⟩) n n] 80)
    (hg : Has w g (rRow n n B) 83) (hr : Has w (B j) (bRow n (M j)) 4) (hi : i < n) (hj : j < n) :
    Calls Try.prog 42 #[.int .i64 i, .int .i64 j, .pointer (some ⟨b, 0, none⟩)] w fun r w' => r = .returned (.bool (M j i)) ∧ Below w.heap.size w w' := by
  have c0 : w.cell? ⟨b, 0, none⟩ = some (.slice (some ⟨g, 0, none⟩) n n) := hb.cell rfl
  have c1 := hg.cell (rRow_get n n B hj hj)
  have c2 := hr.cell (bRow_get n (M j) hi)
  go_enter Try.func42, Try.ntmps42
  go_wp2
  go_ret
  exact ⟨rfl, Below.refl _ _⟩

theorem before_err (l : List Ev) (a : Option Addr) (c : Nat) (w : World) (h : EvS w a l) (he : (played l).2.2 ≠ 0) :
    Calls Try.prog 35 #[.slice a l.length c] w fun r w' => r = .returned (.tuple #[.slice none 0 0, .int .i64 (played l).2.2]) ∧ Below w.heap.size w w' := by
  have e2 : ((played l).2.2 != 0) = true := by simpa using he
  go_enter Try.func35, Try.ntmps35
  go_wp2_with fail
  refine (check_any l a c _ h).mono ?_
  rintro r w1 ⟨rfl, hb⟩
  go_wp2
  go_ret2
  exact ⟨rfl, hb⟩

/-- Who is ahead: the answer of Before. -/
def befM (l : List Ev) (i j : Nat) : Bool := rowsTo l l.length j i
def befL (l : List Ev) : List (Int × Int) := allP (befM l) l.length l.length
def BefPost (L : List (Int × Int)) (w : World) (r : Ending) (w' : World) : Prop := ∃ v, r = .returned (.tuple #[v, .int .i64 0]) ∧ w'.ownsRow w.heap.size 74 2 v L.length (prL L) ∧ Below w.heap.size w w'
theorem before_ok (l : List Ev) (a : Option Addr) (c : Nat) (w : World) (h : EvS w a l) (he : (played l).2.2 = 0) :
    Calls Try.prog 35 #[.slice a l.length c] w (BefPost (befL l) w) := by
  obtain ⟨hl80, _⟩ := played_evs he
  have HE := Lib.hid he
  clear he
  go_enter Try.func35, Try.ntmps35
  go_wp2_with fail
  refine (check_any l a c _ h).mono ?_
  rintro r w1 ⟨rfl, hb⟩
  rw [HE.out]
  replace h := h.below hb
  go_wp2_with fail
  refine (ahead_any l a c _ h hl80).mono ?_
  rintro r w2 ⟨B, rfl, hA⟩
  have hN := Has.new w2 #[.slice (some ⟨w1.heap.size, 0, none⟩) l.length l.length] 80
  have hA2 := hA.next ((Below.refl _ w2).alloc (Nat.le_refl _) (.cells #[.slice (some ⟨w1.heap.size, 0, none⟩) l.length l.length] 80))
  have hb2 := hb.trans (hA2.below.mono hb.size)
  clear h hA
  go_wp2_with fail
  refine (pairs_before (.pointer (some ⟨w2.heap.size, 0, none⟩)) (befM l) l a c _ hl80 ?_).mono ?_
  · intro i j W hW hij hj
    have hA3 := hA2.next hW
    exact before1_any i j w2.heap.size w1.heap.size l.length B (rowsTo l l.length) W (hN.below hW hN.lt) hA3.top (hA3.rows j hj) (by omega) hj
  rintro r w3 ⟨v, rfl, hown, hq⟩
  have hb3 := hb2.trans (hq.mono hb2.size)
  go_wp2
  go_ret2
  exact ⟨v, rfl, own_low hown hb2.size, hb3⟩
end Go.Proofs.Ytmeidjhojanogaa

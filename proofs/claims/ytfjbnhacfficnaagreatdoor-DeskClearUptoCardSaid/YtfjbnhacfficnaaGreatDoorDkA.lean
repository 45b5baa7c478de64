/- Contracts of what a desk tells with: must, the texts of numbers, of races, of flags; strings with a blank between. -/
import Derived.Test.YtfjbnhacfficnaaGreatDoorTxS
import Derived.Test.YtfjbnhacfficnaaGreatDoorZR
import Derived.Test.YtfjbnhacfficnaaGreatDoorZB
import Derived.Test.YtfjbnhacfficnaaGreatDoorZEB
namespace Go.Proofs.YtfjbnhacfficnaaGreatDoor
open Go.RowKit

/-- A number below a hundred, as text. -/
def dd (i : Nat) : List UInt8 := if i < 10 then [UInt8.ofNat (48 + i)] else [UInt8.ofNat (48 + i / 10), UInt8.ofNat (48 + i % 10)]
def itB (i : Int) : ByteArray := ⟨(dd i.toNat).toArray⟩
theorem dd_ok {i : Nat} (h : i < 100) : Lib.decDigits i = dd i := by
  unfold dd
  by_cases h1 : i < 10
  · rw [if_pos h1, Lib.decDigits_one h1]
  · rw [if_neg h1, Lib.decDigits_two h1 h]
theorem dd_len (i : Nat) : (dd i).length ≤ 2 := by
  unfold dd
  split <;> simp
theorem itB_size (i : Int) : (itB i).size ≤ 2 := dd_len _
/-- Is it a number of one or two digits? -/
def I99 (i : Int) : Prop := 0 ≤ i ∧ i < 100
theorem itoa_small (i : Int) (h : I99 i) (w : World) :
    Calls Tryz.prog 10 #[.int .i64 i] w fun e w' => e = .returned (.string (itB i)) ∧ w' = w := by
  obtain ⟨k, rfl⟩ := Int.eq_ofNat_of_zero_le h.1
  have hk : k < 100 := by have := h.2; omega
  refine (l_strconv_Itoa_small k hk w).mono ?_
  rintro e w' ⟨rfl, rfl⟩
  rw [dd_ok hk]
  exact ⟨rfl, rfl⟩
/-- Strings with a blank between; '-' if there are none. -/
def spB (xs : List ByteArray) : ByteArray := ⟨(Lib.join (xs.map (·.data.toList)) [32]).toArray⟩
def toldB (xs : List ByteArray) : ByteArray := if xs = [] then ⟨#[45]⟩ else spB xs
theorem join_lenN (N : Nat) (sep : UInt8) : ∀ (xs : List (List UInt8)), (∀ x ∈ xs, x.length ≤ N) → (Lib.join xs [sep]).length ≤ (N + 1) * xs.length
  | [], _ => by rw [Lib.join_nil]; exact Nat.zero_le _
  | [x], h => by
    rw [Lib.join_one]
    have := h x (by simp)
    simp only [List.length_cons, List.length_nil]
    omega
  | x :: y :: r, h => by
    have ih := join_lenN N sep (y :: r) (fun z hz => h z (by simp [hz]))
    have := h x (by simp)
    rw [join_two]
    simp only [List.length_append, List.length_cons, List.length_nil] at *
    rw [Nat.mul_succ]
    omega
/-- Join with blanks, of an owned row. -/
theorem join_sp (xs : List ByteArray) (n : Nat) (hn : xs.length = n) (a : Option Addr) (c : Nat) (w : World) (h : StrS w a xs) (hcap : n ≤ c) (hN : n ≤ 100000) (hlen : ∀ x ∈ xs, x.size ≤ 1000) :
    Calls Tryz.prog 14 #[.slice a n c, .string ⟨#[32]⟩] w fun e w' => e = .returned (.string (spB xs)) ∧ Below w.heap.size w w' := by
  subst hn
  rcases h.ok with rfl | ⟨b, o, rfl, hc⟩
  · refine (l_strings_Join_none a c ⟨#[32]⟩ w).mono ?_
    rintro e w' ⟨rfl, rfl⟩
    exact ⟨rfl, Below.refl _ _⟩
  · by_cases h0 : xs = []
    · subst h0
      refine (l_strings_Join_none _ c ⟨#[32]⟩ w).mono ?_
      rintro e w' ⟨rfl, rfl⟩
      exact ⟨rfl, Below.refl _ _⟩
    · have hpos : 0 < xs.length := List.length_pos_iff.2 h0
      have hl := join_lenN 1000 32 (xs.map (·.data.toList)) (fun x hx => by
        obtain ⟨s, hs, rfl⟩ := List.mem_map.1 hx
        have := hlen s hs
        rw [Array.length_toList]
        exact this)
      rw [List.length_map] at hl
      refine l_strings_Join b o c xs ⟨#[32]⟩ w (fun j x hj => ?_) (World.block_lt_of_cell? w _ (hc 0 hpos)) (by omega) hcap (by
        show (Lib.join (xs.map (·.data.toList)) [32]).length ≤ _
        omega)
      obtain ⟨hj, hx⟩ := List.getElem?_eq_some_iff.1 hj
      rw [← hx]
      exact hc j hj
/-- A slice of events lies in a block of events. -/
def EvTy (w : World) (a : Option Addr) (l : List Ev) : Prop := l = [] ∨ ∃ g o cs, a = some ⟨g, o, none⟩ ∧ Has w g cs 55
theorem EvTy.below {w w' : World} {a : Option Addr} {l : List Ev} (h : EvTy w a l) (k : Below w.heap.size w w') : EvTy w' a l := by
  rcases h with h | ⟨g, o, cs, h1, h2⟩
  · exact .inl h
  · exact .inr ⟨g, o, cs, h1, h2.below k h2.lt⟩
theorem evTy_own {w : World} {base : Nat} {a : Option Addr} {c n : Nat} {l : List Ev} (h : w.ownsRow base 55 3 (.slice a n c) n (evL l)) (hn : l.length = n) : EvTy w a l := by
  rcases h.2 with ⟨h1, h0⟩ | ⟨g, cap, cur, h1, _, hh, _⟩
  · exact .inl (List.eq_nil_of_length_eq_zero (hn.trans h0))
  · cases h1
    exact .inr ⟨g, 0, cur, rfl, ⟨hh⟩⟩
abbrev refT : TypeId := 34
/-- What 'must' throws. -/
def thrown (e : Int) : List PanicEntry := [{ v := .iface refT (.agg #[.int .i64 e]), recovered := false }]
theorem must_ok (w : World) : Calls Tryz.prog 26 #[.int .i64 0] w fun r w' => r = .returned (.tuple #[]) ∧ w' = w := by
  go_enter Tryz.func26, Tryz.ntmps26
  go_wp2
  exact bodyPost_end (results_none rfl _ _ _) rfl ⟨rfl, rfl⟩
theorem must_no (e : Int) (he : (e == 0) = false) (w : World) : Calls Tryz.prog 26 #[.int .i64 e] w fun r w' => r = .panicked (thrown e) ∧ w' = w := by
  have he2 : (e != 0) = true := by rw [bne, he]; rfl
  go_enter Tryz.func26, Tryz.ntmps26
  go_wp2
  exact ⟨rfl, rfl, rfl⟩
end Go.Proofs.YtfjbnhacfficnaaGreatDoor

/- Contracts: what is told of all races, rising, each once: race.sorted at both of its closures, Seconds, Vars. -/
import Derived.Test.YtmeidjhojanogaaShl
import Derived.Test.YtmeidjhojanogaaRacA
import Derived.Test.YtmeidjhojanogaaSrt
import Derived.Lib.OwnBridge
namespace Go.Proofs.Ytmeidjhojanogaa
open Go.RowKit

def encN : Int → Value := Value.int .i64
theorem below_grow {B : Nat} {w0 w : World} (h : Below B w0 w) (hB : B ≤ w.heap.size) (os : Array Obj) : Below B w0 (Sort.grow w os) :=
  ⟨h.os, h.tape, h.output, by have := h.size; simp; omega, fun k hk => by rw [Sort.heap_grow_old w os (by omega)]; exact h.block k hk⟩
/-- What such a function yields. -/
def SecPost (Q : List Int) (w : World) (r : Ending) (w' : World) : Prop := ∃ a c, r = .returned (.tuple #[.slice a Q.length c, .int .i64 0]) ∧ IntS w' a Q ∧ Below w.heap.size w w'
/-- .. at a trace that is not valid. -/
def SecNo (l : List Ev) (w : World) (r : Ending) (w' : World) : Prop := r = .returned (.tuple #[.slice none 0 0, .int .i64 (played l).2.2]) ∧ Below w.heap.size w w'
/-- Sorted, each once: of an own row. -/
theorem secRow {w : World} {base : Nat} {e : TypeId} {v : Value} {M : List Int} (h : w.ownsRow base e 1 v M.length (M.map encN)) (hM : M ≠ []) (_hb : M.length < 4611686018427387904) :
    ∃ g cap, v = .slice (some ⟨g, 0, none⟩) M.length cap ∧ base ≤ g ∧ g < w.heap.size ∧ Sort.Holds encN w g 0 M.toArray ∧
      ∀ n os, (Sort.grow (Sort.putRow encN (Sort.ahead w n) g 0 (M.mergeSort fun x y => decide (x ≤ y)).toArray) os).ownsRow base e 1 (.slice (some ⟨g, 0, none⟩) M.length cap) M.length ((M.mergeSort fun x y => decide (x ≤ y)).map encN) ∧
        Below base w (Sort.grow (Sort.putRow encN (Sort.ahead w n) g 0 (M.mergeSort fun x y => decide (x ≤ y)).toArray) os) := by
  have hv : v ≠ .slice none 0 0 := fun hv => by
    rcases h.2 with ⟨_, h0⟩ | ⟨g, cap, cur, e, _⟩
    · exact hM (List.eq_nil_of_length_eq_zero h0)
    · rw [hv] at e; cases e
  obtain ⟨g, cap, rfl, h1, h2, h3, h4, h5, h6⟩ := Lib.holds_of_ownsRow h hv
  refine ⟨g, cap, rfl, h1, h2, h6, fun n os => ?_⟩
  have hl : (M.mergeSort fun x y => decide (x ≤ y)).length = M.length := List.length_mergeSort _
  have h7 := Lib.ownsRow_putRow (q := n) h hl (Nat.le_refl _)
  rw [List.take_of_length_le (by omega)] at h7
  refine ⟨own_below h7 (below_grow (Below.refl _ _) (Nat.le_refl _) os), below_grow ?_ (by simp; omega) os⟩
  exact Lib.below_putRow (Below.refl _ _) h1
theorem compRow {w : World} {base : Nat} {e : TypeId} {g cap : Nat} {S : List Int} (h : w.ownsRow base e 1 (.slice (some ⟨g, 0, none⟩) S.length cap) S.length (S.map encN)) (hb : S.length < 4611686018427387904) :
    Sort.Holds encN w g 0 S.toArray ∧ S.length ≤ cap ∧
      ∀ q, ∃ a c, (Value.slice (some ⟨g, 0, none⟩) (Lib.compact S).length cap) = .slice a (Lib.compact S).length c ∧ IntS (Sort.putRow encN (Sort.ahead w q) g 0 (Lib.compact S ++ List.replicate (S.length - (Lib.compact S).length) 0).toArray) a (Lib.compact S) ∧
        Below base w (Sort.putRow encN (Sort.ahead w q) g 0 (Lib.compact S ++ List.replicate (S.length - (Lib.compact S).length) 0).toArray) := by
  obtain ⟨g', cap', e1, h1, h2, h3, h4, h5, h6⟩ := Lib.holds_of_ownsRow h (fun e => by cases e)
  cases e1
  refine ⟨h6, h3, fun q => ?_⟩
  have hc : (Lib.compact S).length ≤ S.length := comp_len S.toArray S.length
  have h7 := Lib.ownsRow_putRow (q := q) (ys := Lib.compact S ++ List.replicate (S.length - (Lib.compact S).length) 0) h (by simp; omega) hc
  rw [List.take_append_of_le_length (Nat.le_refl _), List.take_length] at h7
  obtain ⟨a, c, e2, h8, _⟩ := intS_own h7 (by omega)
  exact ⟨a, c, e2, h8, Lib.below_putRow (Below.refl _ _) h1⟩

theorem selB_any (r : Rc) (w : World) : Calls Try.prog 29 #[rcV r] w fun e w' => e = .returned (.int .i64 r.b) ∧ Below w.heap.size w w' := by
  have hN := Has.new w (rcC r) 57
  have hb := (Below.refl w.heap.size w).alloc (Nat.le_refl _) (.cells (rcC r) 57)
  go_enter Try.func29, Try.ntmps29
  go_upto_region 1 with fail
  have n0 : (w.alloc (.cells (rcC r) 57)).cell? ⟨w.heap.size, 1, none⟩ = some (.int .i64 r.b) := hN.cell rfl
  generalize w.alloc (.cells (rcC r) 57) = w1 at *
  go_wp2
  go_ret
  exact ⟨rfl, hb⟩
set_option maxRecDepth 100000 in
set_option maxHeartbeats 4000000 in
theorem sortedselB_ok (l : List Ev) (n : Nat) (hn : l.length = n) (a : Option Addr) (c : Nat) (w : World) (h : EvS w a l) (he : (played l).2.2 = 0) :
    Calls Try.prog 28 #[.slice a n c, .func (.func 29) #[] #[]] w (SecPost (secL ((raceL l).map Rc.b)) w) := by
  subst hn
  have hl80 := (played_evs he).1
  have hlen : (raceL l).length ≤ 6400 := by
    have h1 := allR_len l l.length l.length
    have h2 : l.length * l.length ≤ 80 * 80 := Nat.mul_le_mul hl80 hl80
    unfold raceL
    omega
  obtain ⟨i0, hi, hz0, hz1, hz2⟩ := info_parts infoI
  have HE := Lib.hid he
  have hlen2 : ((raceL l).map Rc.b).length = (raceL l).length := List.length_map _
  obtain ⟨M, hM⟩ : ∃ M, (raceL l).map Rc.b = M := ⟨_, rfl⟩
  have HM := Lib.hid hM
  rw [hM] at hlen2 ⊢
  have HL := Lib.hid hlen2
  clear hM hlen2 he
  go_enter Try.func28, Try.ntmps28
  go_wp2_with fail
  refine (all_ok l a c _ h HE.out).mono ?_
  rintro r w1 ⟨v, rfl, hown, hb⟩
  obtain ⟨a2, c2, rfl, hS⟩ := rcS_own hown (by omega)
  clear hown h HE
  generalize raceL l = L at *
  go_wp2
  have hI := Below.refl w1.heap.size w1
  go_loopw [8, 21] (fun o i wr => ∃ k : Nat, k ≤ L.length ∧ i = .int .i64 k ∧ wr.ownsRow w1.heap.size 3 1 o k ((M.map encN).take k) ∧ Below w1.heap.size w1 wr) (fun _ i _ => L.length - (intOf i).toNat)
  case atStart => exact ⟨0, Nat.zero_le _, rfl, (by rw [List.take_zero]; exact World.ownsRow_nil _ _ _ _), hI⟩
  case round =>
    clear hI
    obtain ⟨k, hk, rfl, hO, hb1⟩ := hrel
    by_cases hlt : k < L.length
    · obtain ⟨g, o, rfl, d0, d1, d2, d3⟩ := (hS.below hb1).at hlt
      have hMk : M[k]? = some (L[k].b) := by rw [← HM.out]; simp [hlt]
      generalize L[k] = x at *
      have hT := Has.new wr (rcC x) 57
      have hb3 := hb1.alloc hb1.size (.cells (rcC x) 57)
      have hO2 := hO.alloc (.cells (rcC x) 57)
      have hsn : (M.map encN).take (k + 1) = (M.map encN).take k ++ [.int .i64 x.b] := by
        rw [List.take_add_one, List.getElem?_map, hMk]; rfl
      have HSN := Lib.hid hsn
      have k0 : (0 : Int) ≤ k := by omega
      have k1 : (k : Int) < L.length := by omega
      clear hsn hMk hO hb1
      go_upto_region 8 with fail
      clear d0 d1 d2 d3
      generalize wr.alloc (.cells (rcC x) 57) = w2 at *
      obtain ⟨x0, x1, x2, x3⟩ : w2.cell? ⟨wr.heap.size, 0, none⟩ = some (.int .i64 x.a) ∧ w2.cell? ⟨wr.heap.size, 1, none⟩ = some (.int .i64 x.b) ∧ w2.cell? ⟨wr.heap.size, 2, none⟩ = some (.int .i64 x.v) ∧ w2.cell? ⟨wr.heap.size, 3, none⟩ = some (.int .i64 x.k) := ⟨hT.cell rfl, hT.cell rfl, hT.cell rfl, hT.cell rfl⟩
      go_wp2_with fail
      refine (selB_any x _).mono ?_
      rintro r w3 ⟨rfl, hk3⟩
      have hb5 := hb3.trans (hk3.mono hb3.size)
      have hO3 := own_below hO2 hk3
      clear x0 x1 x2 x3 hT hb3 hO2 hk3
      have hN := Has.new w3 #[.int .i64 x.b] 3
      have hb7 := hb5.alloc hb5.size (.cells #[.int .i64 x.b] 3)
      go_wp2_with (at_builtin; refine app_list _ rfl (.tmp 25) (.tmp 29) 49 rfl Try.underlying49 hi hz0 hz1 hz2 rfl (by decide) rfl (hO3.alloc _) rfl (news := [.int .i64 x.b]) ⟨rfl, .inr ⟨_, rfl, fun j u hu => hN.cell_add (by simpa using hu)⟩⟩ (by intro q hq; simp at hq; subst hq; rfl) (by unfold maxLen; omega) (by omega) (by have := hb7.size; simp at this ⊢; omega) ?_)
      intro v6 w6 hAp
      have hb8 := hAp.below (hO3.alloc _) hb7 (by have := hb7.size; simp at this ⊢; omega)
      have ho6 : w6.ownsRow w1.heap.size 3 1 v6 (k + 1) ((M.map encN).take (k + 1)) := by
        rw [HSN.out]; exact hAp.own
      clear hAp hO3 hN hb7 hb5
      go_wp2
      go_roundw
      case rel => exact ⟨k + 1, by omega, by go_num, ho6, hb8⟩
      case measure => (simp [intOf]; try omega)
    · obtain rfl : k = L.length := by omega
      rw [List.take_of_length_le (by rw [List.length_map]; have := HL.out; omega)] at hO
      clear hlt hk HM hS
      by_cases h0 : L.length = 0
      · have hMn : M = [] := List.eq_nil_of_length_eq_zero (by have := HL.out; omega)
        subst hMn
        rw [h0] at hO ⊢
        have hex : ∃ p cap, u8 = .slice p 0 cap := by
          rcases hO.2 with ⟨rfl, _⟩ | ⟨g, cap, cur, rfl, _⟩
          · exact ⟨_, _, rfl⟩
          · exact ⟨_, _, rfl⟩
        obtain ⟨p, cap, rfl⟩ := hex
        have hq : secL [] = [] := secL_nil.2 rfl
        have HQ := Lib.hid hq
        clear hq hO
        go_wp2_with fail
        refine (l_slices_Sort_int_none p cap _).mono ?_
        rintro r w4 ⟨rfl, rfl⟩
        go_wp2_with fail
        refine (l_slices_Compact_int_empty p cap _).mono ?_
        rintro r w5 ⟨rfl, rfl⟩
        have hb9 := hb.trans (hb1.mono hb.size)
        go_wp2
        go_ret2
        unfold SecPost
        rw [HQ.out]
        exact ⟨_, _, rfl, ⟨by simp, .inl rfl⟩, hb9⟩
      · rw [← HL.out] at hO
        obtain ⟨g, cap, rfl, h1, h2, hH, hnx⟩ := secRow hO (fun e => by subst e; have := HL.out; simp at this; omega) (by have := HL.out; omega)
        have HNX := Lib.hid hnx
        have hMl : M.length < 4611686018427387904 := by have := HL.out; omega
        clear hnx hO
        go_wp2_with fail
        refine (l_slices_Sort_int g 0 cap M _ hH h2 hMl).mono ?_
        rintro r w4 ⟨rfl, n, os, hw4⟩
        have hnx := HNX.out n os
        rw [show encN = Value.int .i64 from rfl] at hnx
        rw [← hw4] at hnx
        obtain ⟨ho4, hb4⟩ := hnx
        clear HNX hw4 hH
        have hsl : (M.mergeSort fun x y => decide (x ≤ y)).length = M.length := List.length_mergeSort _
        have hQ : secL M = Lib.compact (M.mergeSort fun x y => decide (x ≤ y)) := rfl
        have HQ := Lib.hid hQ
        clear hQ
        generalize (M.mergeSort fun x y => decide (x ≤ y)) = S at *
        rw [← hsl] at ho4 ⊢
        obtain ⟨hH, hcap, hcm⟩ := compRow ho4 (by omega)
        have HCM := Lib.hid hcm
        have hsz : S.length ≤ 9223372036854775807 := by omega
        clear hcm ho4 hsl
        go_wp2_with fail
        refine (l_slices_Compact_int g 0 cap S _ hH hsz hcap).mono ?_
        rintro r w5 ⟨rfl, q, hw5⟩
        obtain ⟨a5, c5, e5, hI5, hb5⟩ := HCM.out q
        rw [show encN = Value.int .i64 from rfl] at hI5 hb5
        rw [← hw5] at hI5 hb5
        rw [e5]
        have hb9 := hb.trans (((hb1.trans hb4).trans hb5).mono hb.size)
        clear hw5 e5 HCM hH
        go_wp2
        go_ret2
        unfold SecPost
        rw [HQ.out]
        exact ⟨_, _, rfl, hI5, hb9⟩
theorem sortedselB_no (l : List Ev) (n : Nat) (hn : l.length = n) (a : Option Addr) (c : Nat) (w : World) (h : EvS w a l) (he : (played l).2.2 ≠ 0) :
    Calls Try.prog 28 #[.slice a n c, .func (.func 29) #[] #[]] w (SecNo l w) := by
  subst hn
  have e2 : ((played l).2.2 != 0) = true := by simpa using he
  go_enter Try.func28, Try.ntmps28
  go_wp2_with fail
  refine (all_err l a c _ h he).mono ?_
  rintro r w1 ⟨rfl, hb⟩
  go_wp2
  go_ret2
  exact ⟨rfl, hb⟩
theorem seconds_ok (l : List Ev) (n : Nat) (hn : l.length = n) (a : Option Addr) (c : Nat) (w : World) (h : EvS w a l) (he : (played l).2.2 = 0) :
    Calls Try.prog 24 #[.slice a n c] w (SecPost (secL ((raceL l).map Rc.b)) w) := by
  have HC := Lib.hid (sortedselB_ok l n hn a c w h he)
  generalize secL ((raceL l).map Rc.b) = Q at *
  clear h he hn
  go_enter Try.func24, Try.ntmps24
  go_wp2_with fail
  refine HC.out.mono ?_
  rintro r w1 ⟨a1, c1, rfl, hI, hb⟩
  clear HC
  go_wp2
  go_ret2
  exact ⟨_, _, rfl, hI, hb⟩
theorem seconds_no (l : List Ev) (n : Nat) (hn : l.length = n) (a : Option Addr) (c : Nat) (w : World) (h : EvS w a l) (he : (played l).2.2 ≠ 0) :
    Calls Try.prog 24 #[.slice a n c] w (SecNo l w) := by
  have HC := Lib.hid (sortedselB_no l n hn a c w h he)
  clear h he hn
  go_enter Try.func24, Try.ntmps24
  go_wp2_with fail
  refine HC.out.mono ?_
  rintro r w1 ⟨rfl, hb⟩
  clear HC
  go_wp2
  go_ret2
  exact ⟨rfl, hb⟩

end Go.Proofs.Ytmeidjhojanogaa

/- Contracts of package stamp: takes whole, Stamps. -/
import Derived.Test.YtfjbnhacfficnaaGreatDoorStmB
import Derived.Test.YtfjbnhacfficnaaGreatDoorStmC
import Derived.Test.YtfjbnhacfficnaaGreatDoorZEB
import Derived.Test.YtfjbnhacfficnaaGreatDoorZB
namespace Go.Proofs.YtfjbnhacfficnaaGreatDoor
open Go.RowKit

theorem ktakes_any (s : Kp) (e : Ev) (b : Nat) (w : World) (h : Has w b (sKpC s) 135) (hB : SKB s) (hE : isEv e = true) :
    Calls Tryz.prog 66 #[.pointer (some ⟨b, 0, none⟩), evV e] w fun r w' => r = .returned (clkV (kMine s e)) ∧ SKTook w w' b (kNext s e) := by
  obtain ⟨K, t, o⟩ := e
  obtain ⟨h1, h2, h3, h4⟩ := isEv_iff.1 hE
  simp only at h1 h2 h3 h4
  have hp := manyOf_pos (k := K) (by omega)
  obtain ⟨t, rfl⟩ := Int.eq_ofNat_of_zero_le h1
  obtain ⟨o, rfl⟩ := Int.eq_ofNat_of_zero_le h3
  have ht : t < 6 := by omega
  rcases hp with rfl | rfl | rfl | rfl | rfl | rfl | rfl | rfl <;> simp [manyOf] at h4
  · exact ktakes1 s t o b w h hB ht (by omega)
  · exact ktakes2 s t o b w h hB ht (by omega)
  · exact ktakes3 s t o b w h hB ht (by omega)
  · exact ktakes4 s t o b w h hB ht (by omega)
  · exact ktakes5 s t o b w h hB ht (by omega)
  · exact ktakes6 s t o b w h hB ht (by omega)
  · exact ktakes7 s t o b w h hB ht (by omega)
  · exact ktakes8 s t o b w h hB ht (by omega)

/-- The numbers of the keeper along a valid trace. -/
theorem kb_at {l : List Ev} (h : (played l).2.2 = 0) {j : Nat} (hj : j ≤ l.length) : SKB (kAt l j) := by
  have hl := (played_evs h).1
  have hI := kinv h j hj
  have hb : ∀ i, i < j → ∀ τ, 0 ≤ stampOf l i τ ∧ stampOf l i τ ≤ 1000 := by
    intro i hi τ
    refine ⟨hI.nn i hi τ, ?_⟩
    have h1 := stamp_many h (show i < l.length by omega) τ
    have h2 := cntT_le l τ (i + 1)
    omega
  have ht : ∀ (P : Nat → Prop) (τ : Nat) (m : Int), Top j P (stampOf l) τ m → 0 ≤ m ∧ m ≤ 1000 := by
    intro P τ m hT
    rcases hT.is with h0 | ⟨i, h1, _, h3⟩
    · omega
    · rw [h3]; exact hb i h1 τ
  exact ⟨fun a τ => ht _ _ _ (hI.th a τ), fun a τ => ht _ _ _ (hI.lk a τ), fun a τ => ht _ _ _ (hI.vo a τ)⟩

/-- The cells of a list of clocks. -/
def ckL (L : List (Nat → Int)) : List Value := L.flatMap fun f => (clkC f).toList
theorem ckL_append (l m : List (Nat → Int)) : ckL (l ++ m) = ckL l ++ ckL m := by simp [ckL]
theorem ckL_length (l : List (Nat → Int)) : (ckL l).length = l.length * 6 := by
  induction l with
  | nil => rfl
  | cons e l ih =>
    have hc : ckL (e :: l) = (clkC e).toList ++ ckL l := rfl
    rw [hc, List.length_append, ih]; simp; omega
theorem ckL_one (l : List (Nat → Int)) : ∀ u ∈ ckL l, u.oneCell' = true := by
  intro u hu
  simp only [ckL, List.mem_flatMap] at hu
  obtain ⟨e, _, he⟩ := hu
  simp at he
  rcases he with rfl | rfl | rfl | rfl | rfl | rfl <;> rfl
theorem ckL_get (l : List (Nat → Int)) : ∀ (i j : Nat) (h : i < l.length), j < 6 → (ckL l)[i * 6 + j]? = some (.int .i64 (l[i] j)) := by
  induction l with
  | nil => intro i j h; simp at h
  | cons e l ih =>
    intro i j h hj
    have hc : ckL (e :: l) = (clkC e).toList ++ ckL l := rfl
    cases i with
    | zero =>
      rw [hc, List.getElem?_append_left (by simp; omega), Array.getElem?_toList, Nat.zero_mul, Nat.zero_add, clkC_get e j hj]
      rfl
    | succ i =>
      rw [hc, List.getElem?_append_right (by simp; omega), show (i + 1) * 6 + j - (clkC e).toList.length = i * 6 + j by simp; omega, ih i j (by simpa using h) hj]
      simp
theorem infoC : (Tryz.prog.info? 87).map (fun i => (i.zero, i.size, i.bytes)) = some (some (clkV fun _ => 0), 6, 48) := by kernel_rfl

/-- A slice of clocks: its elements. -/
structure CkS (w : World) (a : Option Addr) (L : List (Nat → Int)) : Prop where
  ok : L = [] ∨ ∃ b, a = some ⟨b, 0, none⟩ ∧ ∀ i (h : i < L.length) j, j < 6 → w.cell? ⟨b, i * 6 + j, none⟩ = some (.int .i64 (L[i] j))
theorem CkS.below {w w' : World} {a : Option Addr} {L : List (Nat → Int)} (h : CkS w a L) (k : Below w.heap.size w w') : CkS w' a L := by
  rcases h.ok with h0 | ⟨b, ha, hc⟩
  · exact ⟨.inl h0⟩
  · exact ⟨.inr ⟨b, ha, fun i hi j hj => (k.cell (World.block_lt_of_cell? w _ (hc i hi j hj))).trans (hc i hi j hj)⟩⟩
theorem ckS_own {w : World} {base : Nat} {e : TypeId} {v : Value} {L : List (Nat → Int)} (h : w.ownsRow base e 6 v L.length (ckL L)) : ∃ a c, v = .slice a L.length c ∧ CkS w a L ∧ L.length ≤ c := by
  rcases h.2 with ⟨rfl, hn⟩ | ⟨g, cap, cur, rfl, hg, hh, hcap, _⟩
  · exact ⟨none, 0, by rw [hn], ⟨.inl (List.eq_nil_of_length_eq_zero hn)⟩, by omega⟩
  · refine ⟨_, _, rfl, ⟨.inr ⟨g, rfl, fun i hi j hj => ?_⟩⟩, hcap⟩
    have hc := h.cells (g := g) rfl _ _ (ckL_get L i j hi hj)
    have hadd : ∀ n, (⟨g, 0, none⟩ : Addr).add n = ⟨g, 0 + n, none⟩ := by intro n; unfold Addr.add; split <;> simp_all
    rw [hadd, Nat.zero_add] at hc
    exact hc
/-- All clocks of a trace. -/
def stampL (l : List Ev) (n : Nat) : List (Nat → Int) := (List.range n).map (stampOf l)
theorem stampL_succ (l : List Ev) (n : Nat) : stampL l (n + 1) = stampL l n ++ [stampOf l n] := by simp [stampL, List.range_succ]
theorem stampL_length (l : List Ev) (n : Nat) : (stampL l n).length = n := by simp [stampL]

theorem zero_keeper (w : World) : (zeroValue 135).run Tryz.prog w = .ok (.agg (sKpC Kp.first)) w := by kernel_rfl
def StampPost (L : List (Nat → Int)) (w : World) (r : Ending) (w' : World) : Prop := ∃ v, r = .returned (.tuple #[v, .int .i64 0]) ∧ w'.ownsRow w.heap.size 87 6 v L.length (ckL L) ∧ Below w.heap.size w w'

theorem stamps_err (l : List Ev) (a : Option Addr) (c : Nat) (w : World) (h : EvS w a l) (he : (played l).2.2 ≠ 0) :
    Calls Tryz.prog 44 #[.slice a l.length c] w fun r w' => r = .returned (.tuple #[.slice none 0 0, .int .i64 (played l).2.2]) ∧ Below w.heap.size w w' := by
  have e2 : ((played l).2.2 != 0) = true := by simpa using he
  go_enter Tryz.func44, Tryz.ntmps44
  go_wp2_with fail
  refine (check_any l a c _ h).mono ?_
  rintro r w1 ⟨rfl, hb⟩
  go_wp2
  go_ret2
  exact ⟨rfl, hb⟩

set_option maxRecDepth 100000 in
set_option maxHeartbeats 8000000 in
theorem stamps_ok (l : List Ev) (a : Option Addr) (c : Nat) (w : World) (h : EvS w a l) (he : (played l).2.2 = 0) :
    Calls Tryz.prog 44 #[.slice a l.length c] w (StampPost (stampL l l.length) w) := by
  obtain ⟨i0, hi, hz0, hz1, hz2⟩ := info_parts infoC
  obtain ⟨hl80, _⟩ := played_evs he
  have HE := Lib.hid he
  clear he
  have hzk := zero_keeper
  have HV := Lib.hid (fun i (hi : i < l.length) => (err0 ((ok_at HE.out).1 i hi)).1)
  go_enter Tryz.func44, Tryz.ntmps44
  go_wp2_with fail
  refine (check_any l a c _ h).mono ?_
  rintro r w1 ⟨rfl, hb⟩
  rw [HE.out]
  replace h := h.below hb
  have hK : Has (w1.alloc (.cells (sKpC Kp.first) 135)) w1.heap.size (sKpC Kp.first) 135 := Has.new w1 (sKpC Kp.first) 135
  have hb1 := (Below.refl w1.heap.size w1).alloc (Nat.le_refl _) (.cells (sKpC Kp.first) 135)
  have hsz := hb.size
  go_wp2_with fail
  go_loopw [7, 22] (fun v i wr => ∃ k : Nat, k ≤ l.length ∧ i = .int .i64 k ∧ Has wr w1.heap.size (sKpC (kAt l k)) 135 ∧ wr.ownsRow (w1.heap.size + 1) 87 6 v (stampL l k).length (ckL (stampL l k)) ∧ Below w1.heap.size w1 wr) (fun _ i _ => l.length - (intOf i).toNat)
  case atStart => exact ⟨0, Nat.zero_le _, rfl, hK, World.ownsRow_nil _ _ _ _, hb1⟩
  case round =>
    clear hK hb1
    obtain ⟨k, hk, rfl, hK, hown, hb1⟩ := hrel
    by_cases hlt : k < l.length
    · obtain ⟨b', o', rfl, d0, d1, d2⟩ := (h.below hb1).at hlt
      have hx : evAt l k = l[k] := by simp [evAt, hlt]
      have hE := HV.out k hlt
      have hB := kb_at HE.out hk
      rw [hx] at hE
      have HX := Lib.hid hx
      clear hx
      generalize l[k] = x at *
      have hKx := hK.alloc (.cells (evC x) 55)
      have hox := hown.alloc (.cells (evC x) 55)
      have hbx := hb1.alloc hb1.size (.cells (evC x) 55)
      have hKl := hK.lt
      go_wp2_with fail
      refine (ktakes_any (kAt l k) x w1.heap.size _ hKx hB hE).mono ?_
      rintro r w3 ⟨rfl, hT⟩
      have hM : kMine (kAt l k) x = stampOf l k := by rw [← HX.out]; rfl
      have hN : kNext (kAt l k) x = kAt l (k + 1) := by rw [← HX.out]; rfl
      have hK3 := hT.has
      rw [hN] at hK3
      rw [hM]
      have hb3 := hbx.grown hT.grown hbx.size (fun j hj => by cases hj; exact Nat.le_refl _)
      have ho3 : w3.ownsRow (w1.heap.size + 1) 87 6 u7 (stampL l k).length (ckL (stampL l k)) := hox.kept hT.grown (by
        cases hv : u7.ownBlock with
        | none => simp
        | some q => have := (hox.lt q hv).1; simp; omega)
      have hs3 := hb3.size
      have hlen : (stampL l k).length ≤ 80 := by rw [stampL_length]; omega
      clear hT hox hKx hown hK hb1 hbx hB hE d0 d1 d2 hM hN
      generalize hf : stampOf l k = f at *
      have HF := Lib.hid hf
      clear hf
      have hN := Has.new w3 (clkC f) 87
      have hb4 := hb3.alloc hs3 (.cells (clkC f) 87)
      have hK4 := hK3.alloc (.cells (clkC f) 87)
      go_wp2_with (at_builtin; refine app_list _ rfl (.tmp 26) (.tmp 30) 82 rfl Tryz.underlying82 hi hz0 hz1 hz2 rfl (by decide) rfl (ho3.alloc _) rfl (news := ckL [f]) ⟨rfl, .inr ⟨_, rfl, fun j u hu => hN.cell_add (by simpa [ckL] using hu)⟩⟩ (ckL_one _) ?c3 ?c4 ?c5 ?_)
      case c3 => unfold maxLen; omega
      case c4 => omega
      case c5 => simp; omega
      intro v' w4 hA
      have hb5 := hb4.grown hA.grown (by simp; omega) (fun q hq => by have := ((ho3.alloc (.cells (clkC f) 87)).lt q hq).1; omega)
      have hK5 := hK4.grown hA.grown (by
        intro e
        have := ((ho3.alloc (.cells (clkC f) 87)).lt w1.heap.size e.symm).1
        omega)
      have ho5 : w4.ownsRow (w1.heap.size + 1) 87 6 v' (stampL l (k + 1)).length (ckL (stampL l (k + 1))) := by
        have := hA.own
        rw [stampL_succ, HF.out, ckL_append, List.length_append]
        exact this
      clear hA ho3 hN hb4 hK4 hb3 hK3 hs3
      go_wp2
      go_roundw
      case rel => exact ⟨k + 1, by omega, by go_num, hK5, ho5, hb5⟩
      case measure => (simp [intOf]; try omega)
    · obtain rfl : k = l.length := by omega
      go_wp2
      go_ret2
      exact ⟨_, rfl, own_low hown (by omega), hb.trans (hb1.mono hb.size)⟩
end Go.Proofs.YtfjbnhacfficnaaGreatDoor

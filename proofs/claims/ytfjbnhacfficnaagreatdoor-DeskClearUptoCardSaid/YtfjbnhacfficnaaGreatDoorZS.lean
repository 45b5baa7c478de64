/- Joined texts. -/
import Derived.Test.YtfjbnhacfficnaaGreatDoorDkA
import Derived.Test.YtfjbnhacfficnaaGreatDoorZEB
import Derived.Test.YtfjbnhacfficnaaGreatDoorZM
import Derived.Test.YtfjbnhacfficnaaGreatDoorDkB
import Derived.Test.YtfjbnhacfficnaaGreatDoorZF
import Derived.Test.YtfjbnhacfficnaaGreatDoorZH
import Derived.Test.YtfjbnhacfficnaaGreatDoorZJ
import Derived.Test.YtfjbnhacfficnaaGreatDoorGdF
import Derived.Test.YtfjbnhacfficnaaGreatDoorStmD
import Derived.Test.YtfjbnhacfficnaaGreatDoorZN
import Derived.Test.YtfjbnhacfficnaaGreatDoorZP
import Derived.Test.YtfjbnhacfficnaaGreatDoorZEA

/- The numbers that a desk tells are small. No program. -/
namespace Go.Proofs.YtfjbnhacfficnaaGreatDoor

theorem race_small {l : List Ev} (h80 : l.length ≤ 80) {x : Rc} (h : x ∈ raceL l) : I99 x.a ∧ I99 x.b := by
  obtain ⟨i, j, rfl, h1, h2, _⟩ := mem_raceL.1 h
  exact ⟨⟨Int.natCast_nonneg i, by show (i : Int) < 100; omega⟩, ⟨Int.natCast_nonneg j, by show (j : Int) < 100; omega⟩⟩
theorem qKind_few (l : List Ev) (m : Nat) : 0 ≤ qKind l m ∧ qKind l m ≤ 3 := by
  unfold qKind
  split
  · unfold Fc.acc
    split
    · unfold Fc.read
      split
      · exact ⟨by show (0 : Int) ≤ 0; decide, by show (0 : Int) ≤ 3; decide⟩
      · show 0 ≤ (if Fc.seen _ _ = true then (0 : Int) else 2) ∧ (if Fc.seen _ _ = true then (0 : Int) else 2) ≤ 3
        split <;> decide
    · unfold Fc.write
      split
      · exact ⟨by show (0 : Int) ≤ 0; decide, by show (0 : Int) ≤ 3; decide⟩
      · show 0 ≤ (if Fc.seen _ _ = true then (if Fc.known _ _ = true then (0 : Int) else 3) else 1) ∧ (if Fc.seen _ _ = true then (if Fc.known _ _ = true then (0 : Int) else 3) else 1) ≤ 3
        split
        · split <;> decide
        · decide
  · exact ⟨by decide, by decide⟩
theorem fKind_few (l : List Ev) (m : Nat) : 0 ≤ fKind l m ∧ fKind l m ≤ 3 := by
  unfold fKind
  (repeat' split) <;> decide
theorem qFlag_small {l : List Ev} (h80 : l.length ≤ 80) {x : Ev} (h : x ∈ qFlags l l.length) : I99 x.k ∧ I99 x.o := by
  obtain ⟨i, h1, _, rfl⟩ := mem_qFlags.1 h
  have := qKind_few l i
  exact ⟨⟨Int.natCast_nonneg i, by show (i : Int) < 100; omega⟩, ⟨this.1, by show qKind l i < 100; omega⟩⟩
theorem fFlags_small (l : List Ev) : ∀ (m : Nat) (x : Ev), x ∈ fFlags l m → (0 ≤ x.k ∧ x.k < m) ∧ I99 x.o
  | 0, x, h => by cases h
  | m + 1, x, h => by
    have hk := fKind_few l m
    have hin : x ∈ fFlags l m ∨ x = ⟨m, (evAt l m).o, fKind l m⟩ := by
      unfold fFlags at h
      split at h
      · exact .inl h
      · rcases List.mem_append.1 h with h | h
        · exact .inl h
        · exact .inr (List.mem_singleton.1 h)
    rcases hin with h | rfl
    · have := fFlags_small l m x h
      exact ⟨⟨this.1.1, by have := this.1.2; omega⟩, this.2⟩
    · exact ⟨⟨Int.natCast_nonneg m, by show (m : Int) < _; omega⟩, ⟨hk.1, by show fKind l m < 100; omega⟩⟩
theorem fFlag_small {l : List Ev} (h80 : l.length ≤ 80) {x : Ev} (h : x ∈ fFlags l l.length) : I99 x.k ∧ I99 x.o := by
  have := fFlags_small l _ x h
  exact ⟨⟨this.1.1, by have := this.1.2; omega⟩, this.2⟩
/-- Clocks within n. -/
structure DkKp (s : Kp) (n : Nat) : Prop where
  th : ∀ i j, 0 ≤ s.th i j ∧ s.th i j ≤ n
  lk : ∀ i j, 0 ≤ s.lk i j ∧ s.lk i j ≤ n
  vo : ∀ i j, 0 ≤ s.vo i j ∧ s.vo i j ≤ n
theorem dkCmax_in {f g : Nat → Int} {n : Int} (hf : ∀ i, 0 ≤ f i ∧ f i ≤ n) (hg : ∀ i, 0 ≤ g i ∧ g i ≤ n) (i : Nat) : 0 ≤ cmax f g i ∧ cmax f g i ≤ n := by
  have h1 := hf i
  have h2 := hg i
  unfold cmax
  omega
theorem dkMine_in {s : Kp} {n : Nat} (h : DkKp s n) (e : Ev) (i : Nat) : 0 ≤ kMine s e i ∧ kMine s e i ≤ ((n + 1 : Nat) : Int) := by
  have hp : ∀ i, 0 ≤ kPre s e i ∧ kPre s e i ≤ (n : Int) := by
    intro i
    unfold kPre
    split
    · exact dkCmax_in (h.th _) (h.lk _) i
    · split
      · exact dkCmax_in (h.th _) (h.vo _) i
      · split
        · exact dkCmax_in (h.th _) (h.th _) i
        · exact h.th _ i
  have := hp i
  unfold kMine tickC
  split <;> omega
theorem dkUpdC_in {F : Nat → Nat → Int} {k : Nat} {f : Nat → Int} {n : Int} (hF : ∀ i j, 0 ≤ F i j ∧ F i j ≤ n) (hf : ∀ j, 0 ≤ f j ∧ f j ≤ n) (i j : Nat) : 0 ≤ updC F k f i j ∧ updC F k f i j ≤ n := by
  unfold updC
  split
  · exact hf j
  · exact hF i j
theorem dkNext_in {s : Kp} {n : Nat} (h : DkKp s n) (e : Ev) : DkKp (kNext s e) (n + 1) := by
  have hm := dkMine_in h e
  have up : ∀ {F : Nat → Nat → Int}, (∀ i j, 0 ≤ F i j ∧ F i j ≤ (n : Int)) → ∀ i j, 0 ≤ F i j ∧ F i j ≤ ((n + 1 : Nat) : Int) := fun hF i j => ⟨(hF i j).1, by have := (hF i j).2; omega⟩
  unfold kNext
  split
  · exact ⟨dkUpdC_in (up h.th) hm, dkUpdC_in (up h.lk) (dkCmax_in (up h.lk _) hm), up h.vo⟩
  · split
    · exact ⟨dkUpdC_in (up h.th) hm, up h.lk, dkUpdC_in (up h.vo) (dkCmax_in (up h.vo _) hm)⟩
    · split
      · exact ⟨dkUpdC_in (dkUpdC_in (up h.th) hm) hm, up h.lk, up h.vo⟩
      · exact ⟨dkUpdC_in (up h.th) hm, up h.lk, up h.vo⟩
theorem dkAt_in (l : List Ev) : ∀ i, DkKp (kAt l i) i
  | 0 => ⟨fun _ _ => ⟨Int.le_refl _, Int.le_refl _⟩, fun _ _ => ⟨Int.le_refl _, Int.le_refl _⟩, fun _ _ => ⟨Int.le_refl _, Int.le_refl _⟩⟩
  | i + 1 => dkNext_in (dkAt_in l i) _
theorem stamp_small (l : List Ev) {i : Nat} (hi : i < 80) (j : Nat) : I99 (stampOf l i j) := by
  have := dkMine_in (dkAt_in l i) (evAt l i) j
  exact ⟨this.1, by show kMine _ _ _ < 100; omega⟩
theorem gdW_small (l : List Ev) : ∀ (m : Nat) (x : Ev), x ∈ (gdL l m).W → 0 ≤ x.k ∧ x.k < m
  | 0, x, h => by cases h
  | m + 1, x, h => by
    have hin : x ∈ (gdL l m).W ∨ x.k = (m : Int) := by
      have h2 : x ∈ (gStep (gdL l m) m (evAt l m)).W := h
      unfold gStep at h2
      by_cases c1 : isAcc (evAt l m) = true
      · rw [if_pos c1] at h2
        have h3 : x ∈ if gWarn (gAcc ((gdL l m).G (evAt l m).o.toNat) (evAt l m) (hStep (gdL l m).H (evAt l m) (evAt l m).t.toNat)) then (gdL l m).W ++ [⟨m, (evAt l m).o, 0⟩] else (gdL l m).W := h2
        split at h3
        · rcases List.mem_append.1 h3 with h3 | h3
          · exact .inl h3
          · right
            rw [List.mem_singleton.1 h3]
        · exact .inl h3
      · rw [if_neg c1] at h2
        exact .inl h2
    rcases hin with h | h
    · have := gdW_small l m x h
      omega
    · omega
/-- Locks of a ring are below five. -/
theorem scanF_all {P : List Int → Prop} (h0 : P []) {f : Nat → List Int} : ∀ (m k : Nat), (∀ j, k ≤ j → j < k + m → P (f j)) → P (scanF f k m)
  | 0, _, _ => h0
  | m + 1, k, h => by
    unfold scanF
    split
    · exact scanF_all h0 m (k + 1) (fun j h1 h2 => h j (by omega) (by omega))
    · exact h k (Nat.le_refl _) (by omega)
def In5 (r : List Int) : Prop := ∀ x ∈ r, 0 ≤ x ∧ x < 5
theorem in5_nil : In5 [] := fun x h => by cases h
theorem longP_in (E : Nat → Nat → Bool) : ∀ (n : Nat) (row : List Int), In5 row → In5 (longP E n row)
  | 0, row, h => by
    unfold longP
    split
    · exact h
    · exact in5_nil
  | n + 1, row, h => by
    unfold longP
    refine scanF_all in5_nil 5 0 (fun j _ hj => ?_)
    split
    · refine longP_in E n _ (fun x hx => ?_)
      rcases List.mem_append.1 hx with hx | hx
      · exact h x hx
      · rw [List.mem_singleton.1 hx]; omega
    · exact in5_nil
theorem ring_small (E : Nat → Nat → Bool) {x : Int} (h : x ∈ ringP E) : I99 x := by
  have : In5 (ringP E) := by
    unfold ringP
    refine scanF_all in5_nil 5 1 (fun m _ _ => ?_)
    unfold ringM
    refine scanF_all in5_nil 5 0 (fun k _ hk => ?_)
    refine longP_in E _ _ (fun x hx => ?_)
    rw [List.mem_singleton.1 hx]
    omega
  have := this x h
  exact ⟨this.1, by omega⟩
end Go.Proofs.YtfjbnhacfficnaaGreatDoor

/- Contracts of a desk's commands that read. Printed by a program (gen_dkc.py). -/
namespace Go.Proofs.YtfjbnhacfficnaaGreatDoor
open Go.RowKit

abbrev dkT : TypeId := 31
/-- Block d is a desk that holds the trace l. -/
structure DkI (w : World) (d : Nat) (l : List Ev) : Prop where
  may : (played l).2.2 = 0
  dk : ∃ a c, Has w d #[.slice a l.length c] dkT ∧ EvS w a l ∧ l.length ≤ c ∧ EvTy w a l
theorem DkI.small {w : World} {d : Nat} {l : List Ev} (h : DkI w d l) : l.length ≤ 80 := (played_evs h.may).1
theorem DkI.lt {w : World} {d : Nat} {l : List Ev} (h : DkI w d l) : d < w.heap.size := by
  obtain ⟨_, a, c, h1, _⟩ := h
  exact h1.lt
theorem DkI.below {w w' : World} {d : Nat} {l : List Ev} (h : DkI w d l) (k : Below w.heap.size w w') : DkI w' d l := by
  obtain ⟨h0, a, c, h1, h2, h3, h4⟩ := h
  exact ⟨h0, a, c, h1.below k h1.lt, h2.below k, h3, h4.below k⟩
theorem raceL_few (l : List Ev) (hl : l.length ≤ 80) : (raceL l).length ≤ 6400 := by
  have h1 := allR_len l l.length l.length
  have h2 : l.length * l.length ≤ 80 * 80 := Nat.mul_le_mul hl hl
  simp only [raceL]
  omega
set_option maxRecDepth 100000 in
set_option maxHeartbeats 2000000 in
theorem dk_races (l : List Ev) (d : Nat) (b : Option Addr) (n c : Nat) (w : World) (h : DkI w d l) :
    Calls Tryz.prog 15 #[.pointer (some ⟨d, 0, none⟩), .slice b n c] w fun r w' => r = .returned (.string (toldB ((raceL l).map rcB))) ∧ Below w.heap.size w w' := by
  have h80 := h.small
  obtain ⟨hp, a, cc, hD, hS, _⟩ := h
  have c0 : w.cell? ⟨d, 0, none⟩ = some (.slice a l.length cc) := hD.cell rfl
  have HT : Hid ((toldB ((raceL l).map rcB)) = (toldB ((raceL l).map rcB))) := Lib.hid rfl
  go_enter Tryz.func15, Tryz.ntmps15
  go_wp2_with fail
  refine (all_ok l a cc w hS hp).mono ?_
  rintro r w1 ⟨v, rfl, hown, hb⟩
  have hfew := raceL_few l h80
  have hex : ∃ a2 c2, v = .slice a2 (raceL l).length c2 ∧ RcS w1 a2 (raceL l) := rcS_own hown (by omega)
  obtain ⟨a2, c2, rfl, hA⟩ := hex
  go_wp2_with fail
  refine (must_ok _).mono ?_
  rintro r w2 ⟨rfl, rfl⟩
  go_wp2_with fail
  refine (toldRc_any (raceL l) a2 c2 _ hA (by omega) (fun x hx => race_small h80 hx)).mono ?_
  rintro r w3 ⟨rfl, hk⟩
  have hb3 := hb.trans (hk.mono hb.size)
  go_wp2
  go_ret
  exact ⟨rfl, hb3⟩
set_option maxRecDepth 100000 in
set_option maxHeartbeats 2000000 in
theorem dk_full (l : List Ev) (d : Nat) (b : Option Addr) (n c : Nat) (w : World) (h : DkI w d l) :
    Calls Tryz.prog 16 #[.pointer (some ⟨d, 0, none⟩), .slice b n c] w fun r w' => r = .returned (.string (toldB ((fFlags l l.length).map flB))) ∧ Below w.heap.size w w' := by
  have h80 := h.small
  obtain ⟨hp, a, cc, hD, hS, _⟩ := h
  have c0 : w.cell? ⟨d, 0, none⟩ = some (.slice a l.length cc) := hD.cell rfl
  have HT : Hid ((toldB ((fFlags l l.length).map flB)) = (toldB ((fFlags l l.length).map flB))) := Lib.hid rfl
  go_enter Tryz.func16, Tryz.ntmps16
  go_wp2_with fail
  refine (fullRun_ok l a cc w hS hp).mono ?_
  rintro r w1 ⟨v, rfl, hown, hb⟩
  have hfew := fFlags_len l l.length
  obtain ⟨a2, c2, rfl, hA, _⟩ := evS_own_cap hown (by omega)
  go_wp2_with fail
  refine (must_ok _).mono ?_
  rintro r w2 ⟨rfl, rfl⟩
  go_wp2_with fail
  refine (toldFl_any (fFlags l l.length) a2 c2 _ hA (by omega) (fun x hx => fFlag_small h80 hx)).mono ?_
  rintro r w3 ⟨rfl, hk⟩
  have hb3 := hb.trans (hk.mono hb.size)
  go_wp2
  go_ret
  exact ⟨rfl, hb3⟩
set_option maxRecDepth 100000 in
set_option maxHeartbeats 2000000 in
theorem dk_fast (l : List Ev) (d : Nat) (b : Option Addr) (n c : Nat) (w : World) (h : DkI w d l) :
    Calls Tryz.prog 17 #[.pointer (some ⟨d, 0, none⟩), .slice b n c] w fun r w' => r = .returned (.string (toldB ((qFlags l l.length).map flB))) ∧ Below w.heap.size w w' := by
  have h80 := h.small
  obtain ⟨hp, a, cc, hD, hS, _⟩ := h
  have c0 : w.cell? ⟨d, 0, none⟩ = some (.slice a l.length cc) := hD.cell rfl
  have HT : Hid ((toldB ((qFlags l l.length).map flB)) = (toldB ((qFlags l l.length).map flB))) := Lib.hid rfl
  go_enter Tryz.func17, Tryz.ntmps17
  go_wp2_with fail
  refine (fastRun_ok l a cc w hS hp).mono ?_
  rintro r w1 ⟨v, rfl, hown, hb⟩
  have hfew := qFlags_len l l.length
  obtain ⟨a2, c2, rfl, hA, _⟩ := evS_own_cap hown (by omega)
  go_wp2_with fail
  refine (must_ok _).mono ?_
  rintro r w2 ⟨rfl, rfl⟩
  go_wp2_with fail
  refine (toldFl_any (qFlags l l.length) a2 c2 _ hA (by omega) (fun x hx => qFlag_small h80 hx)).mono ?_
  rintro r w3 ⟨rfl, hk⟩
  have hb3 := hb.trans (hk.mono hb.size)
  go_wp2
  go_ret
  exact ⟨rfl, hb3⟩
set_option maxRecDepth 100000 in
set_option maxHeartbeats 2000000 in
theorem dk_warns (l : List Ev) (d : Nat) (b : Option Addr) (n c : Nat) (w : World) (h : DkI w d l) :
    Calls Tryz.prog 18 #[.pointer (some ⟨d, 0, none⟩), .slice b n c] w fun r w' => r = .returned (.string (toldB ((gWs l).map wrB))) ∧ Below w.heap.size w w' := by
  have h80 := h.small
  obtain ⟨hp, a, cc, hD, hS, _⟩ := h
  have c0 : w.cell? ⟨d, 0, none⟩ = some (.slice a l.length cc) := hD.cell rfl
  have HT : Hid ((toldB ((gWs l).map wrB)) = (toldB ((gWs l).map wrB))) := Lib.hid rfl
  go_enter Tryz.func18, Tryz.ntmps18
  go_wp2_with fail
  refine (warns_any l a cc w hS).mono ?_
  rintro r w1 ⟨a2, c2, rfl, hA, _, hb⟩
  rw [hp]
  have hfew := gWs_len l
  go_wp2_with fail
  refine (must_ok _).mono ?_
  rintro r w2 ⟨rfl, rfl⟩
  go_wp2_with fail
  refine (toldWr_any (gWs l) a2 c2 _ hA (by omega) (fun x hx => by
    have h2 : x ∈ (gdL l l.length).W := by unfold gWs at hx; rw [if_pos hp] at hx; exact hx
    have := gdW_small l _ x h2
    exact ⟨this.1, by omega⟩)).mono ?_
  rintro r w3 ⟨rfl, hk⟩
  have hb3 := hb.trans (hk.mono hb.size)
  go_wp2
  go_ret
  exact ⟨rfl, hb3⟩
theorem ringP_few (E : Nat → Nat → Bool) : (ringP E).length ≤ 100 := by
  have hs : ∀ (n : Nat) (row : List Int), row.length + n ≤ 10 → (longP E n row).length ≤ 10 := by
    intro n
    induction n with
    | zero =>
      intro row h
      unfold longP
      split
      · omega
      · simp
    | succ n ih =>
      intro row h
      unfold longP
      refine scanF_all (P := fun r => r.length ≤ 10) (by simp) 5 0 (fun j _ hj => ?_)
      split
      · exact ih _ (by simp; omega)
      · simp
  have h1 : (ringP E).length ≤ 10 := by
    unfold ringP
    refine scanF_all (P := fun r => r.length ≤ 10) (by simp) 5 1 (fun m _ hm => ?_)
    unfold ringM
    refine scanF_all (P := fun r => r.length ≤ 10) (by simp) 5 0 (fun k _ hk => ?_)
    exact hs _ _ (by simp; omega)
  omega
set_option maxRecDepth 100000 in
set_option maxHeartbeats 2000000 in
theorem dk_ring (l : List Ev) (d : Nat) (b : Option Addr) (n c : Nat) (w : World) (h : DkI w d l) :
    Calls Tryz.prog 21 #[.pointer (some ⟨d, 0, none⟩), .slice b n c] w fun r w' => r = .returned (.string (toldB ((ringP (edgeP (grOut l))).map itB))) ∧ Below w.heap.size w w' := by
  have h80 := h.small
  obtain ⟨hp, a, cc, hD, hS, _⟩ := h
  have c0 : w.cell? ⟨d, 0, none⟩ = some (.slice a l.length cc) := hD.cell rfl
  have HT : Hid ((toldB ((ringP (edgeP (grOut l))).map itB)) = (toldB ((ringP (edgeP (grOut l))).map itB))) := Lib.hid rfl
  go_enter Tryz.func21, Tryz.ntmps21
  go_wp2_with fail
  refine (graph_ok l a cc w hS hp).mono ?_
  rintro r w1 ⟨a2, c2, rfl, hA, _, hb⟩
  go_wp2_with fail
  refine (must_ok _).mono ?_
  rintro r w2 ⟨rfl, rfl⟩
  go_wp2_with fail
  refine (ringOf_ok (grOut l) a2 c2 _ hA (grOut_ok l)).mono ?_
  rintro r w4 ⟨a4, c4, rfl, hI, _, hk4⟩
  replace hb := hb.trans (hk4.mono hb.size)
  have hfew := ringP_few (edgeP (grOut l))
  go_wp2_with fail
  refine (must_ok _).mono ?_
  rintro r w2 ⟨rfl, rfl⟩
  go_wp2_with fail
  refine (toldIn_any (ringP (edgeP (grOut l))) a4 c4 _ hI (by omega) (fun x hx => ring_small _ hx)).mono ?_
  rintro r w3 ⟨rfl, hk⟩
  have hb3 := hb.trans (hk.mono hb.size)
  go_wp2
  go_ret
  exact ⟨rfl, hb3⟩
end Go.Proofs.YtfjbnhacfficnaaGreatDoor

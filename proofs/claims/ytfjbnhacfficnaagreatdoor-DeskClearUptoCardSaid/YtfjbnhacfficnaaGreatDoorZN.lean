/- Joined texts. -/
import Derived.Test.YtfjbnhacfficnaaGreatDoorZEB
import Derived.Test.YtfjbnhacfficnaaGreatDoorZC
import Derived.Test.YtfjbnhacfficnaaGreatDoorZM
import Derived.Test.YtfjbnhacfficnaaGreatDoorZB
import Derived.Deep.RegionLaw
import Derived.Deep.DeepCutAuto

/- Pairs of locks out of a trace, plain. -/
namespace Go.Proofs.YtfjbnhacfficnaaGreatDoor

/-- The locks below k that thread t has, each with o. -/
def grPart (own : Nat → Int) (t o : Int) (k : Nat) : List (Int × Int) := ((List.range k).filter fun j => own j == t + 1).map fun j : Nat => ((j : Int), o)
theorem grPart_yes {own : Nat → Int} {t o : Int} {k : Nat} (h : (own k == t + 1) = true) : grPart own t o (k + 1) = grPart own t o k ++ [((k : Int), o)] := by
  simp [grPart, List.range_succ, List.filter_append, h]
theorem grPart_no {own : Nat → Int} {t o : Int} {k : Nat} (h : (own k == t + 1) = false) : grPart own t o (k + 1) = grPart own t o k := by
  simp [grPart, List.range_succ, List.filter_append, h]
theorem grPart_len (own : Nat → Int) (t o : Int) (k : Nat) : (grPart own t o k).length ≤ k := by
  simpa [grPart] using List.length_filter_le (fun j => own j == t + 1) (List.range k)
theorem mem_grPart {own : Nat → Int} {t o : Int} {k : Nat} {x : Int × Int} : x ∈ grPart own t o k ↔ ∃ j : Nat, j < k ∧ own j = t + 1 ∧ x = ((j : Int), o) := by
  simp only [grPart, List.mem_map, List.mem_filter, List.mem_range, beq_iff_eq]
  constructor
  · rintro ⟨j, ⟨h1, h2⟩, rfl⟩; exact ⟨j, h1, h2, rfl⟩
  · rintro ⟨j, h1, h2, rfl⟩; exact ⟨j, ⟨h1, h2⟩, rfl⟩
/-- What an event adds. -/
def grStep (s : St) (e : Ev) : List (Int × Int) := if e.k = 3 then grPart s.owner e.t e.o 5 else []
/-- What the first n events add. -/
def grS (l : List Ev) : Nat → List (Int × Int)
  | 0 => []
  | i + 1 => grS l i ++ grStep (stAt l i) (evAt l i)
theorem mem_grS {l : List Ev} {x : Int × Int} : ∀ {n : Nat}, x ∈ grS l n ↔ ∃ i, i < n ∧ (evAt l i).k = 3 ∧ ∃ j : Nat, j < 5 ∧ (stAt l i).owner j = (evAt l i).t + 1 ∧ x = ((j : Int), (evAt l i).o)
  | 0 => by simp [grS]
  | n + 1 => by
    simp only [grS, List.mem_append, mem_grS (n := n)]
    constructor
    · rintro (⟨i, h1, h2⟩ | h)
      · exact ⟨i, by omega, h2⟩
      · unfold grStep at h
        split at h
        · exact ⟨n, by omega, by assumption, mem_grPart.1 h⟩
        · simp at h
    · rintro ⟨i, h1, h2, h3⟩
      by_cases e : i = n
      · subst e
        right
        unfold grStep
        rw [if_pos h2]
        exact mem_grPart.2 h3
      · exact .inl ⟨i, by omega, h2, h3⟩
theorem grS_len (l : List Ev) : ∀ n, (grS l n).length ≤ n * 5
  | 0 => by simp [grS]
  | n + 1 => by
    have h1 := grS_len l n
    have h2 : (grStep (stAt l n) (evAt l n)).length ≤ 5 := by
      unfold grStep
      split
      · exact grPart_len _ _ _ 5
      · simp
    simp only [grS, List.length_append]
    omega
/-- Out of them: each once, in order. -/
def grRow (S : List (Int × Int)) (a b : Nat) : List (Int × Int) := ((List.range b).filter fun k : Nat => inB S ((a : Int), (k : Int))).map fun k : Nat => ((a : Int), (k : Int))
def grAll (S : List (Int × Int)) (a : Nat) : List (Int × Int) := (List.range a).flatMap fun i => grRow S i 5
theorem grRow_yes {S : List (Int × Int)} {a b : Nat} (h : inB S ((a : Int), (b : Int)) = true) : grRow S a (b + 1) = grRow S a b ++ [((a : Int), (b : Int))] := by
  simp [grRow, List.range_succ, List.filter_append, h]
theorem grRow_no {S : List (Int × Int)} {a b : Nat} (h : inB S ((a : Int), (b : Int)) = false) : grRow S a (b + 1) = grRow S a b := by
  simp [grRow, List.range_succ, List.filter_append, h]
theorem grAll_succ (S : List (Int × Int)) (a : Nat) : grAll S (a + 1) = grAll S a ++ grRow S a 5 := by
  simp [grAll, List.range_succ]
theorem grRow_len (S : List (Int × Int)) (a b : Nat) : (grRow S a b).length ≤ b := by
  simpa [grRow] using List.length_filter_le (fun k : Nat => inB S ((a : Int), (k : Int))) (List.range b)
theorem grAll_len (S : List (Int × Int)) : ∀ a, (grAll S a).length ≤ a * 5
  | 0 => by simp [grAll]
  | a + 1 => by
    rw [grAll_succ, List.length_append]
    have := grAll_len S a
    have := grRow_len S a 5
    omega
def grOut (l : List Ev) : List (Int × Int) := grAll (grS l l.length) 5
theorem mem_grAll {S : List (Int × Int)} {n : Nat} {x : Int × Int} : x ∈ grAll S n ↔ ∃ a b : Nat, a < n ∧ b < 5 ∧ x = ((a : Int), (b : Int)) ∧ x ∈ S := by
  simp only [grAll, List.mem_flatMap, List.mem_range, grRow, List.mem_map, List.mem_filter, inB, decide_eq_true_eq]
  constructor
  · rintro ⟨a, h1, b, ⟨h2, h3⟩, rfl⟩; exact ⟨a, b, h1, h2, rfl, h3⟩
  · rintro ⟨a, b, h1, h2, rfl, h3⟩; exact ⟨a, h1, b, ⟨h2, h3⟩, rfl⟩
theorem grOut_ok (l : List Ev) : okPr (grOut l) := by
  intro x hx
  obtain ⟨a, b, h1, h2, rfl, _⟩ := mem_grAll.1 hx
  simp only
  omega
theorem grOut_len (l : List Ev) : (grOut l).length ≤ 25 := grAll_len _ 5
theorem stAt_take (l : List Ev) {i n : Nat} (h : i ≤ n) : stAt (l.take n) i = stAt l i := by
  unfold stAt stFrom
  rw [List.take_take, Nat.min_eq_left h]
theorem evAt_takeG (l : List Ev) {i n : Nat} (h : i < n) : evAt (l.take n) i = evAt l i := by
  unfold evAt
  rw [List.getD_eq_getElem?_getD, List.getD_eq_getElem?_getD, List.getElem?_take_of_lt h]
/-- What a trace adds stays. -/
theorem grOut_front {l : List Ev} {n : Nat} {x : Int × Int} (h : x ∈ grOut (l.take n)) : x ∈ grOut l := by
  obtain ⟨a, b, h1, h2, rfl, h3⟩ := mem_grAll.1 h
  refine mem_grAll.2 ⟨a, b, h1, h2, rfl, ?_⟩
  obtain ⟨i, h4, h5, j, h6, h7, h8⟩ := mem_grS.1 h3
  have h9 : i < n ∧ i < l.length := by simp at h4; omega
  rw [evAt_takeG l h9.1] at h5 h7 h8
  rw [stAt_take l (by omega)] at h7
  exact mem_grS.2 ⟨i, h9.2, h5, j, h6, h7, h8⟩
/-- The pairs are of int64. -/
theorem grS_i64 {l : List Ev} (h : (played l).2.2 = 0) {n : Nat} (hn : n ≤ l.length) : ∀ x ∈ grS l n, I64P x := by
  intro x hx
  obtain ⟨i, h4, h5, j, h6, h7, rfl⟩ := mem_grS.1 hx
  obtain ⟨_, _, h1, h2⟩ := ev_at h (show i < l.length by omega)
  rw [h5] at h2
  have : manyOf 3 = 5 := rfl
  exact ⟨⟨by simp only; omega, by simp only; omega⟩, ⟨by simp only; omega, by simp only; omega⟩⟩
end Go.Proofs.YtfjbnhacfficnaaGreatDoor

/- Contracts: locks (pairs of locks out of pairs), ringed. -/
namespace Go.Proofs.YtfjbnhacfficnaaGreatDoor
open Go.RowKit

def lockP (x : Int × Int) : Int × Int := (x.1 % 5, x.2 % 5)
theorem lockP_ok (p : List (Int × Int)) : okPr (p.map lockP) := by
  intro x hx
  obtain ⟨y, _, rfl⟩ := List.mem_map.1 hx
  simp only [lockP]
  omega
theorem infoPr : (Tryz.prog.info? 111).map (fun i => (i.zero, i.size, i.bytes)) = some (some (prV (0, 0)), 2, 16) := by kernel_rfl
theorem prS_ownc {w : World} {base : Nat} {e : TypeId} {v : Value} {l : List (Int × Int)} (h : w.ownsRow base e 2 v l.length (prL l)) (hb : l.length < 4611686018427387904) : ∃ a c, v = .slice a l.length c ∧ PrS w a l ∧ l.length ≤ c ∧ (a = none ∧ c = 0 ∧ l.length = 0 ∨ ∃ g, a = some ⟨g, 0, none⟩) := by
  rcases h.2 with ⟨rfl, hn⟩ | ⟨g, cap, cur, rfl, hg, hh, hnc, _⟩
  · exact ⟨none, 0, by rw [hn], ⟨hb, .inl (List.eq_nil_of_length_eq_zero hn)⟩, by omega, .inl ⟨rfl, rfl, hn⟩⟩
  · obtain ⟨a, c, h1, h2⟩ := prS_own h hb
    cases h1
    exact ⟨_, _, rfl, h2, hnc, .inr ⟨g, rfl⟩⟩
end Go.Proofs.YtfjbnhacfficnaaGreatDoor

/- Graph: contract. -/
namespace Go.Proofs.YtfjbnhacfficnaaGreatDoor
open Go.RowKit Go.Maps

theorem idx5i (f : Nat → Int) {k : Nat} (hk : k < 5) (w : World) : (Instr.index 137 (.agg #[.int .i64 (f 0), .int .i64 (f 1), .int .i64 (f 2), .int .i64 (f 3), .int .i64 (f 4)]) (.int .i64 (k : Int))).run Tryz.prog w = .ok (.int .i64 (f k)) w := by
  rcases (by omega : k = 0 ∨ k = 1 ∨ k = 2 ∨ k = 3 ∨ k = 4) with rfl | rfl | rfl | rfl | rfl <;> kernel_rfl
theorem MapP.kept' {w w' : World} {b n : Nat} {L : List (Int × Int)} (h : MapP w b n L) (k : Below w.heap.size w w') : MapP w' b n L :=
  World.ownsMap.kept h (row := none) ⟨k.os, k.tape, k.output, k.size, fun i hi _ => k.block i hi⟩ (by simp)
theorem MapP.setCell {w : World} {b n : Nat} {L : List (Int × Int)} (h : MapP w b n L) (g i : Nat) (v : Value) (hne : b ≠ g) : MapP (w.setCell ⟨g, i, none⟩ v) b n L :=
  World.ownsMap.kept h (row := some g) ⟨rfl, rfl, rfl, by simp, fun j _ hj => Below.heap_setCell _ _ _ _ (by intro e; exact hj (by rw [e]))⟩ (by simpa using hne)
theorem nxt_else {s : St} {e : Ev} (h3 : e.k ≠ 3) (h4 : e.k ≠ 4) : (nxt s e).owner = s.owner := by
  unfold nxt
  rw [if_neg h3, if_neg h4]
  split
  · rfl
  · split <;> rfl
abbrev zo5 : Array Value := #[.int .i64 0, .int .i64 0, .int .i64 0, .int .i64 0, .int .i64 0]
/-- Pairs, or none. -/
def GraphPost (L : List (Int × Int)) (w : World) (r : Ending) (w' : World) : Prop := ∃ a c, r = .returned (.tuple #[.slice a L.length c, .int .i64 0]) ∧ PrS w' a L ∧ L.length ≤ c ∧ Below w.heap.size w w'
set_option maxRecDepth 100000 in
theorem graph_err (l : List Ev) (a : Option Addr) (c : Nat) (w : World) (h : EvS w a l) (he : (played l).2.2 ≠ 0) :
    Calls Tryz.prog 46 #[.slice a l.length c] w fun r w' => r = .returned (.tuple #[.slice none 0 0, .int .i64 (played l).2.2]) ∧ Below w.heap.size w w' := by
  have he2 : ((played l).2.2 != 0) = true := by simpa using he
  go_enter Tryz.func46, Tryz.ntmps46
  go_wp2_with fail
  refine (check_any l a c _ h).mono ?_
  rintro r w1 ⟨rfl, hb⟩
  clear he
  go_wp2
  go_ret2
  exact ⟨rfl, hb⟩
set_option maxRecDepth 100000 in
set_option maxHeartbeats 8000000 in
theorem graph_ok (l : List Ev) (a : Option Addr) (c : Nat) (w : World) (h : EvS w a l) (he : (played l).2.2 = 0) :
    Calls Tryz.prog 46 #[.slice a l.length c] w (GraphPost (grOut l) w) := by
  obtain ⟨hl80, _⟩ := played_evs he
  obtain ⟨i0, hi, hz0, hz1, hz2⟩ := info_parts infoPr
  have HEV := Lib.hid (fun i (hi : i < l.length) => ev_at he hi)
  have HI64 := Lib.hid (fun n (hn : n ≤ l.length) => grS_i64 he hn)
  have hmm := @run_makeMap Tryz.prog
  have hcm := check_any l a c _ h
  rw [he] at hcm
  clear he
  go_enter Tryz.func46, Tryz.ntmps46
  go_wp2_with fail
  refine hcm.mono ?_
  clear hcm
  rintro r w1 ⟨rfl, hb⟩
  have h1 := h.below hb
  have hM := (MapP.made w1).alloc (.cells zo5 137)
  have hO : Has ((w1.alloc (.map #[] 0)).alloc (.cells zo5 137)) (w1.heap.size + 1) (rowI 5 (stAt l 0).owner) 137 := ((Has.new (w1.alloc (.map #[] 0)) zo5 137).at (by simp)).to rfl
  have hb1 := ((Below.refl w1.heap.size w1).alloc (Nat.le_refl _) (.map #[] 0)).alloc (by simp) (.cells zo5 137)
  clear h
  go_wp2
  go_loopw [27] (fun i wr => ∃ k : Nat, k ≤ l.length ∧ i = .int .i64 k ∧ MapP wr w1.heap.size (grS l k).length (grS l k) ∧ Has wr (w1.heap.size + 1) (rowI 5 (stAt l k).owner) 137 ∧ Below w1.heap.size w1 wr) (fun i _ => l.length - (intOf i).toNat)
  case atStart => exact ⟨0, Nat.zero_le _, rfl, hM, hO, hb1⟩
  case round =>
    clear hM hO hb1 hmm
    obtain ⟨k, hk, rfl, hM, hO, hb1⟩ := hrel
    by_cases hlt : k < l.length
    · obtain ⟨b, o, rfl, d0, d1, d2⟩ := (h1.below hb1).at hlt
      obtain ⟨t0, t6, o0, oM⟩ := HEV.out k hlt
      have hN : stAt l (k + 1) = nxt (stAt l k) (evAt l k) := stFrom_succ St.first l k hlt
      have hS : grS l (k + 1) = grS l k ++ grStep (stAt l k) (evAt l k) := rfl
      have hi64 := HI64.out (k + 1) hlt
      rw [evAt_lt hlt] at hN hS t0 t6 o0 oM
      rw [hS] at hi64
      have hSl := grS_len l k
      generalize l[k] = e at *
      have hMx := hM.alloc (.cells (evC e) 55)
      have hOx := hO.alloc (.cells (evC e) 55)
      have hbx := hb1.alloc hb1.size (.cells (evC e) 55)
      have hX := Has.new wr (evC e) 55
      have hol := hOx.lt
      have hxb : w1.heap.size + 1 < wr.heap.size := hO.lt
      have hob : w1.heap.size ≠ w1.heap.size + 1 := by omega
      have hobx : wr.heap.size ≠ w1.heap.size + 1 := by omega
      have hmx : wr.heap.size ≠ w1.heap.size := by omega
      have HN := Lib.hid hN
      have HS := Lib.hid hS
      have HI := Lib.hid hi64
      clear hN hS hi64 hM hO hb1
      generalize grS l k = S at *
      generalize stAt l k = s at *
      obtain ⟨K, T, O⟩ := e
      simp only at d0 d1 d2 t0 t6 o0 oM
      obtain ⟨O, rfl⟩ := Int.eq_ofNat_of_zero_le o0
      have tw : IntKind.i64.wrap (T + 1) = T + 1 := IntWalk.i64_in _ (by omega)
      by_cases hK3 : K = 3
      · subst hK3
        have hO5 : O < 5 := by have : manyOf 3 = 5 := rfl; omega
        have HS2 := Lib.hid (show grS l (k + 1) = S ++ grPart s.owner T O 5 from HS.out)
        have HO2 := Lib.hid (show (rowI 5 s.owner).setIfInBounds O (.int .i64 (T + 1)) = rowI 5 (stAt l (k + 1)).owner by
          rw [rowI_set, HN.out]
          rfl)
        have HI2 := Lib.hid (show ∀ x ∈ S ++ grPart s.owner T O 5, I64P x from HI.out)
        clear HS HN HI oM
        go_upto_region 11 with fail
        clear d0 d1 d2
        generalize wr.alloc (.cells (evC ⟨3, T, O⟩) 55) = w5 at *
        obtain ⟨x0, x1, x2⟩ : w5.cell? ⟨wr.heap.size, 0, none⟩ = some (.int .i64 3) ∧ w5.cell? ⟨wr.heap.size, 1, none⟩ = some (.int .i64 T) ∧ w5.cell? ⟨wr.heap.size, 2, none⟩ = some (.int .i64 (O : Int)) := ⟨hX.cell rfl, hX.cell rfl, hX.cell rfl⟩
        obtain ⟨c0, c1, c2, c3, c4⟩ : _ ∧ _ ∧ _ ∧ _ ∧ _ := ⟨hOx.cell (rowI_get 5 s.owner (k := 0) (by omega)), hOx.cell (rowI_get 5 s.owner (k := 1) (by omega)), hOx.cell (rowI_get 5 s.owner (k := 2) (by omega)), hOx.cell (rowI_get 5 s.owner (k := 3) (by omega)), hOx.cell (rowI_get 5 s.owner (k := 4) (by omega))⟩
        have hMx0 : MapP w5 w1.heap.size (S ++ grPart s.owner T O 0).length (S ++ grPart s.owner T O 0) := by
          rw [show grPart s.owner T O 0 = [] from rfl, List.append_nil]; exact hMx
        clear hMx
        have HIX := Lib.hid (fun k (hk : k < 5) (W : World) => idx5i s.owner hk W)
        go_wp2
        clear c0 c1 c2 c3 c4 x0 x1 x2
        generalize #[Value.int .i64 (s.owner 0), Value.int .i64 (s.owner 1), Value.int .i64 (s.owner 2), Value.int .i64 (s.owner 3), Value.int .i64 (s.owner 4)] = ownV at *
        generalize wr.heap.size = xb at *
        go_loopw [36] (fun i wv => ∃ j : Nat, j ≤ 5 ∧ i = .int .i64 j ∧ MapP wv w1.heap.size (S ++ grPart s.owner T O j).length (S ++ grPart s.owner T O j) ∧ Has wv (w1.heap.size + 1) (rowI 5 s.owner) 137 ∧ Has wv xb (evC ⟨3, T, O⟩) 55 ∧ Below w1.heap.size w1 wv) (fun i _ => 5 - (intOf i).toNat)
        case atStart => exact ⟨0, Nat.zero_le _, rfl, hMx0, hOx, hX, hbx⟩
        case round =>
          clear hMx0 hOx hX hbx
          obtain ⟨j, hj, rfl, hM, hO, hX, hb1⟩ := hrel
          by_cases hj5 : j < 5
          · have hjd : decide ((j : Int) < 5) = true := decide_eq_true (by omega)
            have hix := HIX.out j hj5
            obtain ⟨x1, x2⟩ : wr.cell? ⟨xb, 1, none⟩ = some (.int .i64 T) ∧ wr.cell? ⟨xb, 2, none⟩ = some (.int .i64 (O : Int)) := ⟨hX.cell rfl, hX.cell rfl⟩
            have hpl := grPart_len s.owner T O j
            obtain ⟨A, hA⟩ : ∃ A, s.owner j = A := ⟨_, rfl⟩
            rw [hA] at hix
            obtain ⟨q, hq⟩ : ∃ q, (A == T + 1) = q := ⟨_, rfl⟩
            cases q
            · have HP := Lib.hid (show grPart s.owner T O (j + 1) = grPart s.owner T O j from grPart_no (by rw [hA]; exact hq))
              clear hA
              go_wp2
              go_roundw
              case rel => exact ⟨j + 1, by omega, by go_num, by rw [HP.out]; exact hM, hO, hX, hb1⟩
              case measure => (simp [intOf]; try omega)
            · have HP := Lib.hid (show S ++ grPart s.owner T O (j + 1) = S ++ grPart s.owner T O j ++ [((j : Int), (O : Int))] by rw [grPart_yes (by rw [hA]; exact hq), List.append_assoc])
              have hpI : I64P ((j : Int), (O : Int)) := ⟨⟨by simp only; omega, by simp only; omega⟩, ⟨by simp only; omega, by simp only; omega⟩⟩
              have HL := Lib.hid (show (S ++ grPart s.owner T O j).length < maxLen by unfold maxLen; rw [List.length_append]; omega)
              generalize S ++ grPart s.owner T O j = S2 at *
              clear hA hpl
              go_wp2_with (first | (at_mapUpdate; refine wpList_mapUpdate_own _ rfl _ _ _ 109 rfl 111 4 pr_keyed Tryz.underlying109 _ w1.heap.size S2.length (prD S2) rfl hM HL.out _ _ (prKey ((j : Int), (O : Int))) rfl rfl (keyOf_pr ((j : Int), (O : Int)) hpI.1 hpI.2) (.lit (.bool true)) [] (plainElem_bool Tryz.underlying4 true) ?_; intro w3 hM3 hg3) | go_in)
              have hO3 := hO.grown hg3 (by simp)
              have hX3 := hX.grown hg3 (by simpa using hmx)
              have hb3 := hb1.grown hg3 hb1.size (fun j hj => by cases hj; exact Nat.le_refl _)
              go_roundw
              case rel => exact ⟨j + 1, by omega, by go_num, by rw [HP.out, List.length_append, MapP, prD_snoc]; exact hM3, hO3, hX3, hb3⟩
              case measure => (simp [intOf]; try omega)
          · obtain rfl : j = 5 := by omega
            obtain ⟨x1, x2⟩ : wr.cell? ⟨xb, 1, none⟩ = some (.int .i64 T) ∧ wr.cell? ⟨xb, 2, none⟩ = some (.int .i64 (O : Int)) := ⟨hX.cell rfl, hX.cell rfl⟩
            have hf := hO.free O
            have hg := hO.cell (rowI_get 5 s.owner hO5)
            have i0 : (0 : Int) ≤ O := by omega
            have i5 : (O : Int) < 5 := by omega
            have hO3 := (hO.setCell O (.int .i64 (T + 1))).to HO2.out
            have hM3 := MapP.setCell hM (w1.heap.size + 1) O (.int .i64 (T + 1)) hob
            have hb3 := hb1.setCell (show w1.heap.size ≤ (⟨w1.heap.size + 1, O, none⟩ : Addr).block by simp) (.int .i64 (T + 1))
            clear hO hM hb1 hX
            go_wp2
            go_roundw
            case rel => exact ⟨k + 1, by omega, by go_num, by rw [HS2.out]; exact hM3, hO3, hb3⟩
            case measure => (simp [intOf]; try omega)
      · by_cases hK4 : K = 4
        · subst hK4
          have hO5 : O < 5 := by have : manyOf 4 = 5 := rfl; omega
          have HS2 := Lib.hid (show grS l (k + 1) = S by rw [HS.out]; simp [grStep])
          have HO2 := Lib.hid (show (rowI 5 s.owner).setIfInBounds O (.int .i64 0) = rowI 5 (stAt l (k + 1)).owner by
            rw [rowI_set, HN.out]
            rfl)
          clear HS HN HI oM
          go_upto_region 9 with fail
          clear d0 d1 d2
          generalize wr.alloc (.cells (evC ⟨4, T, O⟩) 55) = w5 at *
          obtain ⟨x0, x1, x2⟩ : w5.cell? ⟨wr.heap.size, 0, none⟩ = some (.int .i64 4) ∧ w5.cell? ⟨wr.heap.size, 1, none⟩ = some (.int .i64 T) ∧ w5.cell? ⟨wr.heap.size, 2, none⟩ = some (.int .i64 (O : Int)) := ⟨hX.cell rfl, hX.cell rfl, hX.cell rfl⟩
          have hf := hOx.free O
          have hg := hOx.cell (rowI_get 5 s.owner hO5)
          have i0 : (0 : Int) ≤ O := by omega
          have i5 : (O : Int) < 5 := by omega
          have hO3 := (hOx.setCell O (.int .i64 0)).to HO2.out
          have hM3 := MapP.setCell hMx (w1.heap.size + 1) O (.int .i64 0) hob
          have hb3 := hbx.setCell (show w1.heap.size ≤ (⟨w1.heap.size + 1, O, none⟩ : Addr).block by simp) (.int .i64 0)
          go_wp2
          go_roundw
          case rel => exact ⟨k + 1, by omega, by go_num, by rw [HS2.out]; exact hM3, hO3, hb3⟩
          case measure => (simp [intOf]; try omega)
        · have k3 : (K == 3) = false := beq_eq_false_iff_ne.2 hK3
          have k4 : (K == 4) = false := beq_eq_false_iff_ne.2 hK4
          have HS2 := Lib.hid (show grS l (k + 1) = S by rw [HS.out]; simp [grStep, hK3])
          have HO2 := Lib.hid (show rowI 5 s.owner = rowI 5 (stAt l (k + 1)).owner by rw [HN.out, nxt_else hK3 hK4])
          clear HS HN HI oM hK3 hK4
          go_upto_region 9 with fail
          clear d0 d1 d2
          generalize wr.alloc (.cells (evC ⟨K, T, O⟩) 55) = w5 at *
          have x0 : w5.cell? ⟨wr.heap.size, 0, none⟩ = some (.int .i64 K) := hX.cell rfl
          have hO3 := hOx.to HO2.out
          go_wp2
          go_roundw
          case rel => exact ⟨k + 1, by omega, by go_num, by rw [HS2.out]; exact hMx, hO3, hbx⟩
          case measure => (simp [intOf]; try omega)
    · obtain rfl : k = l.length := by omega
      have hM5 := MapP.kept' hM (Below.refl _ _)
      have HS := Lib.hid (HI64.out l.length (Nat.le_refl _))
      have hb5 := hb.trans (hb1.mono hb.size)
      have hmb : w1.heap.size < wr.heap.size := hM.lt
      have HG := Lib.hid (show grOut l = grAll (grS l l.length) 5 from rfl)
      clear hM hO hb1 hb
      generalize grOut l = G at *
      generalize grS l l.length = S at *
      generalize wr = w5 at *
      have hbB := Below.refl w5.heap.size w5
      go_wp2
      go_loopw [12, 63] (fun v i wr => ∃ A : Nat, A ≤ 5 ∧ i = .int .i64 A ∧ wr.ownsRow w5.heap.size 111 2 v (grAll S A).length (prL (grAll S A)) ∧ Below w5.heap.size w5 wr) (fun _ i _ => 5 - (intOf i).toNat)
      case atStart => exact ⟨0, Nat.zero_le _, rfl, World.ownsRow_nil _ _ _ _, hbB⟩
      case round =>
        clear hbB
        obtain ⟨A, hA, rfl, hown, hbB⟩ := hrel
        by_cases hA5 : A < 5
        · have hAd : decide ((A : Int) < 5) = true := decide_eq_true (by omega)
          have HA1 := Lib.hid (grAll_succ S A)
          have hal := grAll_len S A
          have hown0 : wr.ownsRow w5.heap.size 111 2 u12 (grAll S A ++ grRow S A 0).length (prL (grAll S A ++ grRow S A 0)) := by
            rw [show grRow S A 0 = [] from rfl, List.append_nil]; exact hown
          clear hown
          generalize grAll S A = GA at *
          go_wp2
          go_loopw [12, 66] (fun v i wr => ∃ B : Nat, B ≤ 5 ∧ i = .int .i64 B ∧ wr.ownsRow w5.heap.size 111 2 v (GA ++ grRow S A B).length (prL (GA ++ grRow S A B)) ∧ Below w5.heap.size w5 wr) (fun _ i _ => 5 - (intOf i).toNat)
          case atStart => exact ⟨0, Nat.zero_le _, rfl, hown0, hbB⟩
          case round =>
            clear hown0 hbB
            obtain ⟨B, hB, rfl, hown, hbB⟩ := hrel
            by_cases hB5 : B < 5
            · have hBd : decide ((B : Int) < 5) = true := decide_eq_true (by omega)
              have hrl := grRow_len S A B
              have hX := Has.new wr (prC ((A : Int), (B : Int))) 111
              have hb3 := hbB.alloc hbB.size (.cells (prC ((A : Int), (B : Int))) 111)
              have hM3 := MapP.kept' hM5 hb3
              have hown3 := hown.alloc (.cells (prC ((A : Int), (B : Int))) 111)
              obtain ⟨q, hq⟩ : ∃ q, inB S ((A : Int), (B : Int)) = q := ⟨_, rfl⟩
              have hlk : (Instr.lookup 109 (.map (some w1.heap.size)) (.agg #[.int .i64 (A : Int), .int .i64 (B : Int)]) false).run Tryz.prog (wr.alloc (.cells (prC ((A : Int), (B : Int))) 111)) = .ok (.bool q) (wr.alloc (.cells (prC ((A : Int), (B : Int))) 111)) := by
                rw [← hq]
                exact hM3.look HS.out ((A : Int), (B : Int)) ⟨⟨by simp only; omega, by simp only; omega⟩, ⟨by simp only; omega, by simp only; omega⟩⟩
              have hs := hb3.size
              clear hown hbB hM3
              go_upto_region 29 with fail
              generalize wr.alloc (.cells (prC ((A : Int), (B : Int))) 111) = w6 at *
              obtain ⟨x0, x1⟩ : w6.cell? ⟨wr.heap.size, 0, none⟩ = some (.int .i64 (A : Int)) ∧ w6.cell? ⟨wr.heap.size, 1, none⟩ = some (.int .i64 (B : Int)) := ⟨hX.cell rfl, hX.cell rfl⟩
              cases q
              · have HR := Lib.hid (grRow_no hq)
                clear hq
                go_wp2
                go_roundw
                case rel => exact ⟨B + 1, by omega, by go_num, by rw [HR.out]; exact hown3, hb3⟩
                case measure => (simp [intOf]; try omega)
              · have HR := Lib.hid (show GA ++ grRow S A (B + 1) = GA ++ grRow S A B ++ [((A : Int), (B : Int))] by rw [grRow_yes hq, List.append_assoc])
                have HL := Lib.hid (show (GA ++ grRow S A B).length ≤ 60 by rw [List.length_append]; omega)
                clear hq hrl
                generalize GA ++ grRow S A B = G2 at *
                go_wp2_with (at_builtin; refine app_list _ rfl (.tmp 75) (.tmp 77) 88 rfl Tryz.underlying88 hi hz0 hz1 hz2 rfl (by decide) rfl (hown3.alloc _) rfl (news := prL [((A : Int), (B : Int))]) ⟨rfl, .inr ⟨_, rfl, fun j u hu => (Has.new w6 (prC ((A : Int), (B : Int))) 111).cell_add (by simpa [prL] using hu)⟩⟩ (prL_one _) (by have := HL.out; unfold maxLen; omega) (by have := HL.out; omega) (by simp; omega) ?_)
                intro v' w7 hAp
                have hb6 := hAp.below (hown3.alloc _) (hb3.alloc (by omega) _) (by simp; omega)
                have ho6 := hAp.own
                rw [← prL_append] at ho6
                clear hAp hown3 hb3 hX x0 x1 hs hlk
                go_wp2
                go_roundw
                case rel => exact ⟨B + 1, by omega, by go_num, by rw [HR.out, List.length_append]; exact ho6, hb6⟩
                case measure => (simp [intOf]; try omega)
            · obtain rfl : B = 5 := by omega
              rw [← HA1.out] at hown
              go_wp2
              go_roundw
              case rel => exact ⟨A + 1, by omega, by go_num, hown, hbB⟩
              case measure => (simp [intOf]; try omega)
        · obtain rfl : A = 5 := by omega
          have hal := grAll_len S 5
          rw [← HG.out] at hown hal
          obtain ⟨a', c', rfl, hP, hc, _⟩ := prS_ownc hown (by omega)
          have hb8 := hb5.trans (hbB.mono hb5.size)
          clear hown hbB hb5
          go_wp2
          go_ret2
          exact ⟨_, _, rfl, hP, hc, hb8⟩
end Go.Proofs.YtfjbnhacfficnaaGreatDoor

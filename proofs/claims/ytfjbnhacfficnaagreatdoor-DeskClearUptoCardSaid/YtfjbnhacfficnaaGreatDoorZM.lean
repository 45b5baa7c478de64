/- Joined texts. -/
import Derived.Test.YtfjbnhacfficnaaGreatDoorZB
import Derived.IntWalk
import Derived.Deep.DeepCutAuto

/- Contracts for rings: slices.Contains, slices.Clone of ints. -/
namespace Go.Proofs.YtfjbnhacfficnaaGreatDoor
open Go.RowKit

/-- The first place of a number (-1: none). -/
def idxL (x : Int) : List Int → Nat → Int
  | [], _ => -1
  | y :: l, i => if x = y then i else idxL x l (i + 1)
theorem idxL_has (x : Int) : ∀ (l : List Int) (i : Nat), decide (idxL x l i ≥ 0) = hasB l x
  | [], i => by simp [idxL, hasB]
  | y :: l, i => by
    by_cases e : x = y
    · have h1 : hasB (y :: l) x = true := by simp [hasB, e]
      have h2 : idxL x (y :: l) i = i := by simp only [idxL]; rw [if_pos e]
      rw [h1, h2]
      exact decide_eq_true (by omega)
    · have h2 : idxL x (y :: l) i = idxL x l (i + 1) := by simp only [idxL]; rw [if_neg e]
      rw [h2, idxL_has x l (i + 1)]
      simp [hasB, e]
set_option maxHeartbeats 1000000 in
theorem index_any (l : List Int) (x : Int) (a : Option Addr) (c : Nat) (w : World) (h : IntS w a l) :
    Calls Tryz.prog 137 #[.slice a l.length c, .int .i64 x] w fun e w' => e = .returned (.int .i64 (idxL x l 0)) ∧ w' = w := by
  have hbig := h.big
  go_enter Tryz.func137, Tryz.ntmps137
  go_wp2
  go_loopw [5, 8] (fun _ i wr => ∃ k : Nat, k ≤ l.length ∧ i = .int .i64 k ∧ Hid (idxL x l 0 = idxL x (l.drop k) k) ∧ wr = w) (fun _ i _ => l.length - (intOf i).toNat)
  case atStart => exact ⟨0, Nat.zero_le _, rfl, Lib.hid rfl, rfl⟩
  case round =>
    obtain ⟨k, hk, rfl, HC, rfl⟩ := hrel
    by_cases hlt : k < l.length
    · obtain ⟨b, o, rfl, hc⟩ := h.at hlt
      have hd : l.drop k = l[k] :: l.drop (k + 1) := List.drop_eq_getElem_cons hlt
      have k0 : (0 : Int) ≤ k := by omega
      have k1 : (k : Int) < l.length := by omega
      generalize l[k] = y at *
      by_cases hy : x = y
      · have hr : idxL x l 0 = k := by rw [HC.out, hd]; simp [idxL, hy]
        have hxy : (x == y) = true := by simpa using hy
        have HR := Lib.hid hr
        clear hr hd HC hy
        go_wp2
        go_ret
        rw [HR.out]
        exact ⟨rfl, rfl⟩
      · have hxy : (x == y) = false := by simpa using hy
        have hr : idxL x l 0 = idxL x (l.drop (k + 1)) (k + 1) := by rw [HC.out, hd]; simp [idxL, hy]
        have HR := Lib.hid hr
        clear hr hd HC hy
        go_wp2
        go_roundw
        case rel => exact ⟨k + 1, by omega, by go_num, HR, trivial⟩
        case measure => (simp [intOf]; try omega)
    · have hr : idxL x l 0 = -1 := by rw [HC.out, List.drop_eq_nil_of_le (by omega)]; rfl
      have HR := Lib.hid hr
      clear hr HC
      go_wp2
      go_ret
      rw [HR.out]
      exact ⟨rfl, rfl⟩
theorem contains_any (l : List Int) (x : Int) (a : Option Addr) (c : Nat) (w : World) (h : IntS w a l) :
    Calls Tryz.prog 123 #[.slice a l.length c, .int .i64 x] w fun e w' => e = .returned (.bool (hasB l x)) ∧ w' = w := by
  have hi := idxL_has x l 0
  go_enter Tryz.func123, Tryz.ntmps123
  go_wp2_with fail
  refine (index_any l x a c _ h).mono ?_
  rintro r w1 ⟨rfl, rfl⟩
  go_wp2
  go_ret
  exact ⟨rfl, rfl⟩
theorem nil_int (b o n c : Nat) (w : World) : (binOp .eql 46 (.slice (some ⟨b, o, none⟩) n c) (.slice none 0 0)).run Tryz.prog w = .ok (.bool false) w := by kernel_rfl
theorem nn_int (b o n c : Nat) (w : World) : (binOp .neq 46 (.slice (some ⟨b, o, none⟩) n c) (.slice none 0 0)).run Tryz.prog w = .ok (.bool true) w := by kernel_rfl
theorem nz_int (w : World) : (binOp .neq 46 (.slice none 0 0) (.slice none 0 0)).run Tryz.prog w = .ok (.bool false) w := by kernel_rfl
/-- A copy of ints. -/
def CloneI (l : List Int) (w : World) (r : Ending) (w' : World) : Prop := ∃ v, r = .returned v ∧ w'.ownsRow w.heap.size 3 1 v l.length (ints l) ∧ Below w.heap.size w w'
theorem ints_one (l : List Int) : ∀ u ∈ ints l, u.oneCell' = true := by
  intro u hu
  obtain ⟨n, _, rfl⟩ := List.mem_map.1 hu
  rfl
theorem IntS.src {w : World} {a : Option Addr} {l : List Int} (h : IntS w a l) : Src w 1 a l.length (ints l) := by
  refine ⟨by simp, ?_⟩
  rcases h.ok with rfl | ⟨b, o, ha, hc⟩
  · exact .inl ⟨rfl, rfl⟩
  · right
    refine ⟨_, ha, fun j u hu => ?_⟩
    have hj : j < l.length := by have := (List.getElem?_eq_some_iff.1 hu).1; simpa using this
    have hadd : (⟨b, o, none⟩ : Addr).add j = ⟨b, o + j, none⟩ := by unfold Addr.add; split <;> simp_all
    rw [hadd, hc j hj]
    simp [hj] at hu
    rw [hu]
set_option maxRecDepth 100000 in
set_option maxHeartbeats 1000000 in
theorem cloneInt_any (l : List Int) (a : Option Addr) (c : Nat) (w : World) (h : IntS w a l) (hl : l ≠ []) (h8 : l.length ≤ 1000) :
    Calls Tryz.prog 124 #[.slice a l.length c] w (CloneI l w) := by
  obtain ⟨i0, hi, hz0, hz1, hz2⟩ := info_parts infoI
  obtain ⟨b, o, rfl⟩ : ∃ b o, a = some ⟨b, o, none⟩ := by
    rcases h.ok with h0 | ⟨b, o, ha, _⟩
    · exact absurd h0 hl
    · exact ⟨b, o, ha⟩
  have hN := Has.new w #[] 3
  have hown := own_full (base := w.heap.size) (size := 1) (n := 0) hN (Nat.le_refl _) rfl (by decide)
  have hb := (Below.refl w.heap.size w).alloc (Nat.le_refl _) (.cells #[] 3)
  have S1 := (h.below hb).src
  have hnil := nil_int b o l.length c
  go_enter Tryz.func124, Tryz.ntmps124
  go_wp2_with (at_builtin; refine app_list _ rfl (.tmp 5) (.tmp 6) 46 rfl Tryz.underlying46 hi hz0 hz1 hz2 rfl (by decide) rfl hown rfl S1 (ints_one _) (by unfold maxLen; omega) (by omega) (by simp) ?_)
  intro v w2 hAp
  have hb2 := hAp.below hown hb (by simp)
  go_wp2
  go_ret
  refine ⟨_, rfl, ?_, hb2⟩
  have := hAp.own
  simpa using this
end Go.Proofs.YtfjbnhacfficnaaGreatDoor

/- Rings, plain: the least row that goes on to a ring; contract of longer. -/
namespace Go.Proofs.YtfjbnhacfficnaaGreatDoor
open Go.RowKit

/-- The first of f k, f (k + 1), .., that is no empty row (m of them). -/
def scanF (f : Nat → List Int) : Nat → Nat → List Int
  | _, 0 => []
  | k, m + 1 => if f k = [] then scanF f (k + 1) m else f k
def lastI (row : List Int) : Nat := (row.getLastD 0).toNat
/-- The least row that goes on to a ring of n locks more. -/
def longP (E : Nat → Nat → Bool) : Nat → List Int → List Int
  | 0, row => if E (lastI row) (row.headD 0).toNat then row else []
  | n + 1, row => scanF (fun k => if E (lastI row) k && !hasB row (k : Int) then longP E n (row ++ [(k : Int)]) else []) 0 5
/-- A graph's cells. -/
abbrev grC (E : Nat → Nat → Bool) : Array Value := (Array.range 25).map fun i => .bool (E (i / 5) (i % 5))
theorem grC_get (E : Nat → Nat → Bool) {a b : Nat} (ha : a < 5) (hb : b < 5) : (grC E)[a * 5 + b]? = some (.bool (E a b)) := by
  have h1 : (a * 5 + b) / 5 = a := by omega
  have h2 : (a * 5 + b) % 5 = b := by omega
  have h3 : a * 5 + b < 25 := by omega
  simp [grC, h1, h2, h3]
theorem idx5b (p : Nat → Bool) {k : Nat} (hk : k < 5) (w : World) : (Instr.index 188 (.agg #[.bool (p 0), .bool (p 1), .bool (p 2), .bool (p 3), .bool (p 4)]) (.int .i64 (k : Int))).run Tryz.prog w = .ok (.bool (p k)) w := by
  rcases (by omega : k = 0 ∨ k = 1 ∨ k = 2 ∨ k = 3 ∨ k = 4) with rfl | rfl | rfl | rfl | rfl <;> kernel_rfl
theorem intS_ownc {w : World} {base : Nat} {e : TypeId} {v : Value} {l : List Int} (h : w.ownsRow base e 1 v l.length (ints l)) (hb : l.length < 4611686018427387904) : ∃ a c, v = .slice a l.length c ∧ IntS w a l ∧ l.length ≤ c := by
  rcases h.2 with ⟨rfl, hn⟩ | ⟨g, cap, cur, rfl, hg, hh, hnc, _⟩
  · exact ⟨none, 0, by rw [hn], ⟨hb, .inl (List.eq_nil_of_length_eq_zero hn)⟩, by omega⟩
  · obtain ⟨a, c, h1, h2, _⟩ := intS_own h hb
    cases h1
    exact ⟨_, _, rfl, h2, hnc⟩
/-- A row, or nil. -/
def RowPost (L : List Int) (w : World) (r : Ending) (w' : World) : Prop := ∃ a c, r = .returned (.slice a L.length c) ∧ IntS w' a L ∧ (L = [] → a = none ∧ c = 0) ∧ L.length ≤ c ∧ Below w.heap.size w w'
/-- Rows of locks. -/
structure LkRow (row : List Int) : Prop where
  ne : row ≠ []
  lt : ∀ x ∈ row, 0 ≤ x ∧ x < 5
theorem LkRow.last {row : List Int} (h : LkRow row) : ∃ hl : row.length - 1 < row.length, row[row.length - 1] = lastI row ∧ lastI row < 5 := by
  have hl : 0 < row.length := List.length_pos_iff.2 h.ne
  refine ⟨by omega, ?_⟩
  have h1 : row.getLastD 0 = row[row.length - 1]'(by omega) := by
    rw [List.getLastD_eq_getLast?, List.getLast?_eq_getElem?, List.getElem?_eq_getElem (by omega)]
    rfl
  have h2 := h.lt _ (List.getElem_mem (show row.length - 1 < row.length by omega))
  unfold lastI
  rw [h1]
  omega
theorem LkRow.head {row : List Int} (h : LkRow row) : ∃ hl : 0 < row.length, row[0] = ((row.headD 0).toNat : Int) ∧ (row.headD 0).toNat < 5 := by
  cases row with
  | nil => exact absurd rfl h.ne
  | cons x l =>
    have := h.lt x (List.mem_cons_self ..)
    refine ⟨by simp, ?_, ?_⟩
    · simp; omega
    · simp; omega
theorem LkRow.snoc {row : List Int} (h : LkRow row) {k : Nat} (hk : k < 5) : LkRow (row ++ [(k : Int)]) := by
  refine ⟨by simp, fun x hx => ?_⟩
  rcases List.mem_append.1 hx with hx | hx
  · exact h.lt x hx
  · simp at hx; subst hx; omega
set_option maxRecDepth 100000 in
set_option maxHeartbeats 4000000 in
theorem longer_zero (E : Nat → Nat → Bool) (G : Nat) (row : List Int) (a : Option Addr) (c : Nat) (w : World) (hrow : LkRow row) (hn : row.length ≤ 5) (hc : row.length ≤ c) (hI : IntS w a row) (hG : Has w G (grC E) 190) :
    Calls Tryz.prog 99 #[.pointer (some ⟨G, 0, none⟩), .slice a row.length c, .int .i64 (row.length : Int)] w (RowPost (longP E 0 row) w) := by
  obtain ⟨hl, hlast, hl5⟩ := hrow.last
  obtain ⟨h0, hhead, hh5⟩ := hrow.head
  obtain ⟨b, o, rfl, d0⟩ := hI.at hl
  obtain ⟨b', o', hbo, e0⟩ := hI.at h0
  cases hbo
  rw [hlast] at d0
  rw [hhead, Nat.add_zero] at e0
  have hg := hG.cell (grC_get E hl5 hh5)
  have hLP : longP E 0 row = if E (lastI row) (row.headD 0).toNat then row else [] := rfl
  obtain ⟨q, hq⟩ : ∃ q, E (lastI row) (row.headD 0).toNat = q := ⟨_, rfl⟩
  rw [hq] at hg hLP
  have hne := hrow.ne
  generalize lastI row = A at *
  generalize (row.headD 0).toNat = B at *
  have hlm : (row.length : Int) - 1 = ((row.length - 1 : Nat) : Int) := by omega
  have hw1 : IntKind.i64.wrap ((row.length : Int) - 1) = ((row.length - 1 : Nat) : Int) := by rw [IntWalk.i64_in _ (by omega), hlm]
  have i0 : (0 : Int) ≤ ((row.length - 1 : Nat) : Int) := by omega
  have i1 : ((row.length - 1 : Nat) : Int) < row.length := by omega
  have i2 : (0 : Int) < row.length := by omega
  have a0 : (0 : Int) ≤ A := by omega
  have a5 : (A : Int) < 5 := by omega
  have b0 : (0 : Int) ≤ B := by omega
  have b5 : (B : Int) < 5 := by omega
  have HLP := Lib.hid hLP
  clear hlast hhead hq hLP hlm
  go_enter Tryz.func99, Tryz.ntmps99
  cases q
  · have hL : longP E 0 row = [] := HLP.out
    rw [hL]
    clear hL HLP
    go_upto_region 3 with fail
    go_quiet (fail)
    go_wp2
    go_ret
    exact ⟨none, 0, rfl, ⟨by simp, .inl rfl⟩, fun _ => ⟨rfl, rfl⟩, Nat.le_refl _, below_drewN (Below.refl _ _) _⟩
  · have hL : longP E 0 row = row := HLP.out
    rw [hL]
    clear hL HLP
    go_upto_region 3 with fail
    go_quiet (fail)
    go_wp2
    go_ret
    exact ⟨_, _, rfl, hI.below (below_drewN (Below.refl _ _) _), fun e => absurd e hne, hc, below_drewN (Below.refl _ _) _⟩
theorem scanF_yes {f : Nat → List Int} {k m : Nat} (h : f k ≠ []) : scanF f k (m + 1) = f k := by simp only [scanF]; rw [if_neg h]
theorem scanF_no {f : Nat → List Int} {k m : Nat} (h : f k = []) : scanF f k (m + 1) = scanF f (k + 1) m := by simp only [scanF]; rw [if_pos h]
set_option maxRecDepth 100000 in
set_option maxHeartbeats 8000000 in
theorem longer_succ (E : Nat → Nat → Bool) (G n : Nat) (ih : ∀ (row : List Int) (a : Option Addr) (c : Nat) (w : World), LkRow row → row.length + n ≤ 5 → row.length ≤ c → IntS w a row → Has w G (grC E) 190 →
      Calls Tryz.prog 99 #[.pointer (some ⟨G, 0, none⟩), .slice a row.length c, .int .i64 ((row.length + n : Nat) : Int)] w (RowPost (longP E n row) w))
    (row : List Int) (a : Option Addr) (c M : Nat) (w : World) (hrow : LkRow row) (hM : row.length + (n + 1) = M) (hn : M ≤ 5) (hI : IntS w a row) (hG : Has w G (grC E) 190) :
    Calls Tryz.prog 99 #[.pointer (some ⟨G, 0, none⟩), .slice a row.length c, .int .i64 (M : Int)] w (RowPost (longP E (n + 1) row) w) := by
  obtain ⟨i0', hi, hz0, hz1, hz2⟩ := info_parts infoI
  obtain ⟨hl, hlast, hl5⟩ := hrow.last
  obtain ⟨b, o, rfl, d0⟩ := hI.at hl
  rw [hlast] at d0
  have hLP : longP E (n + 1) row = scanF (fun k => if E (lastI row) k && !hasB row (k : Int) then longP E n (row ++ [(k : Int)]) else []) 0 5 := rfl
  have hne := hrow.ne
  have hgs := fun j (hj : j < 5) => hG.cell (grC_get E hl5 hj)
  obtain ⟨g0, g1, g2, g3, g4⟩ : _ ∧ _ ∧ _ ∧ _ ∧ _ := ⟨hgs 0 (by omega), hgs 1 (by omega), hgs 2 (by omega), hgs 3 (by omega), hgs 4 (by omega)⟩
  rw [Nat.add_zero] at g0
  generalize lastI row = A at *
  obtain ⟨f, hf⟩ : ∃ f : Nat → List Int, f = fun k => if E A k && !hasB row (k : Int) then longP E n (row ++ [(k : Int)]) else [] := ⟨_, rfl⟩
  rw [← hf] at hLP
  have hfk := fun k => show f k = if E A k && !hasB row (k : Int) then longP E n (row ++ [(k : Int)]) else [] by rw [hf]
  have HLP := Lib.hid hLP
  have HF := Lib.hid hfk
  have HIH := Lib.hid ih
  have HROW := Lib.hid hrow
  have hcl := fun W (hW : IntS W (some ⟨b, o, none⟩) row) => cloneInt_any row (some ⟨b, o, none⟩) c W hW hne (by omega)
  have HCL := Lib.hid hcl
  have hlm : (row.length : Int) - 1 = ((row.length - 1 : Nat) : Int) := by omega
  have hw1 : IntKind.i64.wrap ((row.length : Int) - 1) = ((row.length - 1 : Nat) : Int) := by rw [IntWalk.i64_in _ (by omega), hlm]
  have i0 : (0 : Int) ≤ ((row.length - 1 : Nat) : Int) := by omega
  have i1 : ((row.length - 1 : Nat) : Int) < row.length := by omega
  have a0 : (0 : Int) ≤ A := by omega
  have a5 : (A : Int) < 5 := by omega
  have hnn : ((row.length : Int) == (M : Int)) = false := by simp; omega
  clear hlast hLP hlm hf hfk ih hrow hcl hgs
  go_enter Tryz.func99, Tryz.ntmps99
  go_wp2
  go_loopw [36] (fun i wr => ∃ k : Nat, k ≤ 5 ∧ i = .int .i64 k ∧ Hid (longP E (n + 1) row = scanF f k (5 - k)) ∧ Below w.heap.size w wr) (fun i _ => 5 - (intOf i).toNat)
  case atStart => exact ⟨0, Nat.zero_le _, rfl, HLP, Below.refl _ _⟩
  case round =>
    clear d0 g0 g1 g2 g3 g4
    obtain ⟨k, hk, rfl, HC, hb⟩ := hrel
    by_cases hk5 : k < 5
    · have hix := idx5b (E A) hk5
      have hkd : decide ((k : Int) < 5) = true := decide_eq_true (by omega)
      have h54 : 5 - k = (5 - (k + 1)) + 1 := by omega
      have hfk := HF.out k
      have hno : f k = [] → longP E (n + 1) row = scanF f (k + 1) (5 - (k + 1)) := fun e => by rw [HC.out, h54, scanF_no e]
      have hye : f k ≠ [] → longP E (n + 1) row = f k := fun e => by rw [HC.out, h54, scanF_yes e]
      have HNO := Lib.hid hno
      have HYE := Lib.hid hye
      clear h54 hno hye HC
      obtain ⟨q1, r1⟩ : ∃ q, E A k = q := ⟨_, rfl⟩
      obtain ⟨q2, r2⟩ : ∃ q, hasB row (k : Int) = q := ⟨_, rfl⟩
      rw [r1, r2] at hfk
      rw [r1] at hix
      have HFK := Lib.hid hfk
      clear hfk r1
      have hIr := hI.below hb
      have hGr := hG.below hb hG.lt
      cases q1
      · have HN := Lib.hid (HNO.out HFK.out)
        clear HNO HYE HFK r2
        go_wp2
        go_roundw
        case rel => exact ⟨k + 1, by omega, by go_num, HN, hb⟩
        case measure => (simp [intOf]; try omega)
      · go_wp2_with fail
        refine (contains_any row k _ c _ hIr).mono ?_
        rintro r w1 ⟨rfl, rfl⟩
        rw [r2]
        clear r2
        cases q2
        · have hfl : f k = longP E n (row ++ [(k : Int)]) := HFK.out
          have hMM : (row ++ [(k : Int)]).length + n = M := by simp; omega
          have hrs := HROW.out.snoc hk5
          rw [hfl] at HNO HYE
          clear hfl HFK
          go_wp2_with fail
          refine (HCL.out _ hIr).mono ?_
          rintro r w2 ⟨v, rfl, hown, hk2⟩
          have hbT := hk2.alloc hk2.size (.cells #[.int .i64 (k : Int)] 3)
          go_wp2_with (at_builtin; refine app_list _ rfl (.tmp 49) (.tmp 51) 46 rfl Tryz.underlying46 hi hz0 hz1 hz2 rfl (by decide) rfl (hown.alloc _) rfl (news := [.int .i64 k]) ⟨rfl, .inr ⟨_, rfl, fun j u hu => (Has.new w2 #[.int .i64 (k : Int)] 3).cell_add (by simpa using hu)⟩⟩ (by intro q hq; simp at hq; subst hq; rfl) (by unfold maxLen; omega) (by omega) (by have := hk2.size; simp; omega) ?_)
          intro v3 w3 hAp
          have hb3 := hAp.below (hown.alloc _) hbT (by have := hk2.size; simp; omega)
          have hown3 : w3.ownsRow w1.heap.size 3 1 v3 (row ++ [(k : Int)]).length (ints (row ++ [(k : Int)])) := by
            have := hAp.own
            simpa using this
          have hex : ∃ a3 c3, v3 = .slice a3 (row ++ [(k : Int)]).length c3 ∧ IntS w3 a3 (row ++ [(k : Int)]) ∧ (row ++ [(k : Int)]).length ≤ c3 := by
            exact intS_ownc hown3 (by simp; omega)
          obtain ⟨a3, c3, rfl, hI3, hc3⟩ := hex
          have hca := HIH.out (row ++ [(k : Int)]) a3 c3 w3 hrs (by omega) hc3 hI3 (hGr.below hb3 hGr.lt)
          rw [hMM] at hca
          have HCA := Lib.hid hca
          clear hca hown hown3 hAp hbT hMM hrs hI3
          generalize row ++ [(k : Int)] = row2 at *
          generalize longP E n row2 = L at *
          go_wp2_with fail
          refine HCA.out.mono ?_
          clear HCA
          rintro r w4 ⟨a4, c4, rfl, hI4, hnil, hc4, hk4⟩
          have hb4 := hb.trans ((hb3.trans (hk4.mono hb3.size)).mono hb.size)
          by_cases hLe : L = []
          · obtain ⟨rfl, rfl⟩ := hnil hLe
            subst hLe
            have HN := Lib.hid (HNO.out rfl)
            have hnz := nz_int
            clear HNO HYE hnil hI4
            go_wp2
            go_roundw
            case rel => exact ⟨k + 1, by omega, by go_num, HN, hb4⟩
            case measure => (simp [intOf]; try omega)
          · obtain ⟨b4, o4, rfl⟩ : ∃ b o, a4 = some ⟨b, o, none⟩ := by
              rcases hI4.ok with h0 | ⟨b, o, ha, _⟩
              · exact absurd h0 hLe
              · exact ⟨b, o, ha⟩
            have HL := Lib.hid (HYE.out hLe)
            have hnn2 := nn_int b4 o4 L.length c4
            clear HNO HYE hnil
            go_wp2
            go_ret
            rw [HL.out]
            exact ⟨_, _, rfl, hI4, fun e => absurd e hLe, hc4, hb4⟩
        · have HN := Lib.hid (HNO.out HFK.out)
          clear HNO HYE HFK
          go_wp2
          go_roundw
          case rel => exact ⟨k + 1, by omega, by go_num, HN, hb⟩
          case measure => (simp [intOf]; try omega)
    · obtain rfl : k = 5 := by omega
      have hL : longP E (n + 1) row = [] := HC.out
      have HL := Lib.hid hL
      clear hL HC
      go_wp2
      go_ret
      rw [HL.out]
      exact ⟨none, 0, rfl, ⟨by simp, .inl rfl⟩, fun _ => ⟨rfl, rfl⟩, Nat.le_refl _, hb⟩
theorem longer_ok (E : Nat → Nat → Bool) (G : Nat) : ∀ (n : Nat) (row : List Int) (a : Option Addr) (c : Nat) (w : World), LkRow row → row.length + n ≤ 5 → row.length ≤ c → IntS w a row → Has w G (grC E) 190 →
    Calls Tryz.prog 99 #[.pointer (some ⟨G, 0, none⟩), .slice a row.length c, .int .i64 ((row.length + n : Nat) : Int)] w (RowPost (longP E n row) w)
  | 0, row, a, c, w, h1, h2, hc, h3, h4 => longer_zero E G row a c w h1 h2 hc h3 h4
  | n + 1, row, a, c, w, h1, h2, _, h3, h4 => longer_succ E G n (longer_ok E G n) row a c _ w h1 rfl h2 h3 h4
end Go.Proofs.YtfjbnhacfficnaaGreatDoor

/- Contracts: ring, read, Ring. -/
namespace Go.Proofs.YtfjbnhacfficnaaGreatDoor
open Go.RowKit

def ringM (E : Nat → Nat → Bool) (m : Nat) : List Int := scanF (fun k : Nat => longP E (m - 1) [(k : Int)]) 0 5
/-- The ring with the fewest locks. -/
def ringP (E : Nat → Nat → Bool) : List Int := scanF (ringM E) 1 5
set_option maxRecDepth 100000 in
set_option maxHeartbeats 4000000 in
theorem ring_any (E : Nat → Nat → Bool) (G : Nat) (w : World) (hG : Has w G (grC E) 190) :
    Calls Tryz.prog 68 #[.pointer (some ⟨G, 0, none⟩)] w (RowPost (ringP E) w) := by
  go_enter Tryz.func68, Tryz.ntmps68
  go_wp2
  go_loopw [3] (fun i wr => ∃ m : Nat, 1 ≤ m ∧ m ≤ 6 ∧ i = .int .i64 m ∧ Hid (ringP E = scanF (ringM E) m (6 - m)) ∧ Below w.heap.size w wr) (fun i _ => 6 - (intOf i).toNat)
  case atStart => exact ⟨1, Nat.le_refl _, by omega, rfl, Lib.hid rfl, Below.refl _ _⟩
  case round =>
    obtain ⟨m, hm1, hm6, rfl, HC, hb⟩ := hrel
    by_cases hm : m < 6
    · have hmd : decide ((m : Int) ≤ 5) = true := decide_eq_true (by omega)
      have h54 : 6 - m = (6 - (m + 1)) + 1 := by omega
      have hno : ringM E m = [] → ringP E = scanF (ringM E) (m + 1) (6 - (m + 1)) := fun e => by rw [HC.out, h54, scanF_no e]
      have hye : ringM E m ≠ [] → ringP E = ringM E m := fun e => by rw [HC.out, h54, scanF_yes e]
      have HNO := Lib.hid hno
      have HYE := Lib.hid hye
      have hM : ringM E m = scanF (fun k : Nat => longP E (m - 1) [(k : Int)]) 0 5 := rfl
      obtain ⟨f, hf⟩ : ∃ f : Nat → List Int, f = fun k : Nat => longP E (m - 1) [(k : Int)] := ⟨_, rfl⟩
      rw [← hf] at hM
      have hfk := fun k : Nat => show f k = longP E (m - 1) [(k : Int)] by rw [hf]
      have HF := Lib.hid hfk
      have HM := Lib.hid hM
      clear h54 hno hye HC hM hf hfk
      obtain ⟨wo, rfl⟩ : ∃ wo : World, wo = wr := ⟨_, rfl⟩
      have hb0 := Below.refl wo.heap.size wo
      go_wp2
      go_loopw [10] (fun i wr => ∃ k : Nat, k ≤ 5 ∧ i = .int .i64 k ∧ Hid (ringM E m = scanF f k (5 - k)) ∧ Below wo.heap.size wo wr) (fun i _ => 5 - (intOf i).toNat)
      case atStart => exact ⟨0, Nat.zero_le _, rfl, HM, hb0⟩
      case round =>
        clear hb0
        obtain ⟨k, hk, rfl, HC, hb2⟩ := hrel
        by_cases hk5 : k < 5
        · have hkd : decide ((k : Int) < 5) = true := decide_eq_true (by omega)
          have h54 : 5 - k = (5 - (k + 1)) + 1 := by omega
          have hno : f k = [] → ringM E m = scanF f (k + 1) (5 - (k + 1)) := fun e => by rw [HC.out, h54, scanF_no e]
          have hye : f k ≠ [] → ringM E m = f k := fun e => by rw [HC.out, h54, scanF_yes e]
          rw [HF.out k] at hno hye
          have KNO := Lib.hid hno
          have KYE := Lib.hid hye
          have hI := intS_full (l := [(k : Int)]) (Has.new wr #[.int .i64 (k : Int)] 3) rfl (by simp)
          have hbT := hb2.alloc hb2.size (.cells #[.int .i64 (k : Int)] 3)
          have hbw := (Below.refl wr.heap.size wr).alloc (Nat.le_refl _) (.cells #[.int .i64 (k : Int)] 3)
          have hGw := (hG.below hb hG.lt)
          have hG2 := (hGw.below hb2 hGw.lt).alloc (.cells #[.int .i64 (k : Int)] 3)
          have hca := longer_ok E G (m - 1) [(k : Int)] _ 1 _ ⟨by simp, fun x hx => by simp at hx; subst hx; omega⟩ (by simp; omega) (Nat.le_refl _) hI hG2
          rw [show ([(k : Int)].length + (m - 1) : Nat) = m by simp; omega, show [(k : Int)].length = 1 from rfl] at hca
          have HCA := Lib.hid hca
          clear h54 hno hye HC hca hI hG2 hGw
          generalize longP E (m - 1) [(k : Int)] = L at *
          go_wp2_with fail
          refine HCA.out.mono ?_
          clear HCA
          rintro r w4 ⟨a4, c4, rfl, hI4, hnil, hc4, hk4⟩
          have hb4 := hbT.trans (hk4.mono hbT.size)
          by_cases hLe : L = []
          · obtain ⟨rfl, rfl⟩ := hnil hLe
            subst hLe
            have HN := Lib.hid (KNO.out rfl)
            have hnz := nz_int
            clear KNO KYE hnil hI4 HNO HYE
            go_wp2
            go_roundw
            case rel => exact ⟨k + 1, by omega, by go_num, HN, hb4⟩
            case measure => (simp [intOf]; try omega)
          · obtain ⟨b4, o4, rfl⟩ : ∃ b o, a4 = some ⟨b, o, none⟩ := by
              rcases hI4.ok with h0 | ⟨b, o, ha, _⟩
              · exact absurd h0 hLe
              · exact ⟨b, o, ha⟩
            have hRL := KYE.out hLe
            have HL := Lib.hid ((HYE.out (by rw [hRL]; exact hLe)).trans hRL)
            have hnn2 := nn_int b4 o4 L.length c4
            clear KNO KYE hnil HNO HYE hRL
            have hb5 := hb.trans (hb4.mono hb.size)
            go_wp2
            go_ret
            rw [HL.out]
            exact ⟨_, _, rfl, hI4, fun e => absurd e hLe, hc4, hb5⟩
        · obtain rfl : k = 5 := by omega
          have hL : ringM E m = [] := HC.out
          have HN := Lib.hid (HNO.out hL)
          have hb5 := hb.trans (hb2.mono hb.size)
          clear hL HC HNO HYE
          have hw := IntWalk.i64_in ((m : Int) + 1) (by omega)
          go_wp2
          go_roundw
          case rel => exact ⟨m + 1, by omega, by omega, by go_num, HN, hb5⟩
          case measure => (simp [intOf]; try omega)
    · obtain rfl : m = 6 := by omega
      have hL : ringP E = [] := HC.out
      have HL := Lib.hid hL
      clear hL HC
      go_wp2
      go_ret
      rw [HL.out]
      exact ⟨none, 0, rfl, ⟨by simp, .inl rfl⟩, fun _ => ⟨rfl, rfl⟩, Nat.le_refl _, hb⟩
end Go.Proofs.YtfjbnhacfficnaaGreatDoor

/- Contracts: read, Ring. -/
namespace Go.Proofs.YtfjbnhacfficnaaGreatDoor
open Go.RowKit

/-- Is there such a pair? -/
def edgeP (p : List (Int × Int)) (i j : Nat) : Bool := hasB p ((i : Int), (j : Int))
abbrev grZ : Array Value := #[.bool false, .bool false, .bool false, .bool false, .bool false, .bool false, .bool false, .bool false, .bool false, .bool false, .bool false, .bool false, .bool false, .bool false, .bool false, .bool false, .bool false, .bool false, .bool false, .bool false, .bool false, .bool false, .bool false, .bool false, .bool false]
theorem grC_congr {E F : Nat → Nat → Bool} (h : ∀ i j, i < 5 → j < 5 → E i j = F i j) : grC E = grC F := by
  apply Array.ext
  · simp
  · intro i h1 h2
    have hi : i < 25 := by simpa using h1
    simp only [Array.getElem_map, Array.getElem_range]
    rw [h _ _ (by omega) (by omega)]
theorem grC_set (E : Nat → Nat → Bool) {a b : Nat} (hb : b < 5) : (grC E).setIfInBounds (a * 5 + b) (.bool true) = grC fun i j => E i j || (decide (i = a) && decide (j = b)) := by
  apply Array.ext
  · simp
  · intro i h1 h2
    have hi : i < 25 := by simpa using h2
    by_cases e : a * 5 + b = i
    · subst e
      have e1 : (a * 5 + b) / 5 = a := by omega
      have e2 : (a * 5 + b) % 5 = b := by omega
      simp [e1, e2]
    · rw [Array.getElem_setIfInBounds_ne (by simpa using hi) e]
      have : ¬ (i / 5 = a ∧ i % 5 = b) := by omega
      have h3 : (decide (i / 5 = a) && decide (i % 5 = b)) = false := by
        rw [Bool.eq_false_iff]
        simpa using this
      simp [h3]
def okPr (p : List (Int × Int)) : Prop := ∀ x ∈ p, 0 ≤ x.1 ∧ x.1 < 5 ∧ 0 ≤ x.2 ∧ x.2 < 5
set_option maxRecDepth 100000 in
set_option maxHeartbeats 4000000 in
theorem read_ok (p : List (Int × Int)) (a : Option Addr) (c : Nat) (w : World) (h : PrS w a p) (hp : okPr p) :
    Calls Tryz.prog 67 #[.slice a p.length c] w fun r w' => r = .returned (.tuple #[.pointer (some ⟨w.heap.size, 0, none⟩), .int .i64 0]) ∧ Has w' w.heap.size (grC (edgeP p)) 190 ∧ Below w.heap.size w w' := by
  have hbig := h.big
  have HP := Lib.hid hp
  have hN : Has (w.alloc (.cells grZ 190)) w.heap.size (grC (edgeP (p.take 0))) 190 := (Has.new w grZ 190).to (by
    rw [show grZ = grC (fun _ _ => false) by kernel_rfl]
    exact grC_congr fun i j _ _ => by simp [edgeP, hasB])
  have hb := (Below.refl w.heap.size w).alloc (Nat.le_refl _) (.cells grZ 190)
  clear hp
  go_enter Tryz.func67, Tryz.ntmps67
  go_wp2
  go_loopw [11] (fun i wr => ∃ k : Nat, k ≤ p.length ∧ i = .int .i64 k ∧ Has wr w.heap.size (grC (edgeP (p.take k))) 190 ∧ Below w.heap.size w wr) (fun i _ => p.length - (intOf i).toNat)
  case atStart => exact ⟨0, Nat.zero_le _, rfl, hN, hb⟩
  case round =>
    clear hN hb
    obtain ⟨k, hk, rfl, hG, hb⟩ := hrel
    by_cases hlt : k < p.length
    · obtain ⟨g, o, rfl, d0, d1⟩ := (h.below hb).at hlt
      have hpx := HP.out _ (List.getElem_mem hlt)
      have hx : p.take (k + 1) = p.take k ++ [p[k]] := by rw [List.take_add_one, List.getElem?_eq_getElem hlt]; rfl
      obtain ⟨A, B, hAB⟩ : ∃ A B : Nat, p[k] = ((A : Int), (B : Int)) := ⟨p[k].1.toNat, p[k].2.toNat, by
        obtain ⟨h1, h2, h3, h4⟩ := hpx
        rw [Int.toNat_of_nonneg h1, Int.toNat_of_nonneg h3]⟩
      rw [hAB] at d0 d1 hpx hx
      simp only at d0 d1 hpx
      have hA : A < 5 := by omega
      have hB : B < 5 := by omega
      have hE : grC (fun i j => edgeP (p.take k) i j || (decide (i = A) && decide (j = B))) = grC (edgeP (p.take (k + 1))) := grC_congr fun i j _ _ => by
        rw [hx]
        simp only [edgeP, hasB, List.mem_append, List.mem_singleton, Prod.mk.injEq]
        rw [Bool.eq_iff_iff]
        simp only [decide_eq_true_eq, Bool.or_eq_true, Bool.and_eq_true]
        exact or_congr Iff.rfl (by omega)
      have HE := Lib.hid hE
      have hX := Has.new wr (prC ((A : Int), (B : Int))) 111
      have hG2 := hG.alloc (.cells (prC ((A : Int), (B : Int))) 111)
      have hb2 := hb.alloc hb.size (.cells (prC ((A : Int), (B : Int))) 111)
      have t1 : decide ((A : Int) < 0) = false := decide_eq_false (by omega)
      have t2 : decide ((A : Int) ≥ 5) = false := decide_eq_false (by omega)
      have t3 : decide ((B : Int) < 0) = false := decide_eq_false (by omega)
      have t4 : decide ((B : Int) ≥ 5) = false := decide_eq_false (by omega)
      have a0 : (0 : Int) ≤ A := by omega
      have a5 : (A : Int) < 5 := by omega
      have b0 : (0 : Int) ≤ B := by omega
      have b5 : (B : Int) < 5 := by omega
      have hGl := hG.lt
      clear hx hE hpx hAB hG hb
      go_upto_region 5 with fail
      clear d0 d1
      generalize wr.alloc (.cells (prC ((A : Int), (B : Int))) 111) = w5 at *
      obtain ⟨x0, x1⟩ : w5.cell? ⟨wr.heap.size, 0, none⟩ = some (.int .i64 (A : Int)) ∧ w5.cell? ⟨wr.heap.size, 1, none⟩ = some (.int .i64 (B : Int)) := ⟨hX.cell rfl, hX.cell rfl⟩
      have hg := hG2.cell (grC_get _ hA hB)
      have hf := hG2.free (A * 5 + B)
      go_upto_region 7 with fail
      go_region
      all_goals
        have hG3 := ((hG2.setCell (A * 5 + B) (.bool true)).drew).to ((grC_set _ hB).trans HE.out)
        have hb3 : Below w.heap.size w (w5.setCell ⟨w.heap.size, A * 5 + B, none⟩ (.bool true)).drew := (hb2.setCell (Nat.le_refl _) _).drew
        clear x0 x1 hg hf hX hG2 hb2
        go_wp2
        go_roundw
        case rel => exact ⟨k + 1, by omega, by go_num, hG3, hb3⟩
        case measure => (simp [intOf]; try omega)
    · obtain rfl : k = p.length := by omega
      rw [List.take_length] at hG
      go_wp2
      go_ret2
      exact ⟨rfl, hG, hb⟩
/-- A ring, or none. -/
def RingPost (L : List Int) (w : World) (r : Ending) (w' : World) : Prop := ∃ a c, r = .returned (.tuple #[.slice a L.length c, .int .i64 0]) ∧ IntS w' a L ∧ L.length ≤ c ∧ Below w.heap.size w w'
set_option maxRecDepth 100000 in
theorem ringOf_ok (p : List (Int × Int)) (a : Option Addr) (c : Nat) (w : World) (h : PrS w a p) (hp : okPr p) :
    Calls Tryz.prog 47 #[.slice a p.length c] w (RingPost (ringP (edgeP p)) w) := by
  go_enter Tryz.func47, Tryz.ntmps47
  go_wp2_with fail
  refine (read_ok p a c _ h hp).mono ?_
  rintro r w1 ⟨rfl, hG, hb⟩
  go_wp2_with fail
  refine (ring_any _ _ _ hG).mono ?_
  rintro r w2 ⟨a2, c2, rfl, hI, _, hc, hk⟩
  go_wp2
  go_ret2
  exact ⟨_, _, rfl, hI, hc, hb.trans (hk.mono hb.size)⟩
end Go.Proofs.YtfjbnhacfficnaaGreatDoor

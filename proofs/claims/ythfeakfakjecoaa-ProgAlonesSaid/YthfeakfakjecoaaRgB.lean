/- Rings, plain: the least row that goes on to a ring; contract of longer. -/
import Derived.Test.YthfeakfakjecoaaRgA
import Derived.Deep.DeepCutAuto
namespace Go.Proofs.Ythfeakfakjecoaa
open Go.RowKit

/-- The first of f k, f (k + 1), .., that is no empty row (m of them). -/
def scanF (f : Nat → List Int) : Nat → Nat → List Int
  | _, 0 => []
  | k, m + 1 => if f k = [] then scanF f (k + 1) m else f k
def lastI (row : List Int) : Nat := (row.getLastD 0).toNat
/-- The least row that goes on to a ring of n locks more. -/
def longP (E : Nat → Nat → Bool) : Nat → List Int → List Int
  | 0, row => if E (lastI row) (row.headD 0).toNat then row else []
  | n + 1, row => scanF (fun k => if E (lastI row) k && !hasB row (k : Int) then longP E n (row ++ [(k : Int)]) else []) 0 5
/-- A graph's cells. -/
abbrev grC (E : Nat → Nat → Bool) : Array Value := (Array.range 25).map fun i => .bool (E (i / 5) (i % 5))
theorem grC_get (E : Nat → Nat → Bool) {a b : Nat} (ha : a < 5) (hb : b < 5) : (grC E)[a * 5 + b]? = some (.bool (E a b)) := by
  have h1 : (a * 5 + b) / 5 = a := by omega
  have h2 : (a * 5 + b) % 5 = b := by omega
  have h3 : a * 5 + b < 25 := by omega
  simp [grC, h1, h2, h3]
theorem idx5b (p : Nat → Bool) {k : Nat} (hk : k < 5) (w : World) : (Instr.index 86 (.agg #[.bool (p 0), .bool (p 1), .bool (p 2), .bool (p 3), .bool (p 4)]) (.int .i64 (k : Int))).run Try.prog w = .ok (.bool (p k)) w := by
  rcases (by omega : k = 0 ∨ k = 1 ∨ k = 2 ∨ k = 3 ∨ k = 4) with rfl | rfl | rfl | rfl | rfl <;> kernel_rfl
theorem intS_ownc {w : World} {base : Nat} {e : TypeId} {v : Value} {l : List Int} (h : w.ownsRow base e 1 v l.length (ints l)) (hb : l.length < 4611686018427387904) : ∃ a c, v = .slice a l.length c ∧ IntS w a l ∧ l.length ≤ c := by
  rcases h.2 with ⟨rfl, hn⟩ | ⟨g, cap, cur, rfl, hg, hh, hnc, _⟩
  · exact ⟨none, 0, by rw [hn], ⟨hb, .inl (List.eq_nil_of_length_eq_zero hn)⟩, by omega⟩
  · obtain ⟨a, c, h1, h2, _⟩ := intS_own h hb
    cases h1
    exact ⟨_, _, rfl, h2, hnc⟩
/-- A row, or nil. -/
def RowPost (L : List Int) (w : World) (r : Ending) (w' : World) : Prop := ∃ a c, r = .returned (.slice a L.length c) ∧ IntS w' a L ∧ (L = [] → a = none ∧ c = 0) ∧ L.length ≤ c ∧ Below w.heap.size w w'
/-- Rows of locks. -/
structure LkRow (row : List Int) : Prop where
  ne : row ≠ []
  lt : ∀ x ∈ row, 0 ≤ x ∧ x < 5
theorem LkRow.last {row : List Int} (h : LkRow row) : ∃ hl : row.length - 1 < row.length, row[row.length - 1] = lastI row ∧ lastI row < 5 := by
  have hl : 0 < row.length := List.length_pos_iff.2 h.ne
  refine ⟨by omega, ?_⟩
  have h1 : row.getLastD 0 = row[row.length - 1]'(by omega) := by
    rw [List.getLastD_eq_getLast?, List.getLast?_eq_getElem?, List.getElem?_eq_getElem (by omega)]
    rfl
  have h2 := h.lt _ (List.getElem_mem (show row.length - 1 < row.length by omega))
  unfold lastI
  rw [h1]
  omega
theorem LkRow.head {row : List Int} (h : LkRow row) : ∃ hl : 0 < row.length, row[0] = ((row.headD 0).toNat : Int) ∧ (row.headD 0).toNat < 5 := by
  cases row with
  | nil => exact absurd rfl h.ne
  | cons x l =>
    have := h.lt x (List.mem_cons_self ..)
    refine ⟨by simp, ?_, ?_⟩
    · simp; omega
    · simp; omega
theorem LkRow.snoc {row : List Int} (h : LkRow row) {k : Nat} (hk : k < 5) : LkRow (row ++ [(k : Int)]) := by
  refine ⟨by simp, fun x hx => ?_⟩
  rcases List.mem_append.1 hx with hx | hx
  · exact h.lt x hx
  · simp at hx; subst hx; omega
set_option maxRecDepth 100000 in
set_option maxHeartbeats 4000000 in
theorem longer_zero (E : Nat → Nat → Bool) (G : Nat) (row : List Int) (a : Option Addr) (c : Nat) (w : World) (hrow : LkRow row) (hn : row.length ≤ 5) (hc : row.length ≤ c) (hI : IntS w a row) (hG : Has w G (grC E) 146) :
    Calls Try.prog 77 #[.pointer (some ⟨G, 0, none⟩), .slice a row.length c, .int .i64 (row.length : Int)] w (RowPost (longP E 0 row) w) := by
  obtain ⟨hl, hlast, hl5⟩ := hrow.last
  obtain ⟨h0, hhead, hh5⟩ := hrow.head
  obtain ⟨b, o, rfl, d0⟩ := hI.at hl
  obtain ⟨b', o', hbo, e0⟩ := hI.at h0
  cases hbo
  rw [hlast] at d0
  rw [hhead, Nat.add_zero] at e0
  have hg := hG.cell (grC_get E hl5 hh5)
  have hLP : longP E 0 row = if E (lastI row) (row.headD 0).toNat then row else [] := rfl
  obtain ⟨q, hq⟩ : ∃ q, E (lastI row) (row.headD 0).toNat = q := ⟨_, rfl⟩
  rw [hq] at hg hLP
  have hne := hrow.ne
  generalize lastI row = A at *
  generalize (row.headD 0).toNat = B at *
  have hlm : (row.length : Int) - 1 = ((row.length - 1 : Nat) : Int) := by omega
  have hw1 : IntKind.i64.wrap ((row.length : Int) - 1) = ((row.length - 1 : Nat) : Int) := by rw [IntWalk.i64_in _ (by omega), hlm]
  have i0 : (0 : Int) ≤ ((row.length - 1 : Nat) : Int) := by omega
  have i1 : ((row.length - 1 : Nat) : Int) < row.length := by omega
  have i2 : (0 : Int) < row.length := by omega
  have a0 : (0 : Int) ≤ A := by omega
  have a5 : (A : Int) < 5 := by omega
  have b0 : (0 : Int) ≤ B := by omega
  have b5 : (B : Int) < 5 := by omega
  have HLP := Lib.hid hLP
  clear hlast hhead hq hLP hlm
  go_enter Try.func77, Try.ntmps77
  cases q
  · have hL : longP E 0 row = [] := HLP.out
    rw [hL]
    clear hL HLP
    go_upto_region 3 with fail
    go_quiet (fail)
    go_wp2
    go_ret
    exact ⟨none, 0, rfl, ⟨by simp, .inl rfl⟩, fun _ => ⟨rfl, rfl⟩, Nat.le_refl _, below_drewN (Below.refl _ _) _⟩
  · have hL : longP E 0 row = row := HLP.out
    rw [hL]
    clear hL HLP
    go_upto_region 3 with fail
    go_quiet (fail)
    go_wp2
    go_ret
    exact ⟨_, _, rfl, hI.below (below_drewN (Below.refl _ _) _), fun e => absurd e hne, hc, below_drewN (Below.refl _ _) _⟩
theorem scanF_yes {f : Nat → List Int} {k m : Nat} (h : f k ≠ []) : scanF f k (m + 1) = f k := by simp only [scanF]; rw [if_neg h]
theorem scanF_no {f : Nat → List Int} {k m : Nat} (h : f k = []) : scanF f k (m + 1) = scanF f (k + 1) m := by simp only [scanF]; rw [if_pos h]
set_option maxRecDepth 100000 in
set_option maxHeartbeats 8000000 in
theorem longer_succ (E : Nat → Nat → Bool) (G n : Nat) (ih : ∀ (row : List Int) (a : Option Addr) (c : Nat) (w : World), LkRow row → row.length + n ≤ 5 → row.length ≤ c → IntS w a row → Has w G (grC E) 146 →
      Calls Try.prog 77 #[.pointer (some ⟨G, 0, none⟩), .slice a row.length c, .int .i64 ((row.length + n : Nat) : Int)] w (RowPost (longP E n row) w))
    (row : List Int) (a : Option Addr) (c M : Nat) (w : World) (hrow : LkRow row) (hM : row.length + (n + 1) = M) (hn : M ≤ 5) (hI : IntS w a row) (hG : Has w G (grC E) 146) :
    Calls Try.prog 77 #[.pointer (some ⟨G, 0, none⟩), .slice a row.length c, .int .i64 (M : Int)] w (RowPost (longP E (n + 1) row) w) := by
  obtain ⟨i0', hi, hz0, hz1, hz2⟩ := info_parts infoI
  obtain ⟨hl, hlast, hl5⟩ := hrow.last
  obtain ⟨b, o, rfl, d0⟩ := hI.at hl
  rw [hlast] at d0
  have hLP : longP E (n + 1) row = scanF (fun k => if E (lastI row) k && !hasB row (k : Int) then longP E n (row ++ [(k : Int)]) else []) 0 5 := rfl
  have hne := hrow.ne
  have hgs := fun j (hj : j < 5) => hG.cell (grC_get E hl5 hj)
  obtain ⟨g0, g1, g2, g3, g4⟩ : _ ∧ _ ∧ _ ∧ _ ∧ _ := ⟨hgs 0 (by omega), hgs 1 (by omega), hgs 2 (by omega), hgs 3 (by omega), hgs 4 (by omega)⟩
  rw [Nat.add_zero] at g0
  generalize lastI row = A at *
  obtain ⟨f, hf⟩ : ∃ f : Nat → List Int, f = fun k => if E A k && !hasB row (k : Int) then longP E n (row ++ [(k : Int)]) else [] := ⟨_, rfl⟩
  rw [← hf] at hLP
  have hfk := fun k => show f k = if E A k && !hasB row (k : Int) then longP E n (row ++ [(k : Int)]) else [] by rw [hf]
  have HLP := Lib.hid hLP
  have HF := Lib.hid hfk
  have HIH := Lib.hid ih
  have HROW := Lib.hid hrow
  have hcl := fun W (hW : IntS W (some ⟨b, o, none⟩) row) => cloneInt_any row (some ⟨b, o, none⟩) c W hW hne (by omega)
  have HCL := Lib.hid hcl
  have hlm : (row.length : Int) - 1 = ((row.length - 1 : Nat) : Int) := by omega
  have hw1 : IntKind.i64.wrap ((row.length : Int) - 1) = ((row.length - 1 : Nat) : Int) := by rw [IntWalk.i64_in _ (by omega), hlm]
  have i0 : (0 : Int) ≤ ((row.length - 1 : Nat) : Int) := by omega
  have i1 : ((row.length - 1 : Nat) : Int) < row.length := by omega
  have a0 : (0 : Int) ≤ A := by omega
  have a5 : (A : Int) < 5 := by omega
  have hnn : ((row.length : Int) == (M : Int)) = false := by simp; omega
  clear hlast hLP hlm hf hfk ih hrow hcl hgs
  go_enter Try.func77, Try.ntmps77
  go_wp2
  go_loopw [36] (fun i wr => ∃ k : Nat, k ≤ 5 ∧ i = .int .i64 k ∧ Hid (longP E (n + 1) row = scanF f k (5 - k)) ∧ Below w.heap.size w wr) (fun i _ => 5 - (intOf i).toNat)
  case atStart => exact ⟨0, Nat.zero_le _, rfl, HLP, Below.refl _ _⟩
  case round =>
    clear d0 g0 g1 g2 g3 g4
    obtain ⟨k, hk, rfl, HC, hb⟩ := hrel
    by_cases hk5 : k < 5
    · have hix := idx5b (E A) hk5
      have hkd : decide ((k : Int) < 5) = true := decide_eq_true (by omega)
      have h54 : 5 - k = (5 - (k + 1)) + 1 := by omega
      have hfk := HF.out k
      have hno : f k = [] → longP E (n + 1) row = scanF f (k + 1) (5 - (k + 1)) := fun e => by rw [HC.out, h54, scanF_no e]
      have hye : f k ≠ [] → longP E (n + 1) row = f k := fun e => by rw [HC.out, h54, scanF_yes e]
      have HNO := Lib.hid hno
      have HYE := Lib.hid hye
      clear h54 hno hye HC
      obtain ⟨q1, r1⟩ : ∃ q, E A k = q := ⟨_, rfl⟩
      obtain ⟨q2, r2⟩ : ∃ q, hasB row (k : Int) = q := ⟨_, rfl⟩
      rw [r1, r2] at hfk
      rw [r1] at hix
      have HFK := Lib.hid hfk
      clear hfk r1
      have hIr := hI.below hb
      have hGr := hG.below hb hG.lt
      cases q1
      · have HN := Lib.hid (HNO.out HFK.out)
        clear HNO HYE HFK r2
        go_wp2
        go_roundw
        case rel => exact ⟨k + 1, by omega, by go_num, HN, hb⟩
        case measure => (simp [intOf]; try omega)
      · go_wp2_with fail
        refine (contains_any row k _ c _ hIr).mono ?_
        rintro r w1 ⟨rfl, rfl⟩
        rw [r2]
        clear r2
        cases q2
        · have hfl : f k = longP E n (row ++ [(k : Int)]) := HFK.out
          have hMM : (row ++ [(k : Int)]).length + n = M := by simp; omega
          have hrs := HROW.out.snoc hk5
          rw [hfl] at HNO HYE
          clear hfl HFK
          go_wp2_with fail
          refine (HCL.out _ hIr).mono ?_
          rintro r w2 ⟨v, rfl, hown, hk2⟩
          have hbT := hk2.alloc hk2.size (.cells #[.int .i64 (k : Int)] 3)
          go_wp2_with (at_builtin; refine app_list _ rfl (.tmp 49) (.tmp 51) 23 rfl Try.underlying23 hi hz0 hz1 hz2 rfl (by decide) rfl (hown.alloc _) rfl (news := [.int .i64 k]) ⟨rfl, .inr ⟨_, rfl, fun j u hu => (Has.new w2 #[.int .i64 (k : Int)] 3).cell_add (by simpa using hu)⟩⟩ (by intro q hq; simp at hq; subst hq; rfl) (by unfold maxLen; omega) (by omega) (by have := hk2.size; simp; omega) ?_)
          intro v3 w3 hAp
          have hb3 := hAp.below (hown.alloc _) hbT (by have := hk2.size; simp; omega)
          have hown3 : w3.ownsRow w1.heap.size 3 1 v3 (row ++ [(k : Int)]).length (ints (row ++ [(k : Int)])) := by
            have := hAp.own
            simpa using this
          have hex : ∃ a3 c3, v3 = .slice a3 (row ++ [(k : Int)]).length c3 ∧ IntS w3 a3 (row ++ [(k : Int)]) ∧ (row ++ [(k : Int)]).length ≤ c3 := by
            exact intS_ownc hown3 (by simp; omega)
          obtain ⟨a3, c3, rfl, hI3, hc3⟩ := hex
          have hca := HIH.out (row ++ [(k : Int)]) a3 c3 w3 hrs (by omega) hc3 hI3 (hGr.below hb3 hGr.lt)
          rw [hMM] at hca
          have HCA := Lib.hid hca
          clear hca hown hown3 hAp hbT hMM hrs hI3
          generalize row ++ [(k : Int)] = row2 at *
          generalize longP E n row2 = L at *
          go_wp2_with fail
          refine HCA.out.mono ?_
          clear HCA
          rintro r w4 ⟨a4, c4, rfl, hI4, hnil, hc4, hk4⟩
          have hb4 := hb.trans ((hb3.trans (hk4.mono hb3.size)).mono hb.size)
          by_cases hLe : L = []
          · obtain ⟨rfl, rfl⟩ := hnil hLe
            subst hLe
            have HN := Lib.hid (HNO.out rfl)
            have hnz := nz_int
            clear HNO HYE hnil hI4
            go_wp2
            go_roundw
            case rel => exact ⟨k + 1, by omega, by go_num, HN, hb4⟩
            case measure => (simp [intOf]; try omega)
          · obtain ⟨b4, o4, rfl⟩ : ∃ b o, a4 = some ⟨b, o, none⟩ := by
              rcases hI4.ok with h0 | ⟨b, o, ha, _⟩
              · exact absurd h0 hLe
              · exact ⟨b, o, ha⟩
            have HL := Lib.hid (HYE.out hLe)
            have hnn2 := nn_int b4 o4 L.length c4
            clear HNO HYE hnil
            go_wp2
            go_ret
            rw [HL.out]
            exact ⟨_, _, rfl, hI4, fun e => absurd e hLe, hc4, hb4⟩
        · have HN := Lib.hid (HNO.out HFK.out)
          clear HNO HYE HFK
          go_wp2
          go_roundw
          case rel => exact ⟨k + 1, by omega, by go_num, HN, hb⟩
          case measure => (simp [intOf]; try omega)
    · obtain rfl : k = 5 := by omega
      have hL : longP E (n + 1) row = [] := HC.out
      have HL := Lib.hid hL
      clear hL HC
      go_wp2
      go_ret
      rw [HL.out]
      exact ⟨none, 0, rfl, ⟨by simp, .inl rfl⟩, fun _ => ⟨rfl, rfl⟩, Nat.le_refl _, hb⟩
theorem longer_ok (E : Nat → Nat → Bool) (G : Nat) : ∀ (n : Nat) (row : List Int) (a : Option Addr) (c : Nat) (w : World), LkRow row → row.length + n ≤ 5 → row.length ≤ c → IntS w a row → Has w G (grC E) 146 →
    Calls Try.prog 77 #[.pointer (some ⟨G, 0, none⟩), .slice a row.length c, .int .i64 ((row.length + n : Nat) : Int)] w (RowPost (longP E n row) w)
  | 0, row, a, c, w, h1, h2, hc, h3, h4 => longer_zero E G row a c w h1 h2 hc h3 h4
  | n + 1, row, a, c, w, h1, h2, _, h3, h4 => longer_succ E G n (longer_ok E G n) row a c _ w h1 rfl h2 h3 h4
end Go.Proofs.Ythfeakfakjecoaa

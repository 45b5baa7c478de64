/- Joined texts. -/
import Derived.Test.YtmeidjhojanogaaDoorOrdC
import Derived.Test.YtmeidjhojanogaaDoorMD
import Derived.Test.YtmeidjhojanogaaDoorMA
import Derived.Test.YtmeidjhojanogaaDoorMB

/- Contracts of package order: pairs. -/
namespace Go.Proofs.YtmeidjhojanogaaDoor
open Go.RowKit

theorem infoP : (Tryd.prog.info? 76).map (fun i => (i.zero, i.size, i.bytes)) = some (some (prV (0, 0)), 2, 16) := by kernel_rfl
def PrsPost (L : List (Int × Int)) (w : World) (r : Ending) (w' : World) : Prop := ∃ v, r = .returned v ∧ w'.ownsRow w.heap.size 76 2 v L.length (prL L) ∧ Below w.heap.size w w'

set_option maxHeartbeats 4000000 in
theorem pairs_before (x : Value) (H : Nat → Nat → Bool) (l : List Ev) (a : Option Addr) (c : Nat) (w : World) (hl : l.length ≤ 80)
    (HF : ∀ (i j : Nat) (W : World), Below w.heap.size w W → i < j → j < l.length → Calls Tryd.prog 51 #[.int .i64 i, .int .i64 j, x] W fun r W' => r = .returned (.bool (H i j)) ∧ Below W.heap.size W W') :
    Calls Tryd.prog 50 #[.slice a l.length c, .func (.func 51) #[] #[x]] w (PrsPost (allP H l.length l.length) w) := by
  obtain ⟨i0, hi, hz0, hz1, hz2⟩ := info_parts infoP
  have HFF := Lib.hid HF
  clear HF
  go_enter Tryd.func50, Tryd.ntmps50
  go_wp2
  go_loopw [5, 10] (fun v i wr => ∃ k : Nat, k ≤ l.length ∧ i = .int .i64 k ∧ wr.ownsRow w.heap.size 76 2 v (allP H l.length k).length (prL (allP H l.length k)) ∧ Below w.heap.size w wr) (fun _ i _ => l.length - (intOf i).toNat)
  case atStart => exact ⟨0, Nat.zero_le _, rfl, World.ownsRow_nil _ _ _ _, Below.refl _ _⟩
  case round =>
    obtain ⟨k, hk, rfl, hown, hb⟩ := hrel
    obtain ⟨wo, rfl⟩ : ∃ wo : World, wo = wr := ⟨_, rfl⟩
    by_cases hlt : k < l.length
    · go_wp2
      go_loopw [5, 7] (fun v j wr => ∃ m : Nat, k < m ∧ m ≤ l.length ∧ j = .int .i64 m ∧ wr.ownsRow w.heap.size 76 2 v (allP H l.length k ++ rowP H k m).length (prL (allP H l.length k ++ rowP H k m)) ∧ Below w.heap.size w wr) (fun _ j _ => l.length - (intOf j).toNat)
      case atStart => exact ⟨k + 1, by omega, by omega, by go_num, by rw [rowP_start, List.append_nil]; exact hown, hb⟩
      case round =>
        clear hown hb
        obtain ⟨m, hkm, hm, rfl, hown, hb⟩ := hrel
        by_cases hml : m < l.length
        · have hlen : (allP H l.length k ++ rowP H k m).length ≤ 6480 := by
            rw [List.length_append]
            have h1 := allP_len H l.length k
            have h2 := rowP_len H k m
            have h3 : k * l.length ≤ 80 * 80 := Nat.mul_le_mul (by omega) hl
            omega
          cases hH : H k m
          · have hr := rowP_no H k m hH
            have HR := Lib.hid hr
            clear hr
            go_wp2_with fail
            refine (HFF.out k m _ hb hkm hml).mono ?_
            rintro r w3 ⟨rfl, hq⟩
            rw [hH]
            have ho := own_below hown hq
            have hb3 := hb.trans (hq.mono hb.size)
            clear hown hb hq hH
            go_wp2
            go_roundw
            case rel => exact ⟨m + 1, by omega, by omega, by go_num, by rw [HR.out]; exact ho, hb3⟩
            case measure => (simp [intOf]; try omega)
          · have hr := rowP_yes H k m hkm hH
            have HR := Lib.hid hr
            clear hr
            go_wp2_with fail
            refine (HFF.out k m _ hb hkm hml).mono ?_
            rintro r w3 ⟨rfl, hq⟩
            rw [hH]
            have ho := own_below hown hq
            have hb3 := hb.trans (hq.mono hb.size)
            have hs3 := hb3.size
            clear hown hb hq hH
            have hN := Has.new w3 (prC ((k : Int), (m : Int))) 76
            have hb4 := hb3.alloc hs3 (.cells (prC ((k : Int), (m : Int))) 76)
            go_wp2_with (at_builtin; refine app_list _ rfl (.tmp 25) (.tmp 29) 71 rfl Tryd.underlying71 hi hz0 hz1 hz2 rfl (by decide) rfl (ho.alloc _) rfl (news := prL [((k : Int), (m : Int))]) ⟨rfl, .inr ⟨_, rfl, fun j u hu => hN.cell_add (by simpa [prL] using hu)⟩⟩ (prL_one _) ?c3 ?c4 ?c5 ?_)
            case c3 => unfold maxLen; omega
            case c4 => omega
            case c5 => simp; omega
            intro v' w4 hA
            have hb5 := hA.below (ho.alloc _) hb4 (by simp; omega)
            have ho5 : w4.ownsRow w.heap.size 76 2 v' (allP H l.length k ++ rowP H k (m + 1)).length (prL (allP H l.length k ++ rowP H k (m + 1))) := by
              have := hA.own
              rw [HR.out, ← List.append_assoc, prL_append _ [((k : Int), (m : Int))], List.length_append, List.length_append]
              exact this
            clear hA ho hN hb4 hb3 hs3
            go_wp2
            go_roundw
            case rel => exact ⟨m + 1, by omega, by omega, by go_num, ho5, hb5⟩
            case measure => (simp [intOf]; try omega)
        · obtain rfl : m = l.length := by omega
          have ha := allP_succ H l.length k
          have HA := Lib.hid ha
          clear ha
          go_wp2
          go_roundw
          case rel => exact ⟨k + 1, by omega, by go_num, by rw [HA.out]; exact hown, hb⟩
          case measure => (simp [intOf]; try omega)
    · obtain rfl : k = l.length := by omega
      go_wp2
      go_ret
      exact ⟨_, rfl, hown, hb⟩
end Go.Proofs.YtmeidjhojanogaaDoor

/- Contracts of package order: Before. -/
namespace Go.Proofs.YtmeidjhojanogaaDoor
open Go.RowKit

theorem own_low {w : World} {b0 b1 e size n : Nat} {v : Value} {cs : List Value} (h : w.ownsRow b1 e size v n cs) (hb : b0 ≤ b1) : w.ownsRow b0 e size v n cs := by
  obtain ⟨h1, h2 | ⟨g, cap, cur, h2, h3, h4⟩⟩ := h
  · exact ⟨h1, .inl h2⟩
  · exact ⟨h1, .inr ⟨g, cap, cur, h2, Nat.le_trans hb h3, h4⟩⟩
theorem before1_any (i j b g n : Nat) (B : Nat → Nat) (M : Nat → Nat → Bool) (w : World) (hb : Has w b #[.slice (some ⟨g, 0, none⟩) n n] 102)
    (hg : Has w g (rRow n n B) 105) (hr : Has w (B j) (bRow n (M j)) 4) (hi : i < n) (hj : j < n) :
    Calls Tryd.prog 51 #[.int .i64 i, .int .i64 j, .pointer (some ⟨b, 0, none⟩)] w fun r w' => r = .returned (.bool (M j i)) ∧ Below w.heap.size w w' := by
  have c0 : w.cell? ⟨b, 0, none⟩ = some (.slice (some ⟨g, 0, none⟩) n n) := hb.cell rfl
  have c1 := hg.cell (rRow_get n n B hj hj)
  have c2 := hr.cell (bRow_get n (M j) hi)
  go_enter Tryd.func51, Tryd.ntmps51
  go_wp2
  go_ret
  exact ⟨rfl, Below.refl _ _⟩

theorem before_err (l : List Ev) (a : Option Addr) (c : Nat) (w : World) (h : EvS w a l) (he : (played l).2.2 ≠ 0) :
    Calls Tryd.prog 36 #[.slice a l.length c] w fun r w' => r = .returned (.tuple #[.slice none 0 0, .int .i64 (played l).2.2]) ∧ Below w.heap.size w w' := by
  have e2 : ((played l).2.2 != 0) = true := by simpa using he
  go_enter Tryd.func36, Tryd.ntmps36
  go_wp2_with fail
  refine (check_any l a c _ h).mono ?_
  rintro r w1 ⟨rfl, hb⟩
  go_wp2
  go_ret2
  exact ⟨rfl, hb⟩

/-- Who is ahead: the answer of Before. -/
def befM (l : List Ev) (i j : Nat) : Bool := rowsTo l l.length j i
def befL (l : List Ev) : List (Int × Int) := allP (befM l) l.length l.length
def BefPost (L : List (Int × Int)) (w : World) (r : Ending) (w' : World) : Prop := ∃ v, r = .returned (.tuple #[v, .int .i64 0]) ∧ w'.ownsRow w.heap.size 76 2 v L.length (prL L) ∧ Below w.heap.size w w'
theorem before_ok (l : List Ev) (a : Option Addr) (c : Nat) (w : World) (h : EvS w a l) (he : (played l).2.2 = 0) :
    Calls Tryd.prog 36 #[.slice a l.length c] w (BefPost (befL l) w) := by
  obtain ⟨hl80, _⟩ := played_evs he
  have HE := Lib.hid he
  clear he
  go_enter Tryd.func36, Tryd.ntmps36
  go_wp2_with fail
  refine (check_any l a c _ h).mono ?_
  rintro r w1 ⟨rfl, hb⟩
  rw [HE.out]
  replace h := h.below hb
  go_wp2_with fail
  refine (ahead_any l a c _ h hl80).mono ?_
  rintro r w2 ⟨B, rfl, hA⟩
  have hN := Has.new w2 #[.slice (some ⟨w1.heap.size, 0, none⟩) l.length l.length] 102
  have hA2 := hA.next ((Below.refl _ w2).alloc (Nat.le_refl _) (.cells #[.slice (some ⟨w1.heap.size, 0, none⟩) l.length l.length] 102))
  have hb2 := hb.trans (hA2.below.mono hb.size)
  clear h hA
  go_wp2_with fail
  refine (pairs_before (.pointer (some ⟨w2.heap.size, 0, none⟩)) (befM l) l a c _ hl80 ?_).mono ?_
  · intro i j W hW hij hj
    have hA3 := hA2.next hW
    exact before1_any i j w2.heap.size w1.heap.size l.length B (rowsTo l l.length) W (hN.below hW hN.lt) hA3.top (hA3.rows j hj) (by omega) hj
  rintro r w3 ⟨v, rfl, hown, hq⟩
  have hb3 := hb2.trans (hq.mono hb2.size)
  go_wp2
  go_ret2
  exact ⟨v, rfl, own_low hown hb2.size, hb3⟩
end Go.Proofs.YtmeidjhojanogaaDoor

/- What the rows of 'ahead' are: the transitive closure of 'directly'. No program. -/
namespace Go.Proofs.YtmeidjhojanogaaDoor

/-- Is event k ahead of event j? -/
def R (l : List Ev) (j k : Nat) : Bool := rowsTo l (j + 1) j k
abbrev Spec (l : List Ev) (a : Nat) : Prop := ∀ k, R l a k = true ↔ ∃ i, i < a ∧ dirE (evAt l i) (evAt l a) = true ∧ (k = i ∨ R l i k = true)
theorem rowDn_iff (l : List Ev) (prev : Nat → Nat → Bool) (b : Ev) (ht : ∀ i k x, prev i k = true → prev k x = true → prev i x = true) :
    ∀ (m : Nat) (cur : Nat → Bool), (∀ i k, cur i = true → prev i k = true → cur k = true) → ∀ k, (rowDn l prev b m cur k = true ↔ cur k = true ∨ ∃ i, i < m ∧ dirE (evAt l i) b = true ∧ (k = i ∨ prev i k = true)) := by
  intro m
  induction m with
  | zero => intro cur _ k; simp [rowDn]
  | succ m ih =>
    intro cur hc k
    by_cases h : cur m = false ∧ dirE (evAt l m) b = true
    · rw [rowDn, if_pos h, ih _ (by
        intro i k hi hp
        simp only [Bool.or_eq_true] at hi ⊢
        rcases hi with hi | hi
        · by_cases e : i = m
          · subst e; exact .inr hp
          · rw [if_neg e] at hi
            by_cases e2 : k = m
            · exact .inl (by rw [if_pos e2])
            · exact .inl (by rw [if_neg e2]; exact hc i k hi hp)
        · exact .inr (ht m i k hi hp)) k]
      simp only [Bool.or_eq_true]
      constructor
      · rintro ((h1 | h1) | ⟨i, h1, h2, h3⟩)
        · by_cases e : k = m
          · exact .inr ⟨m, by omega, h.2, .inl e⟩
          · rw [if_neg e] at h1; exact .inl h1
        · exact .inr ⟨m, by omega, h.2, .inr h1⟩
        · exact .inr ⟨i, by omega, h2, h3⟩
      · rintro (h1 | ⟨i, h1, h2, h3⟩)
        · refine .inl (.inl ?_)
          by_cases e : k = m
          · rw [if_pos e]
          · rw [if_neg e]; exact h1
        · by_cases e : i = m
          · subst e
            rcases h3 with rfl | h3
            · exact .inl (.inl (by rw [if_pos rfl]))
            · exact .inl (.inr h3)
          · exact .inr ⟨i, by omega, h2, h3⟩
    · rw [rowDn, if_neg h, ih _ hc k]
      constructor
      · rintro (h1 | ⟨i, h1, h2, h3⟩)
        · exact .inl h1
        · exact .inr ⟨i, by omega, h2, h3⟩
      · rintro (h1 | ⟨i, h1, h2, h3⟩)
        · exact .inl h1
        · by_cases e : i = m
          · subst e
            have hcm : cur i = true := by
              cases hh : cur i
              · exact absurd ⟨hh, h2⟩ h
              · rfl
            rcases h3 with rfl | h3
            · exact .inl hcm
            · exact .inl (hc i k hcm h3)
          · exact .inr ⟨i, by omega, h2, h3⟩
theorem rowsTo_out (l : List Ev) : ∀ (j r k : Nat), j ≤ r → rowsTo l j r k = false
  | 0, _, _, _ => rfl
  | j + 1, r, k, h => by
    have e : r ≠ j := by omega
    simp only [rowsTo, if_neg e]
    exact rowsTo_out l j r k (by omega)
theorem rowsTo_R (l : List Ev) (j r k : Nat) (h : r < j) : rowsTo l j r k = R l r k := rowsTo_lt l j r k h
theorem befM_R (l : List Ev) (i j : Nat) (h : j < l.length) : befM l i j = R l j i := rowsTo_R l _ j i h
theorem trans_of (l : List Ev) (j : Nat) (h : ∀ a, a < j → Spec l a) : ∀ a b c, a < j → R l a b = true → R l b c = true → R l a c = true := by
  intro a
  induction a using Nat.strongRecOn with
  | _ a ih =>
    intro b c ha h1 h2
    obtain ⟨i, hi, hd, h3⟩ := (h a ha b).1 h1
    refine (h a ha c).2 ⟨i, hi, hd, .inr ?_⟩
    rcases h3 with rfl | h3
    · exact h2
    · exact ih i hi b c (by omega) h3 h2
theorem spec_all (l : List Ev) : ∀ a, Spec l a := by
  have h : ∀ j a, a < j → Spec l a := by
    intro j
    induction j with
    | zero => intro a ha; omega
    | succ j ih =>
      intro a ha
      by_cases e : a < j
      · exact ih a e
      · obtain rfl : a = j := by omega
        intro k
        have ht := trans_of l a ih
        have hk := rowDn_iff l (rowsTo l a) (evAt l a) (by
          intro i k x h1 h2
          by_cases hi : i < a
          · rw [rowsTo_R l a i _ hi] at h1 ⊢
            by_cases hk : k < a
            · rw [rowsTo_R l a k _ hk] at h2
              exact ht i k x hi h1 h2
            · rw [rowsTo_out l a k _ (by omega)] at h2; cases h2
          · rw [rowsTo_out l a i _ (by omega)] at h1; cases h1) a (fun _ => false) (by intro i k h; cases h) k
        have e1 : R l a k = rowDn l (rowsTo l a) (evAt l a) a (fun _ => false) k := by simp only [R, rowsTo, if_true]
        rw [e1, hk]
        constructor
        · rintro (h | ⟨i, h1, h2, h3⟩)
          · cases h
          · exact ⟨i, h1, h2, by rw [← rowsTo_R l a i k h1]; exact h3⟩
        · rintro ⟨i, h1, h2, h3⟩
          exact .inr ⟨i, h1, h2, by rw [rowsTo_R l a i k h1]; exact h3⟩
  exact fun a => h (a + 1) a (by omega)
theorem R_trans {l : List Ev} {a b c : Nat} (h1 : R l a b = true) (h2 : R l b c = true) : R l a c = true :=
  trans_of l (a + 1) (fun a _ => spec_all l a) a b c (by omega) h1 h2
theorem R_lt {l : List Ev} : ∀ {a b : Nat}, R l a b = true → b < a := by
  intro a
  induction a using Nat.strongRecOn with
  | _ a ih =>
    intro b h
    obtain ⟨i, hi, _, rfl | h3⟩ := (spec_all l a b).1 h
    · exact hi
    · have := ih i hi h3; omega
theorem R_dir {l : List Ev} {a b : Nat} (h : b < a) (hd : dirE (evAt l b) (evAt l a) = true) : R l a b = true := (spec_all l a b).2 ⟨b, h, hd, .inl rfl⟩
/-- From the left: a direct step, and the rest. -/
theorem R_left {l : List Ev} : ∀ {a b : Nat}, R l a b = true → dirE (evAt l b) (evAt l a) = true ∨ ∃ k, b < k ∧ dirE (evAt l b) (evAt l k) = true ∧ R l a k = true := by
  intro a
  induction a using Nat.strongRecOn with
  | _ a ih =>
    intro b h
    obtain ⟨i, hi, hd, rfl | h3⟩ := (spec_all l a b).1 h
    · exact .inl hd
    · rcases ih i hi h3 with h4 | ⟨k, h4, h5, h6⟩
      · exact .inr ⟨i, R_lt h3, h4, R_dir hi hd⟩
      · exact .inr ⟨k, h4, h5, R_trans (R_dir hi hd) h6⟩
theorem evAt_take (l : List Ev) (n i : Nat) (h : i < n) : evAt (l.take n) i = evAt l i := by
  simp [evAt, h]
theorem R_take (l : List Ev) (n : Nat) : ∀ (a b : Nat), a < n → R (l.take n) a b = R l a b := by
  intro a
  induction a using Nat.strongRecOn with
  | _ a ih =>
    intro b ha
    apply Bool.eq_iff_iff.2
    rw [spec_all l a b, spec_all (l.take n) a b]
    constructor
    · rintro ⟨i, h1, h2, h3⟩
      rw [evAt_take l n i (by omega), evAt_take l n a ha] at h2
      rw [ih i h1 b (by omega)] at h3
      exact ⟨i, h1, h2, h3⟩
    · rintro ⟨i, h1, h2, h3⟩
      refine ⟨i, h1, ?_, ?_⟩
      · rw [evAt_take l n i (by omega), evAt_take l n a ha]; exact h2
      · rw [ih i h1 b (by omega)]; exact h3
theorem mem_befL {l : List Ev} {p : Int × Int} : p ∈ befL l ↔ ∃ i j : Nat, p = ((i : Int), (j : Int)) ∧ j < l.length ∧ R l j i = true := by
  rw [befL, mem_allP]
  constructor
  · rintro ⟨i, j, h1, h2, h3, h4⟩
    exact ⟨i, j, h1, h3, by rw [← befM_R l i j h3]; exact h4⟩
  · rintro ⟨i, j, h1, h3, h4⟩
    exact ⟨i, j, h1, R_lt h4, h3, by rw [befM_R l i j h3]; exact h4⟩
theorem mem_befL_nat {l : List Ev} {i j : Nat} : ((i : Int), (j : Int)) ∈ befL l ↔ j < l.length ∧ R l j i = true := by
  rw [mem_befL]
  constructor
  · rintro ⟨a, b, h1, h2, h3⟩
    simp only [Prod.mk.injEq] at h1
    obtain rfl : a = i := by omega
    obtain rfl : b = j := by omega
    exact ⟨h2, h3⟩
  · exact fun ⟨h1, h2⟩ => ⟨i, j, rfl, h1, h2⟩
end Go.Proofs.YtmeidjhojanogaaDoor

/- All events of one lock are ordered. No program. -/
namespace Go.Proofs.YtmeidjhojanogaaDoor

def isLk (e : Ev) : Bool := decide (e.k = 3) || decide (e.k = 4)
theorem isLk_iff {e : Ev} : isLk e = true ↔ e.k = 3 ∨ e.k = 4 := by simp [isLk]
theorem lock_last {l : List Ev} (h : (played l).2.2 = 0) {i : Nat} (hi : i < l.length) (hk : isLk (evAt l i) = true) :
    ∀ m, i < m → m ≤ l.length → ∃ q, i ≤ q ∧ q < m ∧ isLk (evAt l q) = true ∧ (evAt l q).o = (evAt l i).o ∧ (q = i ∨ R l q i = true) ∧ (∀ p, q < p → p < m → ¬ (isLk (evAt l p) = true ∧ (evAt l p).o = (evAt l i).o)) ∧ (stAt l m).owner (evAt l i).o.toNat = if (evAt l q).k = 3 then (evAt l q).t + 1 else 0 := by
  intro m
  induction m with
  | zero => intro h; omega
  | succ m ih =>
    intro him hml
    have hm : m < l.length := by omega
    rw [stAt, stFrom_succ _ _ _ hm]
    by_cases e : m = i
    · subst e
      exact ⟨m, Nat.le_refl _, by omega, hk, rfl, .inl rfl, fun p h1 h2 => by omega, lock_own (isLk_iff.1 hk)⟩
    · obtain ⟨q, h1, h2, h3, h4, h5, h7, h6⟩ := ih (by omega) (by omega)
      by_cases hl : isLk (evAt l m) = true ∧ (evAt l m).o = (evAt l i).o
      · refine ⟨m, by omega, by omega, hl.1, hl.2, .inr ?_, fun p h1 h2 => by omega, by rw [← hl.2]; exact lock_own (isLk_iff.1 hl.1)⟩
        have hd : R l m q = true := by
          refine R_dir (by omega) (dirE_iff.2 ?_)
          have ho : (evAt l q).o = (evAt l m).o := h4.trans hl.2.symm
          have er := err0 ((ok_at h).1 m hm)
          have b1 := ev_at h hm
          have b2 := ev_at h (show q < l.length by omega)
          rw [hl.2] at er
          rcases isLk_iff.1 hl.1 with k3 | k4
          · have e1 := er.2.2.2.1 k3
            rw [h6] at e1
            by_cases kq : (evAt l q).k = 3
            · rw [if_pos kq] at e1; omega
            · have kq4 : (evAt l q).k = 4 := by rcases isLk_iff.1 h3 with h | h; exact absurd h kq; exact h
              exact .inr (.inl ⟨.inl ⟨kq4, k3⟩, ho⟩)
          · have e1 := er.2.2.2.2.1 k4
            rw [h6] at e1
            by_cases kq : (evAt l q).k = 3
            · rw [if_pos kq] at e1; exact .inl (by omega)
            · rw [if_neg kq] at e1; omega
        rcases h5 with rfl | h5
        · exact hd
        · exact R_trans hd h5
      · refine ⟨q, h1, by omega, h3, h4, h5, ?_, ?_⟩
        · intro p p1 p2
          by_cases e : p = m
          · subst e; exact hl
          · exact h7 p p1 (by omega)
        rw [← h6]
        exact lock_step (ev_at h hi).2.2.1 (ev_at h hm).2.2.1 (fun hh => hl ⟨isLk_iff.2 hh.1, hh.2⟩)
theorem locks_ordered {l : List Ev} (h : (played l).2.2 = 0) {i j : Nat} (hij : i < j) (hj : j < l.length) (hi : isLk (evAt l i) = true) (hk : isLk (evAt l j) = true) (ho : (evAt l i).o = (evAt l j).o) : R l j i = true := by
  obtain ⟨q, h1, h2, h3, h4, h5, h7, h6⟩ := lock_last h (show i < l.length by omega) hi (j + 1) (by omega) (by omega)
  by_cases e : q = j
  · subst e
    rcases h5 with rfl | h5
    · omega
    · exact h5
  · exact absurd ⟨hk, ho.symm⟩ (h7 j (by omega) (by omega))
end Go.Proofs.YtmeidjhojanogaaDoor

/- Races, plain. No program. -/
namespace Go.Proofs.YtmeidjhojanogaaDoor

/-- A race. -/
structure Rc where
  a : Int
  b : Int
  v : Int
  k : Int
deriving DecidableEq
def isAccR (e : Ev) : Bool := decide (e.k = 1) || decide (e.k = 2)
theorem isAccR_iff {e : Ev} : isAccR e = true ↔ e.k = 1 ∨ e.k = 2 := by simp [isAccR]
def kindR (a b : Ev) : Int := if a.k = 2 ∧ b.k = 2 then 1 else if a.k = 2 then 2 else if b.k = 2 then 3 else 0
/-- Do two places race, the first one ahead in the trace? -/
def raceB (l : List Ev) (i j : Nat) : Bool :=
  isAccR (evAt l i) && isAccR (evAt l j) && decide ((evAt l i).o = (evAt l j).o) && !R l j i && (decide ((evAt l i).k = 2) || decide ((evAt l j).k = 2))
theorem raceB_iff {l : List Ev} {i j : Nat} : raceB l i j = true ↔ isAccR (evAt l i) = true ∧ isAccR (evAt l j) = true ∧ (evAt l i).o = (evAt l j).o ∧ R l j i = false ∧ ((evAt l i).k = 2 ∨ (evAt l j).k = 2) := by
  simp [raceB, and_assoc]
def raceOf (l : List Ev) (i j : Nat) : Rc := ⟨i, j, (evAt l i).o, kindR (evAt l i) (evAt l j)⟩
/-- The races with first place i and a second one below j; with a first place below i. -/
def rowR (l : List Ev) (i j : Nat) : List Rc := ((List.range j).filter fun k => decide (i < k) && raceB l i k).map fun k => raceOf l i k
def allR (l : List Ev) (n i : Nat) : List Rc := (List.range i).flatMap fun a => rowR l a n
abbrev raceL (l : List Ev) : List Rc := allR l l.length l.length
theorem rowR_start (l : List Ev) (i : Nat) : rowR l i (i + 1) = [] := by
  simp [rowR, List.filter_eq_nil_iff]
  intro a ha h; omega
theorem rowR_yes {l : List Ev} {i j : Nat} (h : i < j) (hH : raceB l i j = true) : rowR l i (j + 1) = rowR l i j ++ [raceOf l i j] := by
  simp [rowR, List.range_succ, List.filter_append, h, hH]
theorem rowR_no {l : List Ev} {i j : Nat} (hH : raceB l i j = false) : rowR l i (j + 1) = rowR l i j := by
  simp [rowR, List.range_succ, List.filter_append, hH]
theorem allR_succ (l : List Ev) (n i : Nat) : allR l n (i + 1) = allR l n i ++ rowR l i n := by
  simp [allR, List.range_succ]
theorem rowR_len (l : List Ev) (i j : Nat) : (rowR l i j).length ≤ j := by
  simpa [rowR] using List.length_filter_le (fun k => decide (i < k) && raceB l i k) (List.range j)
theorem allR_len (l : List Ev) (n : Nat) : ∀ i, (allR l n i).length ≤ i * n
  | 0 => by simp [allR]
  | i + 1 => by
    rw [allR_succ, List.length_append, Nat.succ_mul]
    have := allR_len l n i
    have := rowR_len l i n
    omega
theorem mem_raceL {l : List Ev} {r : Rc} : r ∈ raceL l ↔ ∃ i j : Nat, r = raceOf l i j ∧ i < j ∧ j < l.length ∧ raceB l i j = true := by
  simp only [raceL, allR, List.mem_flatMap, List.mem_range, rowR, List.mem_map, List.mem_filter, Bool.and_eq_true, decide_eq_true_eq]
  constructor
  · rintro ⟨a, ha, k, ⟨h1, h2, h3⟩, rfl⟩
    exact ⟨a, k, rfl, h2, h1, h3⟩
  · rintro ⟨i, j, rfl, h1, h2, h3⟩
    exact ⟨i, by omega, j, ⟨h2, h1, h3⟩, rfl⟩
/-- The value, the cells of a race; the cells of a list. -/
abbrev rcC (r : Rc) : Array Value := #[.int .i64 r.a, .int .i64 r.b, .int .i64 r.v, .int .i64 r.k]
abbrev rcV (r : Rc) : Value := .agg (rcC r)
def rcL (l : List Rc) : List Value := l.flatMap fun r => [.int .i64 r.a, .int .i64 r.b, .int .i64 r.v, .int .i64 r.k]
theorem rcL_append (l m : List Rc) : rcL (l ++ m) = rcL l ++ rcL m := by simp [rcL]
theorem rcL_length (l : List Rc) : (rcL l).length = l.length * 4 := by
  induction l with
  | nil => rfl
  | cons e l ih => simp [rcL] at *; omega
theorem rcL_get (l : List Rc) : ∀ (i : Nat) (h : i < l.length), (rcL l)[i * 4]? = some (.int .i64 l[i].a) ∧ (rcL l)[i * 4 + 1]? = some (.int .i64 l[i].b) ∧ (rcL l)[i * 4 + 2]? = some (.int .i64 l[i].v) ∧ (rcL l)[i * 4 + 3]? = some (.int .i64 l[i].k) := by
  induction l with
  | nil => intro i h; simp at h
  | cons e l ih =>
    intro i h
    have hc : rcL (e :: l) = .int .i64 e.a :: .int .i64 e.b :: .int .i64 e.v :: .int .i64 e.k :: rcL l := rfl
    cases i with
    | zero => simp [hc]
    | succ i =>
      obtain ⟨h1, h2, h3, h4⟩ := ih i (by simpa using h)
      rw [hc, show (i + 1) * 4 = i * 4 + 1 + 1 + 1 + 1 by omega]
      simp only [List.getElem?_cons_succ, List.getElem_cons_succ]
      exact ⟨h1, h2, h3, h4⟩
theorem rcL_one (l : List Rc) : ∀ u ∈ rcL l, u.oneCell' = true := by
  intro u hu
  simp only [rcL, List.mem_flatMap] at hu
  obtain ⟨e, _, he⟩ := hu
  simp at he
  rcases he with rfl | rfl | rfl | rfl <;> rfl
/-- A slice of races: its elements read as a list. -/
structure RcS (w : World) (a : Option Addr) (l : List Rc) : Prop where
  big : l.length < 4611686018427387904
  ok : l = [] ∨ ∃ b o, a = some ⟨b, o, none⟩ ∧ ∀ i (h : i < l.length), w.cell? ⟨b, o + i * 4, none⟩ = some (.int .i64 l[i].a) ∧ w.cell? ⟨b, o + i * 4 + 1, none⟩ = some (.int .i64 l[i].b) ∧ w.cell? ⟨b, o + i * 4 + 2, none⟩ = some (.int .i64 l[i].v) ∧ w.cell? ⟨b, o + i * 4 + 3, none⟩ = some (.int .i64 l[i].k)
theorem RcS.below {w w' : World} {a : Option Addr} {l : List Rc} (h : RcS w a l) (k : Go.RowKit.Below w.heap.size w w') : RcS w' a l := by
  refine ⟨h.big, ?_⟩
  rcases h.ok with h0 | ⟨b, o, ha, hc⟩
  · exact .inl h0
  · refine .inr ⟨b, o, ha, fun i hi => ?_⟩
    obtain ⟨h1, h2, h3, h4⟩ := hc i hi
    exact ⟨(k.cell (World.block_lt_of_cell? w _ h1)).trans h1, (k.cell (World.block_lt_of_cell? w _ h2)).trans h2, (k.cell (World.block_lt_of_cell? w _ h3)).trans h3, (k.cell (World.block_lt_of_cell? w _ h4)).trans h4⟩
theorem RcS.at {w : World} {a : Option Addr} {l : List Rc} (h : RcS w a l) {i : Nat} (hi : i < l.length) : ∃ b o, a = some ⟨b, o, none⟩ ∧ w.cell? ⟨b, o + i * 4, none⟩ = some (.int .i64 l[i].a) ∧ w.cell? ⟨b, o + i * 4 + 1, none⟩ = some (.int .i64 l[i].b) ∧ w.cell? ⟨b, o + i * 4 + 2, none⟩ = some (.int .i64 l[i].v) ∧ w.cell? ⟨b, o + i * 4 + 3, none⟩ = some (.int .i64 l[i].k) := by
  rcases h.ok with h0 | ⟨b, o, ha, hc⟩
  · simp [h0] at hi
  · exact ⟨b, o, ha, hc i hi⟩
theorem rcS_own {w : World} {base : Nat} {e : TypeId} {v : Value} {l : List Rc} (h : w.ownsRow base e 4 v l.length (rcL l)) (hb : l.length < 4611686018427387904) : ∃ a c, v = .slice a l.length c ∧ RcS w a l := by
  rcases h.2 with ⟨rfl, hn⟩ | ⟨g, cap, cur, rfl, hg, hh, _⟩
  · exact ⟨none, 0, by rw [hn], ⟨hb, .inl (List.eq_nil_of_length_eq_zero hn)⟩⟩
  · refine ⟨_, _, rfl, ⟨hb, .inr ⟨g, 0, rfl, fun i hi => ?_⟩⟩⟩
    have hc := h.cells (g := g) rfl
    obtain ⟨h1, h2, h3, h4⟩ := rcL_get l i hi
    have e1 := hc _ _ h1
    have e2 := hc _ _ h2
    have e3 := hc _ _ h3
    have e4 := hc _ _ h4
    have hadd : ∀ n, (⟨g, 0, none⟩ : Addr).add n = ⟨g, 0 + n, none⟩ := by intro n; unfold Addr.add; split <;> simp_all
    rw [hadd] at e1 e2 e3 e4
    exact ⟨e1, e2, e3, e4⟩
theorem rcS_full {w : World} {g : Nat} {cs : Array Value} {l : List Rc} {e : TypeId} (h : Has w g cs e) (hc : cs = (rcL l).toArray) (hb : l.length < 4611686018427387904) : RcS w (some ⟨g, 0, none⟩) l :=
  ⟨hb, .inr ⟨g, 0, rfl, fun i hi => by
    obtain ⟨h1, h2, h3, h4⟩ := rcL_get l i hi
    subst hc
    rw [Nat.zero_add]
    exact ⟨h.cell (by simpa using h1), h.cell (by simpa using h2), h.cell (by simpa using h3), h.cell (by simpa using h4)⟩⟩⟩
end Go.Proofs.YtmeidjhojanogaaDoor

/- Plain laws of races: prefixes; one thread; reads; one lock. No program. -/
namespace Go.Proofs.YtmeidjhojanogaaDoor

theorem rowR_filter (l : List Ev) (i n : Nat) : ∀ m, n ≤ m → (rowR l i m).filter (fun r => decide (r.b < (n : Int))) = rowR l i n := by
  intro m
  induction m with
  | zero => intro h; obtain rfl : n = 0 := by omega
            rfl
  | succ m ih =>
    intro h
    by_cases e : n = m + 1
    · subst e
      rw [List.filter_eq_self]
      intro r hr
      simp only [rowR, List.mem_map, List.mem_filter, List.mem_range] at hr
      obtain ⟨k, ⟨hk, _⟩, rfl⟩ := hr
      have : (k : Int) < ((m + 1 : Nat) : Int) := by omega
      exact decide_eq_true this
    · have hn : n ≤ m := by omega
      by_cases hc : i < m ∧ raceB l i m = true
      · rw [rowR_yes hc.1 hc.2, List.filter_append, ih hn]
        have : ¬ (m : Int) < n := by omega
        simp [raceOf, this]
      · have hz : rowR l i (m + 1) = rowR l i m := by
          simp only [rowR, List.range_succ, List.filter_append, List.map_append]
          have : (decide (i < m) && raceB l i m) = false := by
            rw [Bool.eq_false_iff]
            simpa using hc
          simp [this]
        rw [hz, ih hn]
theorem allR_filter (l : List Ev) (m n i : Nat) (h : n ≤ m) : (allR l m i).filter (fun r => decide (r.b < (n : Int))) = allR l n i := by
  rw [allR, List.filter_flatMap]
  unfold allR
  congr 1
  funext a
  exact rowR_filter l a n m h
theorem rowR_none (l : List Ev) {i n : Nat} (h : n ≤ i + 1) : rowR l i n = [] := by
  simp only [rowR, List.map_eq_nil_iff, List.filter_eq_nil_iff, List.mem_range]
  intro k hk
  simp; omega
theorem allR_top (l : List Ev) (n : Nat) : ∀ i, n ≤ i → allR l n i = allR l n n := by
  intro i
  induction i with
  | zero => intro h; obtain rfl : n = 0 := by omega
            rfl
  | succ i ih =>
    intro h
    by_cases e : n = i + 1
    · subst e; rfl
    · rw [allR_succ, rowR_none l (by omega), List.append_nil, ih (by omega)]
theorem raceB_take (l : List Ev) {n i k : Nat} (hi : i < k) (hk : k < n) : raceB (l.take n) i k = raceB l i k := by
  simp only [raceB, evAt_take l n i (by omega), evAt_take l n k hk, R_take l n k i hk]
theorem raceOf_take (l : List Ev) {n i k : Nat} (hi : i < k) (hk : k < n) : raceOf (l.take n) i k = raceOf l i k := by
  simp only [raceOf, evAt_take l n i (by omega), evAt_take l n k hk]
theorem rowR_take (l : List Ev) (n i : Nat) : ∀ m, m ≤ n → rowR (l.take n) i m = rowR l i m := by
  intro m
  induction m with
  | zero => intro _; rfl
  | succ m ih =>
    intro hm
    by_cases hi : i < m
    · cases hb : raceB l i m
      · rw [rowR_no hb, rowR_no (by rw [raceB_take l hi (by omega)]; exact hb), ih (by omega)]
      · rw [rowR_yes hi hb, rowR_yes hi (by rw [raceB_take l hi (by omega)]; exact hb), ih (by omega), raceOf_take l hi (by omega)]
    · rw [rowR_none _ (by omega), rowR_none _ (by omega)]
/-- The races of a prefix are those whose second place is in it. -/
theorem raceL_take (l : List Ev) (n : Nat) (h : n ≤ l.length) : raceL (l.take n) = (raceL l).filter fun r => decide (r.b < (n : Int)) := by
  have hl : (l.take n).length = n := by simp; omega
  rw [raceL, hl, allR_filter l l.length n l.length h, allR_top l n l.length h]
  unfold allR
  congr 1
  funext a
  exact rowR_take l n a n (Nat.le_refl _)
theorem raceL_nil {l : List Ev} (h : ∀ i j, i < j → j < l.length → raceB l i j = false) : raceL l = [] := by
  rw [List.eq_nil_iff_forall_not_mem]
  intro r hr
  obtain ⟨i, j, _, h1, h2, h3⟩ := mem_raceL.1 hr
  rw [h i j h1 h2] at h3; cases h3
/-- Of one thread nothing races. -/
theorem raceL_one {l : List Ev} (h : ∀ e ∈ l, e.t = 0) : raceL l = [] := by
  refine raceL_nil fun i j hij hj => ?_
  have hi : (evAt l i).t = 0 := by rw [evAt_lt (show i < l.length by omega)]; exact h _ (List.getElem_mem _)
  have hjt : (evAt l j).t = 0 := by rw [evAt_lt hj]; exact h _ (List.getElem_mem _)
  have hR : R l j i = true := R_dir hij (dirE_iff.2 (.inl (by rw [hi, hjt])))
  simp [raceB, hR]
/-- Reads do not race. -/
theorem raceL_reads {l : List Ev} (h : ∀ e ∈ l, e.k ≠ 2) : raceL l = [] := by
  refine raceL_nil fun i j hij hj => ?_
  have hi : (evAt l i).k ≠ 2 := by rw [evAt_lt (show i < l.length by omega)]; exact h _ (List.getElem_mem _)
  have hjt : (evAt l j).k ≠ 2 := by rw [evAt_lt hj]; exact h _ (List.getElem_mem _)
  simp [raceB, hi, hjt]
/-- Two events of threads that have one lock are ordered. -/
theorem held_ordered {l : List Ev} (h : (played l).2.2 = 0) {i j o : Nat} (hij : i < j) (hj : j < l.length) (hi : (stAt l i).owner o = (evAt l i).t + 1) (hk : (stAt l j).owner o = (evAt l j).t + 1) : R l j i = true := by
  have key : ∀ m, i ≤ m → m ≤ l.length → ((stAt l m).owner o = (evAt l i).t + 1 ∧ True) ∨ ∃ q, i ≤ q ∧ q < m ∧ isLk (evAt l q) = true ∧ (evAt l q).o = o ∧ (q = i ∨ R l q i = true) ∧ (stAt l m).owner o = if (evAt l q).k = 3 then (evAt l q).t + 1 else 0 := by
    intro m
    induction m with
    | zero => intro h1 _; obtain rfl : i = 0 := by omega
              exact .inl ⟨hi, trivial⟩
    | succ m ih =>
      intro him hml
      have hm : m < l.length := by omega
      by_cases e : i = m + 1
      · subst e; exact .inl ⟨hi, trivial⟩
      · have bi := ev_at h (show i < l.length by omega)
        have bm := ev_at h hm
        rw [stAt, stFrom_succ _ _ _ hm]
        by_cases hl : isLk (evAt l m) = true ∧ (evAt l m).o = o
        · have er := err0 ((ok_at h).1 m hm)
          have hon : (evAt l m).o.toNat = o := by have := hl.2; omega
          have ihm := ih (by omega) (by omega)
          refine .inr ⟨m, by omega, by omega, hl.1, hl.2, ?_, by rw [← hon]; exact lock_own (isLk_iff.1 hl.1)⟩
          by_cases e2 : m = i
          · exact .inl e2
          · right
            rw [hon] at er
            rcases ihm with ⟨h1, _⟩ | ⟨q, h1, h2, h3, h4, h5, h6⟩
            · rcases isLk_iff.1 hl.1 with k3 | k4
              · have := er.2.2.2.1 k3
                omega
              · have := er.2.2.2.2.1 k4
                exact R_dir (by omega) (dirE_iff.2 (.inl (by omega)))
            · have bq := ev_at h (show q < l.length by omega)
              have hd : R l m q = true := by
                refine R_dir h2 (dirE_iff.2 ?_)
                rcases isLk_iff.1 hl.1 with k3 | k4
                · have e1 := er.2.2.2.1 k3
                  rw [h6] at e1
                  by_cases kq : (evAt l q).k = 3
                  · rw [if_pos kq] at e1; omega
                  · have kq4 : (evAt l q).k = 4 := by rcases isLk_iff.1 h3 with h | h; exact absurd h kq; exact h
                    exact .inr (.inl ⟨.inl ⟨kq4, k3⟩, by omega⟩)
                · have e1 := er.2.2.2.2.1 k4
                  rw [h6] at e1
                  by_cases kq : (evAt l q).k = 3
                  · rw [if_pos kq] at e1; exact .inl (by omega)
                  · rw [if_neg kq] at e1; omega
              rcases h5 with rfl | h5
              · exact hd
              · exact R_trans hd h5
        · have hst : (nxt (stFrom St.first l m) (evAt l m)).owner o = (stFrom St.first l m).owner o := by
            have := lock_step (s := stFrom St.first l m) (e := evAt l m) (o := (o : Int)) (by omega) bm.2.2.1 (fun hh => hl ⟨isLk_iff.2 hh.1, hh.2⟩)
            simpa using this
          rw [hst]
          have ihm := ih (by omega) (by omega)
          rcases ihm with ⟨h1, _⟩ | ⟨q, h1, h2, h3, h4, h5, h6⟩
          · exact .inl ⟨h1, trivial⟩
          · exact .inr ⟨q, h1, by omega, h3, h4, h5, h6⟩
  have bj := ev_at h hj
  rcases key j (by omega) (by omega) with ⟨h1, _⟩ | ⟨q, h1, h2, h3, h4, h5, h6⟩
  · exact R_dir hij (dirE_iff.2 (.inl (by omega)))
  · rw [hk] at h6
    have hq : R l j q = true := by
      by_cases kq : (evAt l q).k = 3
      · rw [if_pos kq] at h6
        exact R_dir h2 (dirE_iff.2 (.inl (by omega)))
      · rw [if_neg kq] at h6; omega
    rcases h5 with rfl | h5
    · exact hq
    · exact R_trans hq h5
end Go.Proofs.YtmeidjhojanogaaDoor

/- The detectors' clocks, plain; an epoch is known exactly to what comes behind it. No program. -/
namespace Go.Proofs.YtmeidjhojanogaaDoor

/-- Clocks of threads, locks and signals. -/
structure Fk where
  C : Nat → Nat → Int
  lk : Nat → Nat → Int
  vo : Nat → Nat → Int
def Fk.first : Fk := ⟨fun t τ => if t = τ then 1 else 0, fun _ _ => 0, fun _ _ => 0⟩
def upF (F : Nat → Nat → Int) (k : Nat) (f : Nat → Int) : Nat → Nat → Int := fun i => if i = k then f else F i
def tkF (f : Nat → Int) (t : Nat) : Nat → Int := fun i => if i = t then f i + 1 else f i
/-- An event that is no access. -/
def fSync (s : Fk) (e : Ev) : Fk :=
  if e.k = 3 then { s with C := upF s.C e.t.toNat (cmax (s.C e.t.toNat) (s.lk e.o.toNat)) }
  else if e.k = 4 then { s with lk := upF s.lk e.o.toNat (s.C e.t.toNat), C := upF s.C e.t.toNat (tkF (s.C e.t.toNat) e.t.toNat) }
  else if e.k = 5 then { s with C := upF (upF s.C e.o.toNat (cmax (s.C e.o.toNat) (s.C e.t.toNat))) e.t.toNat (tkF ((upF s.C e.o.toNat (cmax (s.C e.o.toNat) (s.C e.t.toNat))) e.t.toNat) e.t.toNat) }
  else if e.k = 6 then { s with C := upF s.C e.t.toNat (cmax (s.C e.t.toNat) (s.C e.o.toNat)) }
  else if e.k = 7 then { s with C := upF s.C e.t.toNat (cmax (s.C e.t.toNat) (s.vo e.o.toNat)) }
  else if e.k = 8 then { s with vo := upF s.vo e.o.toNat (cmax (s.vo e.o.toNat) (s.C e.t.toNat)), C := upF s.C e.t.toNat (tkF (s.C e.t.toNat) e.t.toNat) }
  else s
/-- Behind m events. -/
def fAt (l : List Ev) : Nat → Fk
  | 0 => Fk.first
  | m + 1 => fSync (fAt l m) (evAt l m)
/-- What an event's thread knows ahead of it. -/
def vw (l : List Ev) (i : Nat) : Nat → Int := (fAt l i).C (evAt l i).t.toNat
/-- The epoch of an event. -/
def epo (l : List Ev) (i : Nat) : Int := vw l i (evAt l i).t.toNat
section
variable {l : List Ev} (h : (played l).2.2 = 0)
include h
theorem tn {i : Nat} (hi : i < l.length) : ((evAt l i).t.toNat : Int) = (evAt l i).t := by
  have := ev_at h hi; omega
theorem on {i : Nat} (hi : i < l.length) : ((evAt l i).o.toNat : Int) = (evAt l i).o := by
  have := ev_at h hi; omega
theorem fork_ne {i : Nat} (hi : i < l.length) (hk : (evAt l i).k = 5) : (evAt l i).o ≠ (evAt l i).t := by
  intro e
  have := fork_lt h hi hi hk e.symm
  omega
end
/-- Who is not over is ahead of all in what is known of it; nobody knows more of a thread than it does; all is at least 0, and of one's own at least 1. -/
structure FOk (s : Fk) (ov : Nat → Bool) : Prop where
  pos : ∀ t, 1 ≤ s.C t t
  nn : ∀ u t, 0 ≤ s.C u t ∧ 0 ≤ s.lk u t ∧ 0 ≤ s.vo u t
  le : ∀ u t, s.C u t ≤ s.C t t ∧ s.lk u t ≤ s.C t t ∧ s.vo u t ≤ s.C t t
  lt : ∀ u t, u ≠ t → ov t = false → s.C u t < s.C t t
  lk : ∀ o t, ov t = false → s.lk o t < s.C t t ∧ s.vo o t < s.C t t
theorem FOk.init (ov : Nat → Bool) : FOk Fk.first ov := by
  refine ⟨fun t => by simp [Fk.first], fun u t => ⟨?_, Int.le_refl _, Int.le_refl _⟩, fun u t => ⟨?_, ?_, ?_⟩, fun u t hu _ => ?_, fun o t _ => ?_⟩
  · simp only [Fk.first]; split <;> omega
  · simp only [Fk.first]; split <;> simp
  · simp [Fk.first]
  · simp [Fk.first]
  · simp [Fk.first, hu]
  · simp [Fk.first]
set_option maxHeartbeats 8000000 in
theorem FOk.step {s : Fk} {e : Ev} {ov ov' : Nat → Bool} (hI : FOk s ov) (ha : ov e.t.toNat = false) (ho : ∀ t, ov' t = false → ov t = false ∧ (e.k = 6 → t ≠ e.o.toNat))
    (hn5 : e.k = 5 → e.o.toNat ≠ e.t.toNat) (hn6 : e.k = 6 → e.o.toNat ≠ e.t.toNat) : FOk (fSync s e) ov' := by
  obtain ⟨pos, nn, le, lt, lk⟩ := hI
  unfold fSync
  generalize e.t.toNat = a at *
  generalize e.o.toNat = b at *
  generalize e.k = k at *
  repeat' split
  all_goals
    refine ⟨fun t => ?_, fun u t => ?_, fun u t => ?_, fun u t hu hov => ?_, fun u t hov => ?_⟩
    all_goals
      have p1 := pos t
      have p2 := pos a
      have p3 := pos b
      have nt := nn t t
      have na := nn a t
      have nb := nn b t
      have la := le a t
      have lb := le b t
      have lab := le a b
      have lba := le b a
      have laa := lt b a
      try have nu := nn u t
      try have lu := le u t
      try have hov2 := ho t hov
      try have ltu := fun hne => lt u t hne hov2.1
      try have lta := fun hne => lt a t hne hov2.1
      try have ltb := fun hne => lt b t hne hov2.1
      try have lku := lk u t hov2.1
      try have lkb := lk b t hov2.1
      clear pos nn le lt lk ho
      try simp only [upF]
      (repeat' (first | split | simp only [cmax] | simp only [tkF])) <;> (try subst_vars) <;> (first | omega | (simp_all; try omega))
section
variable {l : List Ev} (h : (played l).2.2 = 0)
include h
theorem finv : ∀ m, m ≤ l.length → FOk (fAt l m) (stAt l m).over := by
  intro m
  induction m with
  | zero => exact fun _ => FOk.init _
  | succ m ih =>
    intro hm1
    have hm : m < l.length := by omega
    have er := err0 ((ok_at h).1 m hm)
    have et := tn h hm
    have eo := on h hm
    refine (ih (by omega)).step er.2.2.1 ?_ ?_ ?_
    · intro t ht
      rw [stAt, stFrom_succ _ _ _ hm] at ht
      constructor
      · cases hh : (stAt l m).over t
        · rfl
        · rw [nxt_over hh] at ht; cases ht
      · rintro k6 rfl
        simp [nxt, k6, updB] at ht
    · intro k
      have := fork_ne h hm k
      omega
    · intro k
      have := (er.2.2.2.2.2.2 k).2
      omega
end
end Go.Proofs.YtmeidjhojanogaaDoor

/- An access is known by its epoch: it happens before a later access exactly if that one's thread has seen its epoch. No program. -/
namespace Go.Proofs.YtmeidjhojanogaaDoor

/-- Thread u knows of event i, ahead of place m. -/
def Kn (l : List Ev) (u i m : Nat) : Prop := ∃ q, q < m ∧ ((evAt l q).t = u ∨ ((evAt l q).k = 5 ∧ (evAt l q).o = u)) ∧ R l q i = true
/-- A Release, a Show of o, ahead of place m, knows of event i. -/
def Kr (l : List Ev) (k : Int) (o i m : Nat) : Prop := ∃ q, q < m ∧ (evAt l q).k = k ∧ (evAt l q).o = o ∧ R l q i = true
theorem Kn_succ {l : List Ev} {u i m : Nat} : Kn l u i (m + 1) ↔ Kn l u i m ∨ (((evAt l m).t = u ∨ ((evAt l m).k = 5 ∧ (evAt l m).o = u)) ∧ R l m i = true) := by
  constructor
  · rintro ⟨q, h1, h2, h3⟩
    by_cases e : q = m
    · subst e; exact .inr ⟨h2, h3⟩
    · exact .inl ⟨q, by omega, h2, h3⟩
  · rintro (⟨q, h1, h2, h3⟩ | ⟨h2, h3⟩)
    · exact ⟨q, by omega, h2, h3⟩
    · exact ⟨m, by omega, h2, h3⟩
theorem Kr_succ {l : List Ev} {k : Int} {o i m : Nat} : Kr l k o i (m + 1) ↔ Kr l k o i m ∨ ((evAt l m).k = k ∧ (evAt l m).o = o ∧ R l m i = true) := by
  constructor
  · rintro ⟨q, h1, h2, h3, h4⟩
    by_cases e : q = m
    · subst e; exact .inr ⟨h2, h3, h4⟩
    · exact .inl ⟨q, by omega, h2, h3, h4⟩
  · rintro (⟨q, h1, h2, h3, h4⟩ | ⟨h2, h3, h4⟩)
    · exact ⟨q, by omega, h2, h3, h4⟩
    · exact ⟨m, by omega, h2, h3, h4⟩
section
variable {l : List Ev} (h : (played l).2.2 = 0)
include h
/-- What is directly ahead of event m, by its kind. -/
theorem R_kinds {i m : Nat} (hi : i < m) (hm : m < l.length) (hacc : (evAt l i).k = 1 ∨ (evAt l i).k = 2) :
    R l m i = true ↔ (evAt l m).t.toNat = (evAt l i).t.toNat ∨ Kn l (evAt l m).t.toNat i m ∨ ((evAt l m).k = 3 ∧ Kr l 4 (evAt l m).o.toNat i m) ∨ ((evAt l m).k = 7 ∧ Kr l 8 (evAt l m).o.toNat i m) ∨
      ((evAt l m).k = 6 ∧ ((evAt l m).o.toNat = (evAt l i).t.toNat ∨ Kn l (evAt l m).o.toNat i m)) := by
  have et := tn h hm
  have eo := on h hm
  have ei := tn h (show i < l.length by omega)
  rw [spec_all l m i]
  constructor
  · rintro ⟨x, h1, h2, h3⟩
    rw [dirE_iff] at h2
    rcases h3 with rfl | h3
    · rcases h2 with h2 | ⟨h2, h4⟩ | h2 | h2
      · exact .inl (by omega)
      · omega
      · omega
      · exact .inr (.inr (.inr (.inr ⟨h2.1, .inl (by omega)⟩)))
    · rcases h2 with h2 | ⟨h2 | h2 | h2, h4⟩ | h2 | h2
      · exact .inr (.inl ⟨x, h1, .inl (by omega), h3⟩)
      · exact .inr (.inr (.inl ⟨h2.2, x, h1, h2.1, by omega, h3⟩))
      · exact .inr (.inr (.inr (.inl ⟨h2.2, x, h1, h2.1, by omega, h3⟩)))
      · exact .inr (.inr (.inr (.inr ⟨h2.2, .inr ⟨x, h1, .inr ⟨h2.1, by omega⟩, h3⟩⟩)))
      · exact .inr (.inl ⟨x, h1, .inr ⟨h2.1, by omega⟩, h3⟩)
      · exact .inr (.inr (.inr (.inr ⟨h2.1, .inr ⟨x, h1, .inl (by omega), h3⟩⟩)))
  · rintro (h1 | ⟨x, h1, h2, h3⟩ | ⟨h1, x, h2, h3, h4, h5⟩ | ⟨h1, x, h2, h3, h4, h5⟩ | ⟨h1, h2 | ⟨x, h2, h3, h4⟩⟩)
    · exact ⟨i, hi, dirE_iff.2 (.inl (by omega)), .inl rfl⟩
    · refine ⟨x, h1, dirE_iff.2 ?_, .inr h3⟩
      rcases h2 with h2 | h2
      · exact .inl (by omega)
      · exact .inr (.inr (.inl ⟨h2.1, by omega⟩))
    · exact ⟨x, h2, dirE_iff.2 (.inr (.inl ⟨.inl ⟨h3, h1⟩, by omega⟩)), .inr h5⟩
    · exact ⟨x, h2, dirE_iff.2 (.inr (.inl ⟨.inr (.inl ⟨h3, h1⟩), by omega⟩)), .inr h5⟩
    · exact ⟨i, hi, dirE_iff.2 (.inr (.inr (.inr ⟨h1, by omega⟩))), .inl rfl⟩
    · refine ⟨x, h2, dirE_iff.2 ?_, .inr h4⟩
      rcases h3 with h3 | h3
      · exact .inr (.inr (.inr ⟨h1, by omega⟩))
      · exact .inr (.inl ⟨.inr (.inr ⟨h3.1, h1⟩), by omega⟩)
/-- What is known of event i, of thread t and epoch n, in a state of clocks. -/
structure EI (s : Fk) (t : Nat) (n : Int) (K : Nat → Prop) (L V : Nat → Prop) : Prop where
  own : n ≤ s.C t t
  th : ∀ u, u ≠ t → (n ≤ s.C u t ↔ K u)
  lk : ∀ o, (n ≤ s.lk o t ↔ L o)
  vo : ∀ o, (n ≤ s.vo o t ↔ V o)
end
set_option maxHeartbeats 8000000 in
theorem EI.step {s : Fk} {e : Ev} {t : Nat} {n : Int} {K K' L L' V V' : Nat → Prop} {Rm : Prop} (hI : EI s t n K L V) (hk : 1 ≤ e.k ∧ e.k ≤ 8)
    (h5 : e.k = 5 → e.o.toNat ≠ e.t.toNat ∧ e.o.toNat ≠ t)
    (hR : Rm ↔ e.t.toNat = t ∨ K e.t.toNat ∨ (e.k = 3 ∧ L e.o.toNat) ∨ (e.k = 7 ∧ V e.o.toNat) ∨ (e.k = 6 ∧ (e.o.toNat = t ∨ K e.o.toNat)))
    (hK : ∀ u, K' u ↔ K u ∨ ((e.t.toNat = u ∨ (e.k = 5 ∧ e.o.toNat = u)) ∧ Rm)) (hL : ∀ o, L' o ↔ if e.k = 4 ∧ e.o.toNat = o then Rm else L o) (hV : ∀ o, V' o ↔ V o ∨ (e.k = 8 ∧ e.o.toNat = o ∧ Rm)) :
    EI (fSync s e) t n K' L' V' := by
  obtain ⟨own, th, lk, vo⟩ := hI
  unfold fSync
  generalize e.t.toNat = a at *
  generalize e.o.toNat = b at *
  generalize e.k = k at *
  have tha := th a
  have thb := th b
  have lkb := lk b
  have vob := vo b
  repeat' split
  all_goals
    refine ⟨?_, fun u hu => ?_, fun o => ?_, fun o => ?_⟩
    · try simp only [upF]
      clear th lk vo hR hK hL hV tha thb lkb vob
      (repeat' (first | split | simp only [cmax] | simp only [tkF])) <;> (try subst_vars) <;> (first | omega | (simp_all; try omega))
    · have thu := th u hu
      have hKu := hK u
      clear th lk vo hK hL hV
      try simp only [upF]
      (repeat' (first | split | simp only [cmax] | simp only [tkF])) <;> grind
    · have lko := lk o
      have hLo := hL o
      clear th lk vo hK hL hV
      try simp only [upF]
      (repeat' (first | split | simp only [cmax] | simp only [tkF])) <;> grind
    · have voo := vo o
      have hVo := hV o
      clear th lk vo hK hL hV
      try simp only [upF]
      (repeat' (first | split | simp only [cmax] | simp only [tkF])) <;> grind
section
variable {l : List Ev} (h : (played l).2.2 = 0)
include h
omit h in
theorem fAt_acc {i : Nat} (hacc : (evAt l i).k = 1 ∨ (evAt l i).k = 2) : fAt l (i + 1) = fAt l i := by
  show fSync (fAt l i) (evAt l i) = fAt l i
  unfold fSync
  rcases hacc with e | e <;> simp [e]
theorem ei_at {i : Nat} (hacc : (evAt l i).k = 1 ∨ (evAt l i).k = 2) : ∀ m, i < m → m ≤ l.length → EI (fAt l m) (evAt l i).t.toNat (epo l i) (fun u => Kn l u i m) (fun o => Kr l 4 o i m) (fun o => Kr l 8 o i m) := by
  intro m
  induction m with
  | zero => intro h; omega
  | succ m ih =>
    intro him hm1
    have hm : m < l.length := by omega
    by_cases e : i = m
    · subst e
      have hF := finv h i (by omega)
      have ho := (err0 ((ok_at h).1 i hm)).2.2.1
      rw [fAt_acc hacc]
      have hno : ∀ q, q < i + 1 → R l q i = true → False := fun q h1 h2 => by have := R_lt h2; omega
      refine ⟨Int.le_refl _, fun u hu => ?_, fun o => ?_, fun o => ?_⟩
      · refine ⟨fun h1 => ?_, fun ⟨q, h1, _, h2⟩ => (hno q h1 h2).elim⟩
        have := hF.lt u _ hu ho
        simp only [epo, vw] at h1
        omega
      · refine ⟨fun h1 => ?_, fun ⟨q, h1, _, _, h2⟩ => (hno q h1 h2).elim⟩
        have := (hF.lk o _ ho).1
        simp only [epo, vw] at h1
        omega
      · refine ⟨fun h1 => ?_, fun ⟨q, h1, _, _, h2⟩ => (hno q h1 h2).elim⟩
        have := (hF.lk o _ ho).2
        simp only [epo, vw] at h1
        omega
    · have hi : i < m := by omega
      have et := tn h hm
      have eo := on h hm
      have ei := tn h (show i < l.length by omega)
      have hev := ev_at h hm
      have hmp := manyOf_pos (k := (evAt l m).k) (by omega)
      refine (ih hi (by omega)).step (by omega) ?_ (R_kinds h hi hm hacc) ?_ ?_ ?_
      · intro k5
        have h1 := fork_ne h hm k5
        refine ⟨by omega, fun h2 => ?_⟩
        have := fork_lt h hm (show i < l.length by omega) k5 (by omega)
        omega
      · intro u
        rw [Kn_succ]
        have h1 : ((evAt l m).t = (u : Int)) ↔ (evAt l m).t.toNat = u := by omega
        have h2 : ((evAt l m).o = (u : Int)) ↔ (evAt l m).o.toNat = u := by omega
        rw [h1, h2]
      · intro o
        rw [Kr_succ]
        have h2 : ((evAt l m).o = (o : Int)) ↔ (evAt l m).o.toNat = o := by omega
        rw [h2]
        by_cases c : (evAt l m).k = 4 ∧ (evAt l m).o.toNat = o
        · rw [if_pos c]
          refine ⟨?_, fun h1 => .inr ⟨c.1, c.2, h1⟩⟩
          rintro (⟨q, h3, h4, h5, h6⟩ | h1)
          · exact R_trans (locks_ordered h h3 hm (isLk_iff.2 (.inr h4)) (isLk_iff.2 (.inr c.1)) (by omega)) h6
          · exact h1.2.2
        · rw [if_neg c]
          exact ⟨fun h1 => h1.elim id fun h1 => absurd ⟨h1.1, h1.2.1⟩ c, .inl⟩
      · intro o
        rw [Kr_succ]
        have h2 : ((evAt l m).o = (o : Int)) ↔ (evAt l m).o.toNat = o := by omega
        rw [h2]
/-- An access happens before a later one exactly if that one's thread has seen its epoch. -/
theorem epoch {i j : Nat} (hij : i < j) (hj : j < l.length) (hi : (evAt l i).k = 1 ∨ (evAt l i).k = 2) (hjk : (evAt l j).k = 1 ∨ (evAt l j).k = 2) :
    R l j i = true ↔ epo l i ≤ vw l j (evAt l i).t.toNat := by
  have hE := ei_at h hi j hij (by omega)
  rw [R_kinds h hij hj hi]
  by_cases e : (evAt l j).t.toNat = (evAt l i).t.toNat
  · have : epo l i ≤ vw l j (evAt l i).t.toNat := by unfold vw; rw [e]; exact hE.own
    exact ⟨fun _ => this, fun _ => .inl e⟩
  · have := hE.th _ e
    rw [show vw l j (evAt l i).t.toNat = (fAt l j).C (evAt l j).t.toNat (evAt l i).t.toNat from rfl, this]
    constructor
    · rintro (h1 | h1 | h1 | h1 | h1)
      · exact absurd h1 e
      · exact h1
      · omega
      · omega
      · omega
    · exact fun h1 => .inr (.inl h1)
theorem epo_mono {i j : Nat} (hij : i < j) (hj : j < l.length) (hi : (evAt l i).k = 1 ∨ (evAt l i).k = 2) (ht : (evAt l i).t = (evAt l j).t) : epo l i ≤ epo l j := by
  have hE := (ei_at h hi j hij (by omega)).own
  rw [ht] at hE
  exact hE
theorem epo_pos {i : Nat} (hi : i ≤ l.length) : 1 ≤ epo l i := (finv h i hi).pos _
theorem vw_nn {i : Nat} (hi : i ≤ l.length) (τ : Nat) : 0 ≤ vw l i τ := ((finv h i hi).nn _ τ).1
end
end Go.Proofs.YtmeidjhojanogaaDoor

/- The detector by full clocks, plain: what it keeps of a variable, its flags. No program. -/
namespace Go.Proofs.YtmeidjhojanogaaDoor

/-- The clocks of a variable behind m events: reads, writes. -/
def rdAt (l : List Ev) : Nat → Nat → Nat → Int
  | 0 => fun _ _ => 0
  | m + 1 => fun x τ => if (evAt l m).k = 1 ∧ (evAt l m).o = x ∧ (evAt l m).t = τ then vw l m τ else rdAt l m x τ
def wrAt (l : List Ev) : Nat → Nat → Nat → Int
  | 0 => fun _ _ => 0
  | m + 1 => fun x τ => if (evAt l m).k = 2 ∧ (evAt l m).o = x ∧ (evAt l m).t = τ then vw l m τ else wrAt l m x τ
/-- What event m is flagged as. -/
def fKind (l : List Ev) (m : Nat) : Int :=
  if (evAt l m).k = 1 then (if cle (wrAt l m (evAt l m).o.toNat) (vw l m) then 0 else 2)
  else if (evAt l m).k = 2 then (if cle (wrAt l m (evAt l m).o.toNat) (vw l m) then (if cle (rdAt l m (evAt l m).o.toNat) (vw l m) then 0 else 3) else 1)
  else 0
/-- The flags of the first m events (a flag is written as three numbers, as an event is: its place, its variable, its kind). -/
def fFlags (l : List Ev) : Nat → List Ev
  | 0 => []
  | m + 1 => if fKind l m = 0 then fFlags l m else fFlags l m ++ [⟨m, (evAt l m).o, fKind l m⟩]
theorem fFlags_len (l : List Ev) : ∀ m, (fFlags l m).length ≤ m
  | 0 => Nat.le_refl _
  | m + 1 => by
    simp only [fFlags]
    have := fFlags_len l m
    split
    · omega
    · simp; omega
theorem fFlags_lt (l : List Ev) : ∀ m, ∀ f ∈ fFlags l m, 0 ≤ f.k ∧ f.k < m
  | 0 => by simp [fFlags]
  | m + 1 => by
    intro f hf
    simp only [fFlags] at hf
    split at hf
    · have := fFlags_lt l m f hf; omega
    · rcases List.mem_append.1 hf with h1 | h1
      · have := fFlags_lt l m f h1; omega
      · simp at h1; subst h1; simp only; omega
/-- The flags behind n are at places from n on. -/
theorem fFlags_split (l : List Ev) (n : Nat) : ∀ m, n ≤ m → ∃ r, fFlags l m = fFlags l n ++ r ∧ ∀ f ∈ r, (n : Int) ≤ f.k := by
  intro m
  induction m with
  | zero => intro h; obtain rfl : n = 0 := by omega
            exact ⟨[], by simp, by simp⟩
  | succ m ih =>
    intro h
    by_cases e : n = m + 1
    · subst e; exact ⟨[], by simp, by simp⟩
    · obtain ⟨r, h1, h2⟩ := ih (by omega)
      simp only [fFlags]
      split
      · exact ⟨r, h1, h2⟩
      · refine ⟨r ++ [⟨m, (evAt l m).o, fKind l m⟩], by rw [h1, List.append_assoc], fun f hf => ?_⟩
        rcases List.mem_append.1 hf with h3 | h3
        · exact h2 f h3
        · simp at h3; subst h3; simp only; omega
theorem fAt_take (l : List Ev) (n : Nat) : ∀ m, m ≤ n → fAt (l.take n) m = fAt l m := by
  intro m
  induction m with
  | zero => intro _; rfl
  | succ m ih => intro h; simp only [fAt]; rw [ih (by omega), evAt_take l n m (by omega)]
theorem vw_take (l : List Ev) (n m : Nat) (h : m < n) : vw (l.take n) m = vw l m := by
  unfold vw; rw [fAt_take l n m (by omega), evAt_take l n m h]
theorem rdAt_take (l : List Ev) (n : Nat) : ∀ m, m ≤ n → rdAt (l.take n) m = rdAt l m := by
  intro m
  induction m with
  | zero => intro _; rfl
  | succ m ih => intro h; simp only [rdAt]; rw [ih (by omega), evAt_take l n m (by omega), vw_take l n m (by omega)]
theorem wrAt_take (l : List Ev) (n : Nat) : ∀ m, m ≤ n → wrAt (l.take n) m = wrAt l m := by
  intro m
  induction m with
  | zero => intro _; rfl
  | succ m ih => intro h; simp only [wrAt]; rw [ih (by omega), evAt_take l n m (by omega), vw_take l n m (by omega)]
theorem fKind_take (l : List Ev) (n m : Nat) (h : m < n) : fKind (l.take n) m = fKind l m := by
  unfold fKind; rw [evAt_take l n m h, vw_take l n m h, rdAt_take l n m (by omega), wrAt_take l n m (by omega)]
theorem fFlags_take (l : List Ev) (n : Nat) : ∀ m, m ≤ n → fFlags (l.take n) m = fFlags l m := by
  intro m
  induction m with
  | zero => intro _; rfl
  | succ m ih => intro h; simp only [fFlags]; rw [ih (by omega), fKind_take l n m (by omega), evAt_take l n m (by omega)]
section
variable {l : List Ev} (h : (played l).2.2 = 0)
include h
/-- Who has read (written) a variable has a number there, and who has not has none. -/
theorem rdAt_pos (x t : Nat) : ∀ m, m ≤ l.length → 0 ≤ rdAt l m x t ∧ (0 < rdAt l m x t ↔ ∃ i, i < m ∧ (evAt l i).k = 1 ∧ (evAt l i).o = x ∧ (evAt l i).t = t) := by
  intro m
  induction m with
  | zero => intro _; exact ⟨Int.le_refl _, fun h => by simp [rdAt] at h, fun ⟨i, hi, _⟩ => by omega⟩
  | succ m ih =>
    intro hm
    obtain ⟨h1, h2⟩ := ih (by omega)
    simp only [rdAt]
    split
    · rename_i c
      have := epo_pos h (i := m) (by omega)
      unfold epo at this
      rw [show (evAt l m).t.toNat = t by omega] at this
      exact ⟨by omega, fun _ => ⟨m, by omega, c⟩, fun _ => by omega⟩
    · rename_i c
      refine ⟨h1, fun h3 => ?_, fun ⟨i, hi, h3⟩ => ?_⟩
      · obtain ⟨i, hi, h4⟩ := h2.1 h3
        exact ⟨i, by omega, h4⟩
      · by_cases e : i = m
        · subst e; exact absurd h3 c
        · exact h2.2 ⟨i, by omega, h3⟩
theorem wrAt_pos (x t : Nat) : ∀ m, m ≤ l.length → 0 ≤ wrAt l m x t ∧ (0 < wrAt l m x t ↔ ∃ i, i < m ∧ (evAt l i).k = 2 ∧ (evAt l i).o = x ∧ (evAt l i).t = t) := by
  intro m
  induction m with
  | zero => intro _; exact ⟨Int.le_refl _, fun h => by simp [wrAt] at h, fun ⟨i, hi, _⟩ => by omega⟩
  | succ m ih =>
    intro hm
    obtain ⟨h1, h2⟩ := ih (by omega)
    simp only [wrAt]
    split
    · rename_i c
      have := epo_pos h (i := m) (by omega)
      unfold epo at this
      rw [show (evAt l m).t.toNat = t by omega] at this
      exact ⟨by omega, fun _ => ⟨m, by omega, c⟩, fun _ => by omega⟩
    · rename_i c
      refine ⟨h1, fun h3 => ?_, fun ⟨i, hi, h3⟩ => ?_⟩
      · obtain ⟨i, hi, h4⟩ := h2.1 h3
        exact ⟨i, by omega, h4⟩
      · by_cases e : i = m
        · subst e; exact absurd h3 c
        · exact h2.2 ⟨i, by omega, h3⟩
end
end Go.Proofs.YtmeidjhojanogaaDoor

/- RaceOne: the events of one thread, and Reads, never race: for every trace. -/
import Derived.Test.YtgliichceildgaaRows
import Derived.Test.YtgliichceildgaaRacB
import Derived.Test.YtgliichceildgaaOpenE
namespace Go.Proofs.Ytgliichceildgaa
open Go.ChangeShapes Go.WideShapes Go.ChangeAt Go.RowKit

theorem all_m (l : List Ev) (n : Nat) (hn : l.length = n) (a : Option Addr) (c : Nat) (w : World) (h : EvS w a l) (he : (played l).2.2 = 0) :
    Calls Try.prog 16 #[.slice a n c] w (RacPost (raceL l) w) := by
  subst hn; exact all_ok l a c w h he
/-- Two rows of the call's own that lie apart. -/
def Dis (v u : Value) : Prop := v.ownBlock = none ∨ v.ownBlock ≠ u.ownBlock
theorem Dis.symm {v u : Value} (h : Dis v u) : Dis u v := by
  rcases h with h | h
  · by_cases e : u.ownBlock = none
    · exact .inl e
    · exact .inr (by rw [h]; exact e)
  · exact .inr (Ne.symm h)
theorem Dis.app {w w' : World} {base e size n base2 e2 size2 m : Nat} {v v' u : Value} {xs ys : List Value} (hd : Dis v u) (h : Appended w w' base e size v v' n xs) (hu : w.ownsRow base2 e2 size2 u m ys) : Dis v' u ∧ w'.ownsRow base2 e2 size2 u m ys := by
  constructor
  · rcases h.lies with h1 | h1
    · rw [Dis, h1]; exact hd
    · right
      rw [h1]
      intro e
      have := (hu.lt _ e.symm).2
      omega
  · refine hu.kept h.grown ?_
    rcases hd with h1 | h1
    · by_cases e : u.ownBlock = none
      · exact .inl e
      · exact .inr (by rw [h1]; exact e)
    · exact .inr (Ne.symm h1)
def isMine (e : Ev) : Bool := decide (e.t = 0) && decide (e.k ≤ 2)
def isRd (e : Ev) : Bool := !decide (e.k = 2)
def fK (p : Ev → Bool) (l : List Ev) (k : Nat) : List Ev := (l.take k).filter p
theorem fK_yes {p : Ev → Bool} {l : List Ev} {k : Nat} (hk : k < l.length) (h : p l[k] = true) : fK p l (k + 1) = fK p l k ++ [l[k]] := by
  unfold fK
  rw [List.take_add_one, List.getElem?_eq_getElem hk, Option.toList_some, List.filter_append]
  simp [h]
theorem fK_no {p : Ev → Bool} {l : List Ev} {k : Nat} (hk : k < l.length) (h : p l[k] = false) : fK p l (k + 1) = fK p l k := by
  unfold fK
  rw [List.take_add_one, List.getElem?_eq_getElem hk, Option.toList_some, List.filter_append]
  simp [h]
theorem fK_len (p : Ev → Bool) (l : List Ev) (k : Nat) : (fK p l k).length ≤ l.length := by
  unfold fK
  have h1 := List.length_filter_le p (l.take k)
  have h2 : (l.take k).length ≤ l.length := by simp; omega
  omega
theorem fK_mem {p : Ev → Bool} {l : List Ev} {k : Nat} {e : Ev} (h : e ∈ fK p l k) : p e = true := (List.mem_filter.1 h).2

set_option maxRecDepth 100000 in
set_option maxHeartbeats 8000000 in
theorem raceOne_walk (a : Option Addr) (z : List Ev) (c : Nat) (w : World) (hf : EvS w a z ∧ z.length ≤ c ∧ z.length * 24 ≤ 140737488351232 ∧ ∀ e ∈ z, I64 e.k ∧ I64 e.t ∧ I64 e.o) :
    Calls Try.prog 5 #[.slice a z.length c] w fun e w' => e = .returned (.bool true) ∧ Below w.heap.size w w' := by
  obtain ⟨h, hzc, hz24, _⟩ := hf
  obtain ⟨i0, hi, hz0, hz1, hz2⟩ := info_parts infoE
  go_enter Try.func5, Try.ntmps5
  go_wp2_with fail
  refine (raced_any _).mono ?_
  rintro r w1 ⟨rfl, hb⟩
  replace h := h.below hb
  go_wp2
  go_loopw [3, 4, 15] (fun v u i wr => ∃ k : Nat, k ≤ z.length ∧ i = .int .i64 k ∧ wr.ownsRow w1.heap.size 34 3 v (fK isMine z k).length (evL (fK isMine z k)) ∧ wr.ownsRow w1.heap.size 34 3 u (fK isRd z k).length (evL (fK isRd z k)) ∧ Dis v u ∧ Below w1.heap.size w1 wr) (fun _ _ i _ => z.length - (intOf i).toNat)
  case atStart => exact ⟨0, Nat.zero_le _, rfl, World.ownsRow_nil _ _ _ _, World.ownsRow_nil _ _ _ _, .inl rfl, Below.refl _ _⟩
  case round =>
    obtain ⟨k, hk, rfl, hv, hu, hd, hb4⟩ := hrel
    by_cases hlt : k < z.length
    · obtain ⟨b', o', rfl, d0, d1, d2⟩ := (h.below hb4).at hlt
      have y1 := fK_yes (p := isMine) hlt
      have n1 := fK_no (p := isMine) hlt
      have y2 := fK_yes (p := isRd) hlt
      have n2 := fK_no (p := isRd) hlt
      have l1 := fK_len isMine z k
      have l2 := fK_len isRd z k
      generalize z[k] = x at *
      have Y1 := Lib.hid y1
      have N1 := Lib.hid n1
      have Y2 := Lib.hid y2
      have N2 := Lib.hid n2
      clear y1 n1 y2 n2
      have hN := Has.new wr (evC x) 34
      have hv1 := hv.alloc (.cells (evC x) 34)
      have hu1 := hu.alloc (.cells (evC x) 34)
      have hb5 := hb4.alloc hb4.size (.cells (evC x) 34)
      have hs5 := hb4.size
      have hxs : ∀ (q : World), Has q wr.heap.size (evC x) 34 → q.cell? ⟨wr.heap.size, 0, none⟩ = some (.int .i64 x.k) ∧ q.cell? ⟨wr.heap.size, 1, none⟩ = some (.int .i64 x.t) ∧ q.cell? ⟨wr.heap.size, 2, none⟩ = some (.int .i64 x.o) := fun q hq => ⟨hq.cell rfl, hq.cell rfl, hq.cell rfl⟩
      have HXS := Lib.hid hxs
      obtain ⟨x0, x1, x2⟩ := hxs _ hN
      have hvlt : ∀ q, u3.ownBlock = some q → q < wr.heap.size := fun q hq => (hv.lt q hq).2
      clear hxs hv hu hb4
      by_cases ht : x.t = 0
      · have htb : (x.t == 0) = true := by simpa using ht
        by_cases hk2 : x.k ≤ 2
        · have hkd : decide (x.k ≤ 2) = true := decide_eq_true hk2
          have HR1 := Lib.hid (Y1.out (by simp [isMine, ht, hk2]))
          clear Y1 N1 ht
          have hvl : some wr.heap.size ≠ u3.ownBlock := fun e => by have := (hvlt _ e.symm); omega
          have hT := Has.new (wr.alloc (.cells (evC x) 34)) (evC x) 34
          rw [World.size_alloc] at hT
          have hb6 := hb5.alloc (by have := hb5.size; simp at this ⊢; omega) (.cells (evC x) 34)
          go_wp2_with (at_builtin; refine app_list _ rfl (.tmp 27) (.tmp 29) 22 rfl Try.underlying22 hi hz0 hz1 hz2 rfl (by decide) rfl (hv1.alloc _) rfl (news := evL [x]) ⟨rfl, .inr ⟨_, rfl, fun j u hu => hT.cell_add (by simpa [evL] using hu)⟩⟩ (by intro q hq; simp [evL] at hq; rcases hq with rfl | rfl | rfl <;> rfl) ?c3 ?c4 ?c5 ?_)
          case c3 => unfold maxLen; omega
          case c4 => omega
          case c5 => have := hb6.size; simp at this ⊢; omega
          intro v6 w6 hAp
          have hb7 := hAp.below (hv1.alloc _) hb6 (by have := hb6.size; simp at this ⊢; omega)
          have hN6 := (hN.alloc (.cells (evC x) 34)).grown hAp.grown hvl
          obtain ⟨hd6, hu6⟩ := hd.app hAp (hu1.alloc _)
          have hv6 : w6.ownsRow w1.heap.size 34 3 v6 (fK isMine z (k + 1)).length (evL (fK isMine z (k + 1))) := by
            have := hAp.own
            rw [HR1.out, evL_append _ [x], List.length_append]
            exact this
          clear hAp hT hb6 x0 x1 x2 hN hv1 hu1 hb5
          obtain ⟨x0, x1, x2⟩ := HXS.out _ hN6
          by_cases hr : x.k = 2
          · have hrb : (x.k != 2) = false := by simp [hr]
            have HR2 := Lib.hid (N2.out (by simp [isRd, hr]))
            clear Y2 N2 hr
            go_wp2
            go_roundw
            case rel => exact ⟨k + 1, by omega, by go_num, hv6, by rw [HR2.out]; exact hu6, hd6, hb7⟩
            case measure => (simp [intOf]; try omega)
          · have hrb : (x.k != 2) = true := by simpa using hr
            have HR2 := Lib.hid (Y2.out (by simp [isRd, hr]))
            clear Y2 N2 hr
            have hT := Has.new w6 (evC x) 34
            have hb6 := hb7.alloc (by have := hb7.size; simp at this ⊢; omega) (.cells (evC x) 34)
            go_wp2_with (at_builtin; refine app_list _ rfl (.tmp 34) (.tmp 36) 22 rfl Try.underlying22 hi hz0 hz1 hz2 rfl (by decide) rfl (hu6.alloc _) rfl (news := evL [x]) ⟨rfl, .inr ⟨_, rfl, fun j u hu => hT.cell_add (by simpa [evL] using hu)⟩⟩ (by intro q hq; simp [evL] at hq; rcases hq with rfl | rfl | rfl <;> rfl) ?c3 ?c4 ?c5 ?_)
            case c3 => unfold maxLen; omega
            case c4 => omega
            case c5 => have := hb6.size; simp at this ⊢; omega
            intro v9 w9 hAp
            have hb9 := hAp.below (hu6.alloc _) hb6 (by have := hb6.size; simp at this ⊢; omega)
            obtain ⟨hd9, hv9⟩ := Dis.app (Dis.symm hd6) hAp (hv6.alloc _)
            have hu9 : w9.ownsRow w1.heap.size 34 3 v9 (fK isRd z (k + 1)).length (evL (fK isRd z (k + 1))) := by
              have := hAp.own
              rw [HR2.out, evL_append _ [x], List.length_append]
              exact this
            clear hAp hT hb6
            go_wp2
            go_roundw
            case rel => exact ⟨k + 1, by omega, by go_num, hv9, hu9, hd9.symm, hb9⟩
            case measure => (simp [intOf]; try omega)
        · have hkd : decide (x.k ≤ 2) = false := decide_eq_false hk2
          have HR1 := Lib.hid (N1.out (by simp [isMine, hk2]))
          clear Y1 N1 ht
          by_cases hr : x.k = 2
          · have hrb : (x.k != 2) = false := by simp [hr]
            have HR2 := Lib.hid (N2.out (by simp [isRd, hr]))
            clear Y2 N2 hr
            go_wp2
            go_roundw
            case rel => exact ⟨k + 1, by omega, by go_num, (by rw [HR1.out]; exact hv1), by rw [HR2.out]; exact hu1, hd, hb5⟩
            case measure => (simp [intOf]; try omega)
          · have hrb : (x.k != 2) = true := by simpa using hr
            have HR2 := Lib.hid (Y2.out (by simp [isRd, hr]))
            clear Y2 N2 hr
            have hT := Has.new (wr.alloc (.cells (evC x) 34)) (evC x) 34
            rw [World.size_alloc] at hT
            have hb6 := hb5.alloc (by have := hb5.size; simp at this ⊢; omega) (.cells (evC x) 34)
            go_wp2_with (at_builtin; refine app_list _ rfl (.tmp 34) (.tmp 36) 22 rfl Try.underlying22 hi hz0 hz1 hz2 rfl (by decide) rfl (hu1.alloc _) rfl (news := evL [x]) ⟨rfl, .inr ⟨_, rfl, fun j u hu => hT.cell_add (by simpa [evL] using hu)⟩⟩ (by intro q hq; simp [evL] at hq; rcases hq with rfl | rfl | rfl <;> rfl) ?c3 ?c4 ?c5 ?_)
            case c3 => unfold maxLen; omega
            case c4 => omega
            case c5 => have := hb6.size; simp at this ⊢; omega
            intro v9 w9 hAp
            have hb9 := hAp.below (hu1.alloc _) hb6 (by have := hb6.size; simp at this ⊢; omega)
            obtain ⟨hd9, hv9⟩ := Dis.app (Dis.symm hd) hAp (hv1.alloc _)
            have hu9 : w9.ownsRow w1.heap.size 34 3 v9 (fK isRd z (k + 1)).length (evL (fK isRd z (k + 1))) := by
              have := hAp.own
              rw [HR2.out, evL_append _ [x], List.length_append]
              exact this
            clear hAp hT hb6
            go_wp2
            go_roundw
            case rel => exact ⟨k + 1, by omega, by go_num, (by rw [HR1.out]; exact hv9), hu9, hd9.symm, hb9⟩
            case measure => (simp [intOf]; try omega)
      · have htb : (x.t == 0) = false := by simpa using ht
        have HR1 := Lib.hid (N1.out (by simp [isMine, ht]))
        clear Y1 N1 ht
        by_cases hr : x.k = 2
        · have hrb : (x.k != 2) = false := by simp [hr]
          have HR2 := Lib.hid (N2.out (by simp [isRd, hr]))
          clear Y2 N2 hr
          go_wp2
          go_roundw
          case rel => exact ⟨k + 1, by omega, by go_num, (by rw [HR1.out]; exact hv1), by rw [HR2.out]; exact hu1, hd, hb5⟩
          case measure => (simp [intOf]; try omega)
        · have hrb : (x.k != 2) = true := by simpa using hr
          have HR2 := Lib.hid (Y2.out (by simp [isRd, hr]))
          clear Y2 N2 hr
          have hT := Has.new (wr.alloc (.cells (evC x) 34)) (evC x) 34
          rw [World.size_alloc] at hT
          have hb6 := hb5.alloc (by have := hb5.size; simp at this ⊢; omega) (.cells (evC x) 34)
          go_wp2_with (at_builtin; refine app_list _ rfl (.tmp 34) (.tmp 36) 22 rfl Try.underlying22 hi hz0 hz1 hz2 rfl (by decide) rfl (hu1.alloc _) rfl (news := evL [x]) ⟨rfl, .inr ⟨_, rfl, fun j u hu => hT.cell_add (by simpa [evL] using hu)⟩⟩ (by intro q hq; simp [evL] at hq; rcases hq with rfl | rfl | rfl <;> rfl) ?c3 ?c4 ?c5 ?_)
          case c3 => unfold maxLen; omega
          case c4 => omega
          case c5 => have := hb6.size; simp at this ⊢; omega
          intro v9 w9 hAp
          have hb9 := hAp.below (hu1.alloc _) hb6 (by have := hb6.size; simp at this ⊢; omega)
          obtain ⟨hd9, hv9⟩ := Dis.app (Dis.symm hd) hAp (hv1.alloc _)
          have hu9 : w9.ownsRow w1.heap.size 34 3 v9 (fK isRd z (k + 1)).length (evL (fK isRd z (k + 1))) := by
            have := hAp.own
            rw [HR2.out, evL_append _ [x], List.length_append]
            exact this
          clear hAp hT hb6
          go_wp2
          go_roundw
          case rel => exact ⟨k + 1, by omega, by go_num, (by rw [HR1.out]; exact hv9), hu9, hd9.symm, hb9⟩
          case measure => (simp [intOf]; try omega)
    · obtain rfl : k = z.length := by omega
      have l1 := fK_len isMine z z.length
      have l2 := fK_len isRd z z.length
      have hM : raceL (fK isMine z z.length) = [] := raceL_one fun e he => by have := fK_mem he; simp [isMine] at this; exact this.1
      have hR : raceL (fK isRd z z.length) = [] := raceL_reads fun e he => by have := fK_mem he; simpa [isRd] using this
      generalize fK isMine z z.length = M at *
      generalize fK isRd z z.length = Q at *
      have hex : ∃ a2 c2, u3 = .slice a2 M.length c2 ∧ EvS wr a2 M := by
        obtain ⟨a, c, h1, h2, _⟩ := evS_own hv (by omega)
        exact ⟨a, c, h1, h2⟩
      obtain ⟨a3, c3, rfl, hA⟩ := hex
      have hex : ∃ a2 c2, u4 = .slice a2 Q.length c2 ∧ EvS wr a2 Q := by
        obtain ⟨a, c, h1, h2, _⟩ := evS_own hu (by omega)
        exact ⟨a, c, h1, h2⟩
      obtain ⟨a4, c4, rfl, hB⟩ := hex
      replace hb := hb.trans (hb4.mono hb.size)
      clear hv hu hd hb4
      by_cases e1 : (played M).2.2 = 0 <;> by_cases e2 : (played Q).2.2 = 0
      · go_wp2_with fail
        refine (all_ok M a3 c3 _ hA e1).mono ?_
        rintro r w3 ⟨v1, rfl, hown, hk⟩
        rw [hM] at hown
        have hex : ∃ a2 c2, v1 = .slice a2 0 c2 := by
          obtain ⟨a, c, h1, _⟩ := rcS_own hown (by simp)
          exact ⟨a, c, h1⟩
        obtain ⟨a5, c5, rfl⟩ := hex
        replace hb := hb.trans (hk.mono hb.size)
        replace hB := hB.below hk
        clear hk
        go_wp2_with fail
        refine (all_ok Q a4 c4 _ hB e2).mono ?_
        rintro r w5 ⟨v2, rfl, hown2, hk⟩
        rw [hR] at hown2
        have hex : ∃ a2 c2, v2 = .slice a2 0 c2 := by
          obtain ⟨a, c, h1, _⟩ := rcS_own hown2 (by simp)
          exact ⟨a, c, h1⟩
        obtain ⟨a6, c6, rfl⟩ := hex
        replace hb := hb.trans (hk.mono hb.size)
        clear hk
        go_wp2
        go_ret
        exact ⟨rfl, hb⟩
      · have e4 : ((played Q).2.2 != 0) = true := by simpa using e2
        go_wp2_with fail
        refine (all_ok M a3 c3 _ hA e1).mono ?_
        rintro r w3 ⟨v1, rfl, hown, hk⟩
        rw [hM] at hown
        have hex : ∃ a2 c2, v1 = .slice a2 0 c2 := by
          obtain ⟨a, c, h1, _⟩ := rcS_own hown (by simp)
          exact ⟨a, c, h1⟩
        obtain ⟨a5, c5, rfl⟩ := hex
        replace hb := hb.trans (hk.mono hb.size)
        replace hB := hB.below hk
        clear hk
        go_wp2_with fail
        refine (all_err Q a4 c4 _ hB e2).mono ?_
        rintro r w5 ⟨rfl, hk⟩
        replace hb := hb.trans (hk.mono hb.size)
        clear hk
        go_wp2
        go_ret
        exact ⟨rfl, hb⟩
      · have e3 : ((played M).2.2 != 0) = true := by simpa using e1
        go_wp2_with fail
        refine (all_err M a3 c3 _ hA e1).mono ?_
        rintro r w3 ⟨rfl, hk⟩
        replace hb := hb.trans (hk.mono hb.size)
        replace hB := hB.below hk
        clear hk
        go_wp2_with fail
        refine (all_ok Q a4 c4 _ hB e2).mono ?_
        rintro r w5 ⟨v2, rfl, hown2, hk⟩
        rw [hR] at hown2
        have hex : ∃ a2 c2, v2 = .slice a2 0 c2 := by
          obtain ⟨a, c, h1, _⟩ := rcS_own hown2 (by simp)
          exact ⟨a, c, h1⟩
        obtain ⟨a6, c6, rfl⟩ := hex
        replace hb := hb.trans (hk.mono hb.size)
        clear hk
        go_wp2
        go_ret
        exact ⟨rfl, hb⟩
      · have e4 : ((played Q).2.2 != 0) = true := by simpa using e2
        have e3 : ((played M).2.2 != 0) = true := by simpa using e1
        go_wp2_with fail
        refine (all_err M a3 c3 _ hA e1).mono ?_
        rintro r w3 ⟨rfl, hk⟩
        replace hb := hb.trans (hk.mono hb.size)
        replace hB := hB.below hk
        clear hk
        go_wp2_with fail
        refine (all_err Q a4 c4 _ hB e2).mono ?_
        rintro r w5 ⟨rfl, hk⟩
        replace hb := hb.trans (hk.mono hb.size)
        clear hk
        go_wp2
        go_ret
        exact ⟨rfl, hb⟩
/-! The frame of the law RaceOne, by program. -/
set_option maxRecDepth 100000 in
theorem raceOne_lifted (os : Os) (started : os.Started) (H : Type) (enc : TypeId × Value → H) :
    ReturnsInHanded {} Try.checked os 5 .any (Rows.raceOneSpec.pre6 enc Try.prog Try.f5 Rows.raceOneRow.domain false) (Rows.raceOneSpec.post enc Try.prog Try.f5 false true false false) := by
  refine returnsInHanded_of_change_shaped (C := Try.checked) frame_own started (by kernel_rfl) Try.func5
    (ChangeSpec.witness6 (enc := enc) (C := Try.checked) false ⟨#[], #[.slice none 0 0], []⟩ 8 (by kernel_rfl) (by kernel_rfl) (by kernel_rfl) (by kernel_rfl)) ?_
  intro W base args ds gs before hval0 hW hcnd hsz hshaped hroom
  clear hcnd hshaped
  have hval : ∀ (j : Nat) t v, Try.f5.params[j]? = some t → args[j]? = some v → Value.okWide Try.prog W .any base t v := hval0
  have hW' := hW
  obtain ⟨p, q, hA0, hV, rfl, hfz, hnd⟩ := hW
  have hA : DataW.TrodAll enc Try.prog W 0 (fun _ => true) true Try.f5.params.toList args.toList ds p := hA0
  rw [Try.params5] at hA hval
  obtain ⟨v0, vs0, d0, ds0, p0, q0, hargs, rfl, rfl, h0, r0⟩ := trodAll_cons hA
  obtain ⟨rfl, rfl, rfl⟩ := trodAll_nil r0
  obtain rfl : args = #[v0] := by cases args; simp_all
  obtain ⟨rfl, rfl⟩ := trodVars_none hV
  have k0 := h0
  have lt0 : ∀ x ∈ p0, x.block < W.heap.size := by obtain ⟨m, hm⟩ := k0; exact DataW.trod_lt m _ _ _ hm
  obtain ⟨a0, z0, c0, rfl, w0⟩ := open_evs (hval 0 22 v0 rfl rfl) h0 (fun els sp hd => sized_slice hsz (j := 0) rfl (by rw [hd]; rfl) Try.underlying22)
  clear hA0 hval0
  refine (raceOne_walk a0 z0 c0 W w0).mono fun e W' ⟨he, bel⟩ => ?_
  subst he
  exact ⟨_, rfl, _, _, _, [], _, [], hW', trodAll_mk1 (shut_bool Try.underlying4 _), (trodAll_cons_mk (Below.trod frame_laid (by kernel_rfl) (of_decide_eq_true (by kernel_rfl)) k0 bel lt0) trodAll_mk0), rfl, bel.frame _, fun h => by cases h⟩

theorem raceOne_over : Rows.raceOneRow.holds Try.pinned (OpenSpec.ofChange Rows.raceOneSpec) :=
  OpenClaim.holds_of_wide 5 Try.f5 rfl rfl rfl rfl rfl rfl rfl ⟨rfl, rfl, rfl, rfl, rfl⟩ rfl rfl rfl rfl rfl (by kernel_rfl) Try.func5 (by kernel_rfl)
    (of_decide_eq_true (by kernel_rfl)) (by unfold Func.isWrapper; first | (rw [if_pos (by decide +kernel)]; kernel_rfl) | (rw [if_neg (by decide +kernel)]; exact ⟨rfl, rfl⟩))
    (fun os started H enc _ => raceOne_lifted os started H enc)

/-- The statement. -/
theorem raceOne_holds : Rows.RaceOneSaid := raceOne_over

end Go.Proofs.Ytgliichceildgaa

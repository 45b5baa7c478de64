/- Contract of swap.least. -/
import Derived.Test.YtmeidjhojanogaaOwS
import Derived.Test.YtmeidjhojanogaaLec
namespace Go.Proofs.Ytmeidjhojanogaa
open Go.RowKit

def slLen : Value → Nat
  | .slice _ n _ => n
  | _ => 0
def bestI : Option Nat → Int
  | none => -1
  | some b => b
/-- What least yields. -/
def LeastPost (l : List Ev) (w : World) (r : Ending) (w' : World) : Prop := ∃ a c, r = .returned (.slice a l.length c) ∧ EvF w.heap.size w' a (leastL l) ∧ Below w.heap.size w w'
theorem leastL_len (l : List Ev) : (leastL l).length = l.length := leastN_len _ _
theorem free_take {l : List Ev} {k : Nat} (h : k < l.length) : ((l.take k).all fun x => apartB x l[k]) = freeB l k := by
  unfold freeB
  rw [eg_get h]
set_option maxRecDepth 100000 in
set_option maxHeartbeats 8000000 in
theorem least_any (l : List Ev) (n : Nat) (hn : l.length = n) (a : Option Addr) (c : Nat) (w : World) (h : EvS w a l) (h80 : l.length ≤ 80) :
    Calls Try.prog 14 #[.slice a n c] w (LeastPost l w) := by
  subst hn
  obtain ⟨i0, hi, hz0, hz1, hz2⟩ := info_parts infoE
  have hcl := clone_all l a c w h (by omega)
  have H80 := Lib.hid h80
  go_enter Try.func14, Try.ntmps14
  go_wp2_with fail
  refine hcl.mono ?_
  clear hcl
  rintro r w1 ⟨v, rfl, hown, hb⟩
  go_wp2
  go_loopw [3, 4] (fun v o wr => ∃ r pre : List Ev, Hid (leastL l = pre ++ leastN r.length r) ∧ Hid (pre.length + r.length = l.length) ∧ wr.ownsRow w.heap.size 26 3 v r.length (evL r) ∧ wr.ownsRow w.heap.size 26 3 o pre.length (evL pre) ∧ Dis v o ∧ Below w.heap.size w wr) (fun v _ _ => slLen v)
  case atStart => exact ⟨l, [], Lib.hid rfl, Lib.hid (by simp), hown, World.ownsRow_nil _ _ _ _, (show Dis (Value.slice none 0 0) v from .inl rfl).symm, hb⟩
  case round =>
    clear hown hb h
    obtain ⟨r, pre, HL, HN, hR, hO, hD, hb⟩ := hrel
    rcases hR.2 with ⟨rfl, hr0⟩ | ⟨g, cap, cur, rfl, hbg, hh, hnc, hcm, hcs, ht⟩
    · have hl0 : r = [] := List.eq_nil_of_length_eq_zero hr0
      subst hl0
      have hlen := HN.out
      rw [List.length_nil, Nat.add_zero] at hlen
      have hLP : leastL l = pre := by rw [HL.out]; simp [leastN]
      have hpl : pre.length < 4611686018427387904 := by have := H80.out; omega
      obtain ⟨a2, c2, rfl, hE, _⟩ := evF_own hO hpl
      have HLP := Lib.hid hLP
      have HLEN := Lib.hid hlen
      clear hR hD hLP hlen hpl hO HL HN
      go_wp2
      go_ret
      unfold LeastPost
      rw [HLP.out, ← HLEN.out]
      exact ⟨a2, c2, rfl, hE, hb⟩
    · clear hh hcs ht
      by_cases hr0 : r.length = 0
      · have hl0 : r = [] := List.eq_nil_of_length_eq_zero hr0
        subst hl0
        have hlen := HN.out
        rw [List.length_nil, Nat.add_zero] at hlen
        have hLP : leastL l = pre := by rw [HL.out]; simp [leastN]
        have hpl : pre.length < 4611686018427387904 := by have := H80.out; omega
        obtain ⟨a2, c2, rfl, hE, _⟩ := evF_own hO hpl
        have HLP := Lib.hid hLP
        have HLEN := Lib.hid hlen
        rw [List.length_nil]
        clear hR hD hLP hlen hpl hO HL HN
        go_wp2
        go_ret
        unfold LeastPost
        rw [HLP.out, ← HLEN.out]
        exact ⟨a2, c2, rfl, hE, hb⟩
      · obtain ⟨N, hNr⟩ : ∃ N, r.length = N + 1 := ⟨r.length - 1, by omega⟩
        obtain ⟨hb1, hb2⟩ := best_is (l := r) (by omega)
        have hN80 : N < 80 := by have := HN.out; have := H80.out; omega
        obtain ⟨a2, c2, hv2, hE, _⟩ := evS_own hR (by omega)
        cases hv2
        have hLn : leastL l = (pre ++ [eg r (best r)]) ++ leastN (r.eraseIdx (best r)).length (r.eraseIdx (best r)) := by
          rw [HL.out, hNr, erase_len hb2.lt, hNr, List.append_assoc]
          rfl
        have hNn : (pre ++ [eg r (best r)]).length + (r.eraseIdx (best r)).length = l.length := by
          have := HN.out
          rw [erase_len hb2.lt, List.length_append, List.length_singleton]
          omega
        have hbl := hb2.lt
        have HLn := Lib.hid hLn
        have HNn := Lib.hid hNn
        have HRN := Lib.hid hNr
        have HB1 := Lib.hid hb1
        rw [hNr] at hR hbl hnc
        rw [hNr]
        have hel : (r.eraseIdx (best r)).length = N := by rw [erase_len hb2.lt, hNr]; rfl
        have HEL := Lib.hid hel
        have hpl : pre.length ≤ 80 := by have := HN.out; have := H80.out; omega
        clear HL HN hLn hNn hb1 hb2 hr0 hNr hel
        generalize wr = w5 at *
        have hI := Below.refl w5.heap.size w5
        have hlR := hR.lt g rfl
        go_wp2
        go_loopw [5, 16] (fun bv i wx => ∃ k : Nat, k ≤ N + 1 ∧ i = .int .i64 k ∧ bv = .int .i64 (bestI (bestTo r k)) ∧ Below w5.heap.size w5 wx) (fun _ i _ => N + 1 - (intOf i).toNat)
        case atStart => exact ⟨0, Nat.zero_le _, rfl, rfl, hI⟩
        case round =>
          clear hI
          obtain ⟨k, hk, rfl, rfl, hbx⟩ := hrel
          by_cases hlt : k < N + 1
          · have hkd : decide ((k : Int) < (N : Int) + 1) = true := decide_eq_true (by omega)
            have hrk : k < r.length := by rw [HRN.out]; exact hlt
            obtain ⟨b', o', e, d0, d1, d2⟩ := (hE.below hbx).at hrk
            cases e
            have hET := (hE.below hbx).take k
            have hfk := free_take hrk
            have hxk := eg_get hrk
            have hspec := bestTo_spec (l := r) k (by omega)
            have hnext : bestTo r (k + 1) = if freeB r k && (match bestTo r k with | none => true | some b => decide ((eg r k).t < (eg r b).t)) then some k else bestTo r k := rfl
            rw [hxk] at hnext
            generalize r[k] = x at *
            have hX := Has.new wr (evC x) 26
            have hb6 := hbx.alloc hbx.size (.cells (evC x) 26)
            replace hET := hET.below ((Below.refl wr.heap.size wr).alloc (Nat.le_refl _) (.cells (evC x) 26))
            have HT := Lib.hid (show (r.take k).length = k by simp; omega)
            have HNX := Lib.hid hnext
            have HFK := Lib.hid hfk
            have k0 : (0 : Int) ≤ k := by omega
            have k1 : (k : Int) ≤ cap := by omega
            have k2 : (k : Int) < (N : Int) + 1 := by omega
            have k3 : (k : Int) ≤ (N : Int) + 1 := by omega
            rw [Nat.zero_add] at d0 d1 d2
            clear hnext hfk hxk
            obtain ⟨B, hB⟩ : ∃ B, bestTo r k = B := ⟨_, rfl⟩
            rw [hB] at hspec ⊢
            have HB := Lib.hid hB
            clear hB
            go_upto_region 8 with fail
            clear d0 d1 d2
            generalize wr.alloc (.cells (evC x) 26) = w6 at *
            go_wp2_with fail
            refine (containsFunc_any (r.take k) k HT.out x _ _ _ _ hX hET).mono ?_
            rintro r7 w7 ⟨rfl, hk7⟩
            rw [HFK.out]
            replace hX := hX.below hk7 hX.lt
            have hb7 := hb6.trans (hk7.mono hb6.size)
            clear hET hk7 hb6
            obtain ⟨x0, x1⟩ : w7.cell? ⟨wr.heap.size, 0, none⟩ = some (.int .i64 x.k) ∧ w7.cell? ⟨wr.heap.size, 1, none⟩ = some (.int .i64 x.t) := ⟨hX.cell rfl, hX.cell rfl⟩
            cases hf : freeB r k
            · have HN2 := Lib.hid (show bestTo r (k + 1) = B by rw [HNX.out, hf, HB.out]; rfl)
              clear hf HNX hX hspec
              go_upto_region 9 with fail
              go_region
              all_goals
                clear x0 x1
                go_wp2
                go_roundw
                case rel => exact ⟨k + 1, by omega, by go_num, by rw [HN2.out], hb7.drew⟩
                case measure => (simp [intOf]; try omega)
            · cases B with
              | none =>
                have HN2 := Lib.hid (show bestTo r (k + 1) = some k by rw [HNX.out, hf, HB.out]; rfl)
                rw [show bestI none = -1 from rfl]
                clear hf HNX hX hspec
                go_upto_region 9 with fail
                go_region
                all_goals
                  clear x0 x1
                  go_wp2
                  go_roundw
                  case rel => exact ⟨k + 1, by omega, by go_num, by rw [HN2.out]; rfl, hb7.drew⟩
                  case measure => (simp [intOf]; try omega)
              | some b =>
                rcases hspec with ⟨h, _⟩ | ⟨b', h, hbk, _⟩
                · cases h
                · cases h
                  have hrb : b < r.length := by omega
                  obtain ⟨g', o', e, y0, y1, y2⟩ := (hE.below hb7).at hrb
                  cases e
                  have hyb := eg_get hrb
                  have hnx : bestTo r (k + 1) = if decide (x.t < (eg r b).t) then some k else some b := by rw [HNX.out, hf, HB.out]; rfl
                  rw [hyb] at hnx
                  generalize r[b] = y at *
                  rw [Nat.zero_add] at y0 y1 y2
                  rw [show bestI (some b) = (b : Int) from rfl]
                  have b0 : decide ((b : Int) < 0) = false := decide_eq_false (by omega)
                  have b1 : (0 : Int) ≤ b := by omega
                  have b2 : (b : Int) < (N : Int) + 1 := by omega
                  obtain ⟨q, hq⟩ : ∃ q, decide (x.t < y.t) = q := ⟨_, rfl⟩
                  rw [hq] at hnx
                  have HN2 := Lib.hid hnx
                  clear hf HNX hX hnx hyb
                  cases q
                  · go_upto_region 9 with fail
                    go_region
                    all_goals
                      clear x0 x1 y0 y1 y2
                      go_wp2
                      go_roundw
                      case rel => exact ⟨k + 1, by omega, by go_num, by rw [HN2.out]; rfl, hb7.drew⟩
                      case measure => (simp [intOf]; try omega)
                  · go_upto_region 9 with fail
                    go_region
                    all_goals
                      clear x0 x1 y0 y1 y2
                      go_wp2
                      go_roundw
                      case rel => exact ⟨k + 1, by omega, by go_num, by rw [HN2.out]; rfl, hb7.drew⟩
                      case measure => (simp [intOf]; try omega)
          · obtain rfl : k = N + 1 := by omega
            have hB1 : bestTo r (N + 1) = some (best r) := by rw [← HRN.out]; exact HB1.out
            rw [hB1, show bestI (some (best r)) = ((best r : Nat) : Int) from rfl]
            clear hB1 HB1 hlt hk
            generalize best r = B at *
            have hrB : B < r.length := by rw [HRN.out]; exact hbl
            obtain ⟨b', o', e, d0, d1, d2⟩ := (hE.below hbx).at hrB
            cases e
            have hxk := eg_get hrB
            have hx2 : pre ++ [eg r B] = pre ++ [r[B]] := by rw [hxk]
            rw [hx2] at HLn HNn
            clear hx2 hxk
            generalize r[B] = x at *
            rw [Nat.zero_add] at d0 d1 d2
            have hT := Has.new wr (evC x) 26
            have hG5 := own_below hR hbx
            have hO5 := own_below hO hbx
            have hbw := hb.trans (hbx.mono hb.size)
            have hb6 := hbw.alloc hbw.size (.cells (evC x) 26)
            have b1 : (0 : Int) ≤ B := by omega
            have b2 : (B : Int) < (N : Int) + 1 := by omega
            have hbN : B ≤ N := by omega
            clear hR hO hbx hbl hb hrB
            rw [HRN.out] at hD
            go_wp2_with (at_builtin; refine app_list _ rfl (.tmp 44) (.tmp 49) 22 rfl Try.underlying22 hi hz0 hz1 hz2 rfl (by decide) rfl (hO5.alloc _) rfl (news := evL [x]) ⟨rfl, .inr ⟨_, rfl, fun j u hu => hT.cell_add (by simpa [evL] using hu)⟩⟩ (by intro q hq; simp [evL] at hq; rcases hq with rfl | rfl | rfl <;> rfl) ?c3 ?c4 ?c5 ?_)
            case c3 => unfold maxLen; omega
            case c4 => omega
            case c5 => have := hb6.size; simp at this ⊢; omega
            intro v6 w6 hAp
            have hb7 := hAp.below (hO5.alloc _) hb6 (by have := hb6.size; simp at this ⊢; omega)
            obtain ⟨hD6, hG6⟩ := Dis.app hD.symm hAp (hG5.alloc _)
            have hv6 : w6.ownsRow w.heap.size 26 3 v6 (pre ++ [x]).length (evL (pre ++ [x])) := by
              have := hAp.own
              rw [evL_append _ [x], List.length_append]
              exact this
            have hgl := (hG6.lt g rfl).1
            clear hAp hT hb6 hO5 hG5 d0 d1 d2 hbw hD
            generalize wr = w5b at *
            go_wp2_with fail
            refine (delete_one r N B g cap w.heap.size HRN.out hbN w6 hG6).mono ?_
            rintro r7 w7 ⟨rfl, hG7, hg7⟩
            have hv7 := hv6.kept hg7 hD6
            have hb8 := hb7.grown hg7 hb7.size (fun q hq => by cases hq; exact hgl)
            clear hG6 hv6 hb7 hg7
            go_wp2
            go_roundw
            case rel =>
              refine ⟨_, _, HLn, HNn, ?_, hv7, hD6.symm, hb8⟩
              rw [HEL.out]
              exact hG7
            case measure => simp [slLen]
/-- What Least yields at a valid trace. -/
def LeastsPost (l : List Ev) (w : World) (r : Ending) (w' : World) : Prop := ∃ a c, r = .returned (.tuple #[.slice a l.length c, .int .i64 0]) ∧ EvF w.heap.size w' a (leastL l) ∧ Below w.heap.size w w'
theorem leasts_ok (l : List Ev) (n : Nat) (hn : l.length = n) (a : Option Addr) (c : Nat) (w : World) (h : EvS w a l) (hp : (played l).2.2 = 0) :
    Calls Try.prog 7 #[.slice a n c] w (LeastsPost l w) := by
  subst hn
  have hl80 := (played_evs hp).1
  have HP := Lib.hid hp
  clear hp
  go_enter Try.func7, Try.ntmps7
  go_wp2_with fail
  refine (check_any l a c _ h).mono ?_
  rintro r w1 ⟨rfl, hb⟩
  rw [HP.out]
  go_wp2_with fail
  refine (least_any l _ rfl a c _ (h.below hb) hl80).mono ?_
  rintro r w2 ⟨a2, c2, rfl, hS, hk⟩
  have hS := hS.mono hb.size
  have hb0 := hb.trans (hk.mono hb.size)
  go_wp2
  go_ret2
  exact ⟨_, _, rfl, hS, hb0⟩
theorem leasts_no (l : List Ev) (n : Nat) (hn : l.length = n) (a : Option Addr) (c : Nat) (w : World) (h : EvS w a l) (hp : (played l).2.2 ≠ 0) :
    Calls Try.prog 7 #[.slice a n c] w (NoSwap w) := by
  subst hn
  have hq : ((played l).2.2 != 0) = true := by simpa using hp
  have hz : ((played l).2.2 == 0) = false := by simpa using hp
  clear hp
  go_enter Try.func7, Try.ntmps7
  go_wp2_with fail
  refine (check_any l a c _ h).mono ?_
  rintro r w1 ⟨rfl, hb⟩
  go_wp2
  go_ret2
  exact ⟨_, hz, rfl, hb⟩
end Go.Proofs.Ytmeidjhojanogaa

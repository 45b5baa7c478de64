/- RaceFront: races do not depend on later events: for every trace and every number. -/
import Derived.Test.YtgliichceildgaaRows
import Derived.Test.YtgliichceildgaaRacB
import Derived.Test.YtgliichceildgaaRest
import Derived.Test.YtgliichceildgaaOpenE
namespace Go.Proofs.Ytgliichceildgaa
open Go.ChangeShapes Go.WideShapes Go.ChangeAt Go.RowKit

theorem all_n (l : List Ev) (n : Nat) (hn : l.length = n) (a : Option Addr) (c : Nat) (w : World) (h : EvS w a l) (he : (played l).2.2 = 0) :
    Calls Try.prog 16 #[.slice a n c] w (RacPost (raceL l) w) := by
  subst hn; exact all_ok l a c w h he
theorem raceL_len (l : List Ev) (hl : l.length ≤ 80) : (raceL l).length ≤ 6400 := by
  have h1 := allR_len l l.length l.length
  have h2 : l.length * l.length ≤ 80 * 80 := Nat.mul_le_mul hl hl
  simp only [raceL]
  omega
theorem raceFront_no (a : Option Addr) (z : List Ev) (c : Nat) (n : Int) (w : World) (h : EvS w a z) (he : mayB z = false) :
    Calls Try.prog 4 #[.slice a z.length c, .int .i64 n] w fun e w' => e = .returned (.bool true) ∧ Below w.heap.size w w' := by
  go_enter Try.func4, Try.ntmps4
  go_wp2_with fail
  refine (raced_any _).mono ?_
  rintro r w1 ⟨rfl, hb⟩
  go_wp2_with fail
  refine (may_any z a c _ (h.below hb)).mono ?_
  rintro r w2 ⟨rfl, hk⟩
  rw [he]
  go_wp2
  go_ret
  exact ⟨rfl, hb.trans (hk.mono hb.size)⟩
/-- The races below a place, of the first k. -/
def beK (L : List Rc) (n k : Nat) : List Rc := (L.take k).filter fun r => decide (r.b < (n : Int))
theorem beK_yes {L : List Rc} {n k : Nat} (hk : k < L.length) (h : L[k].b < (n : Int)) : beK L n (k + 1) = beK L n k ++ [L[k]] := by
  unfold beK
  rw [List.take_add_one, List.getElem?_eq_getElem hk, Option.toList_some, List.filter_append]
  simp [h]
theorem beK_no {L : List Rc} {n k : Nat} (hk : k < L.length) (h : ¬ L[k].b < (n : Int)) : beK L n (k + 1) = beK L n k := by
  unfold beK
  rw [List.take_add_one, List.getElem?_eq_getElem hk, Option.toList_some, List.filter_append]
  simp [h]
theorem beK_len (L : List Rc) (n k : Nat) : (beK L n k).length ≤ L.length := by
  unfold beK
  have h1 := List.length_filter_le (fun r : Rc => decide (r.b < (n : Int))) (L.take k)
  have h2 : (L.take k).length ≤ L.length := by simp; omega
  omega

set_option maxRecDepth 100000 in
set_option maxHeartbeats 8000000 in
theorem raceFront_ok (a : Option Addr) (z : List Ev) (c : Nat) (n : Int) (w : World) (h : EvS w a z) (hc : z.length ≤ c) (hm : mayB z = true) :
    Calls Try.prog 4 #[.slice a z.length c, .int .i64 n] w fun e w' => e = .returned (.bool true) ∧ Below w.heap.size w w' := by
  have he := mayB_played hm
  have hbig := h.big
  have hl80 := (played_evs he).1
  obtain ⟨i0, hi, hz0, hz1, hz2⟩ := info_parts infoR
  obtain ⟨nn, hnn, hnz⟩ : ∃ k : Nat, n % ((z.length : Int) + 1) = k ∧ k ≤ z.length := ⟨(n % ((z.length : Int) + 1)).toNat, by have := Int.emod_nonneg n (show (z.length : Int) + 1 ≠ 0 by omega); omega, by have := Int.emod_lt_of_pos n (show 0 < (z.length : Int) + 1 by omega); omega⟩
  have hmt := mayB_take nn hm
  have hlt : (z.take nn).length = nn := by simp; omega
  have HT := Lib.hid (mayB_played hmt)
  have HL := Lib.hid hlt
  have HN := Lib.hid hnn
  have HM := Lib.hid hm
  have HE := Lib.hid he
  have hLl := raceL_len z hl80
  have hLt := raceL_len (z.take nn) (by omega)
  have hF := raceL_take z nn hnz
  have HF := Lib.hid hF
  clear hm he hmt hlt hnn hF
  go_enter Try.func4, Try.ntmps4
  go_wp2_with fail
  refine (raced_any _).mono ?_
  rintro r w1 ⟨rfl, hb⟩
  go_wp2_with fail
  refine (may_any z _ c _ (h.below hb)).mono ?_
  rintro r w2 ⟨rfl, hk⟩
  rw [HM.out]
  replace hb := hb.trans (hk.mono hb.size)
  clear hk
  go_wp2_with fail
  refine (rest_any n ((z.length : Int) + 1) _ (by omega) (by omega)).mono ?_
  rintro r w3 ⟨rfl, hw⟩
  rw [hw]
  clear hw
  rw [HN.out]
  go_wp2_with fail
  refine (all_ok z a c _ (h.below hb) HE.out).mono ?_
  rintro r w3 ⟨v1, rfl, hown1, hk⟩
  have hex : ∃ a2 c2, v1 = .slice a2 (raceL z).length c2 ∧ RcS w3 a2 (raceL z) := rcS_own hown1 (by omega)
  obtain ⟨a1, c1, rfl, hA⟩ := hex
  replace hb := hb.trans (hk.mono hb.size)
  clear hk hown1
  have n0 : (0 : Int) ≤ nn := by omega
  have n1 : (nn : Int) ≤ c := by omega
  go_wp2_with fail
  refine (all_n (z.take nn) nn HL.out a c _ ((h.take nn).below hb) HT.out).mono ?_
  rintro r w4 ⟨v2, rfl, hown2, hk⟩
  have hex : ∃ a2 c2, v2 = .slice a2 (raceL (z.take nn)).length c2 ∧ RcS w4 a2 (raceL (z.take nn)) := rcS_own hown2 (by omega)
  obtain ⟨a2, c2, rfl, hB⟩ := hex
  replace hA := hA.below hk
  replace hb := hb.trans (hk.mono hb.size)
  clear hk hown2 h
  generalize hL : raceL z = L at *
  generalize hL2 : raceL (z.take nn) = L2 at *
  have HL2 := Lib.hid hL2
  clear hL hL2
  go_wp2
  go_loopw [9, 36] (fun v i wr => ∃ k : Nat, k ≤ L.length ∧ i = .int .i64 k ∧ wr.ownsRow w4.heap.size 32 4 v (beK L nn k).length (rcL (beK L nn k)) ∧ Below w4.heap.size w4 wr) (fun _ i _ => L.length - (intOf i).toNat)
  case atStart => exact ⟨0, Nat.zero_le _, rfl, World.ownsRow_nil _ _ _ _, Below.refl _ _⟩
  case round =>
    obtain ⟨k, hk, rfl, hown, hb4⟩ := hrel
    by_cases hlt : k < L.length
    · obtain ⟨b', o', rfl, d0, d1, d2, d3⟩ := (hA.below hb4).at hlt
      have hyes := beK_yes (n := nn) hlt
      have hno := beK_no (n := nn) hlt
      have hbl := beK_len L nn k
      generalize L[k] = x at *
      have HY := Lib.hid hyes
      have HNo := Lib.hid hno
      clear hyes hno
      have hN := Has.new wr (rcC x) 32
      have x0 : (wr.alloc (.cells (rcC x) 32)).cell? ⟨wr.heap.size, 0, none⟩ = some (.int .i64 x.a) := hN.cell rfl
      have x1 : (wr.alloc (.cells (rcC x) 32)).cell? ⟨wr.heap.size, 1, none⟩ = some (.int .i64 x.b) := hN.cell rfl
      have x2 : (wr.alloc (.cells (rcC x) 32)).cell? ⟨wr.heap.size, 2, none⟩ = some (.int .i64 x.v) := hN.cell rfl
      have x3 : (wr.alloc (.cells (rcC x) 32)).cell? ⟨wr.heap.size, 3, none⟩ = some (.int .i64 x.k) := hN.cell rfl
      have ho1 := hown.alloc (.cells (rcC x) 32)
      have hb5 := hb4.alloc hb4.size (.cells (rcC x) 32)
      have hs5 := hb4.size
      by_cases hx : x.b < (nn : Int)
      · have hr := HY.out hx
        have HR := Lib.hid hr
        have hd : decide (x.b < (nn : Int)) = true := decide_eq_true hx
        have hT := Has.new (wr.alloc (.cells (rcC x) 32)) (rcC x) 32
        rw [World.size_alloc] at hT
        have hb6 := hb5.alloc (by simp; omega) (.cells (rcC x) 32)
        clear HY HNo hr hx
        go_wp2_with (at_builtin; refine app_list _ rfl (.tmp 44) (.tmp 46) 24 rfl Try.underlying24 hi hz0 hz1 hz2 rfl (by decide) rfl (ho1.alloc _) rfl (news := rcL [x]) ⟨rfl, .inr ⟨_, rfl, fun j u hu => hT.cell_add (by simpa [rcL] using hu)⟩⟩ (rcL_one _) ?c3 ?c4 ?c5 ?_)
        case c3 => unfold maxLen; omega
        case c4 => omega
        case c5 => simp; omega
        intro v' w6 hAp
        have hb7 := hAp.below (ho1.alloc _) hb6 (by simp; omega)
        have ho6 : w6.ownsRow w4.heap.size 32 4 v' (beK L nn (k + 1)).length (rcL (beK L nn (k + 1))) := by
          have := hAp.own
          rw [HR.out, rcL_append _ [_], List.length_append]
          exact this
        clear hAp ho1 hT hb6 hb5 hs5 hown hb4
        go_wp2
        go_roundw
        case rel => exact ⟨k + 1, by omega, by go_num, ho6, hb7⟩
        case measure => (simp [intOf]; try omega)
      · have hr := HNo.out hx
        have HR := Lib.hid hr
        have hd : decide (x.b < (nn : Int)) = false := decide_eq_false hx
        clear HY HNo hr hx
        go_wp2
        go_roundw
        case rel => exact ⟨k + 1, by omega, by go_num, by rw [HR.out]; exact ho1, hb5⟩
        case measure => (simp [intOf]; try omega)
    · obtain rfl : k = L.length := by omega
      have hbl := beK_len L nn L.length
      have hr : beK L nn L.length = L2 := by unfold beK; rw [List.take_length]; exact HF.out.symm
      rw [hr] at hown hbl
      clear hr
      have hex : ∃ a2 c2, u9 = .slice a2 L2.length c2 ∧ RcS wr a2 L2 := rcS_own hown (by omega)
      obtain ⟨a3, c3, rfl, hW⟩ := hex
      have hb5 := hb.trans (hb4.mono hb.size)
      clear hown
      go_wp2_with fail
      refine (eqRc_any L2 L2 a2 a3 c2 c3 _ (hB.below hb4) hW).mono ?_
      rintro r w6 ⟨rfl, hk6⟩
      rw [show eqB L2 L2 = true by simp [eqB]]
      go_wp2
      go_ret
      exact ⟨rfl, hb5.trans (hk6.mono hb5.size)⟩
theorem raceFront_walk (a : Option Addr) (z : List Ev) (c : Nat) (n : Int) (w : World) (hf : EvS w a z ∧ z.length ≤ c ∧ z.length * 24 ≤ 140737488351232 ∧ ∀ e ∈ z, I64 e.k ∧ I64 e.t ∧ I64 e.o) (_ : I64 n) :
    Calls Try.prog 4 #[.slice a z.length c, .int .i64 n] w fun e w' => e = .returned (.bool true) ∧ Below w.heap.size w w' := by
  cases hm : mayB z
  · exact raceFront_no a z c n w hf.1 hm
  · exact raceFront_ok a z c n w hf.1 hf.2.1 hm
/-! The frame of the law RaceFront, by program. -/
set_option maxRecDepth 100000 in
theorem raceFront_lifted (os : Os) (started : os.Started) (H : Type) (enc : TypeId × Value → H) :
    ReturnsInHanded {} Try.checked os 4 .any (Rows.raceFrontSpec.pre6 enc Try.prog Try.f4 Rows.raceFrontRow.domain false) (Rows.raceFrontSpec.post enc Try.prog Try.f4 false true false false) := by
  refine returnsInHanded_of_change_shaped (C := Try.checked) frame_own started (by kernel_rfl) Try.func4
    (ChangeSpec.witness6 (enc := enc) (C := Try.checked) false ⟨#[], #[.slice none 0 0, .int .i64 0], []⟩ 8 (by kernel_rfl) (by kernel_rfl) (by kernel_rfl) (by kernel_rfl)) ?_
  intro W base args ds gs before hval0 hW hcnd hsz hshaped hroom
  clear hcnd hshaped
  have hval : ∀ (j : Nat) t v, Try.f4.params[j]? = some t → args[j]? = some v → Value.okWide Try.prog W .any base t v := hval0
  have hW' := hW
  obtain ⟨p, q, hA0, hV, rfl, hfz, hnd⟩ := hW
  have hA : DataW.TrodAll enc Try.prog W 0 (fun _ => true) true Try.f4.params.toList args.toList ds p := hA0
  rw [Try.params4] at hA hval
  obtain ⟨v0, vs0, d0, ds0, p0, q0, hargs, rfl, rfl, h0, r0⟩ := trodAll_cons hA
  obtain ⟨v1, vs1, d1, ds1, p1, q1, rfl, rfl, rfl, h1, r1⟩ := trodAll_cons r0
  obtain ⟨rfl, rfl, rfl⟩ := trodAll_nil r1
  obtain rfl : args = #[v0, v1] := by cases args; simp_all
  obtain ⟨rfl, rfl⟩ := trodVars_none hV
  have k0 := h0
  have lt0 : ∀ x ∈ p0, x.block < W.heap.size := by obtain ⟨m, hm⟩ := k0; exact DataW.trod_lt m _ _ _ hm
  obtain ⟨a0, z0, c0, rfl, w0⟩ := open_evs (hval 0 22 v0 rfl rfl) h0 (fun els sp hd => sized_slice hsz (j := 0) rfl (by rw [hd]; rfl) Try.underlying22)
  have k1 := h1
  have lt1 : ∀ x ∈ p1, x.block < W.heap.size := by obtain ⟨m, hm⟩ := k1; exact DataW.trod_lt m _ _ _ hm
  obtain ⟨a1, rfl, rfl, rfl, w1⟩ := open_int Try.underlying3 (hval 1 3 v1 rfl rfl) h1
  clear hA0 hval0
  refine (raceFront_walk a0 z0 c0 a1 W w0 (wf_i64 w1)).mono fun e W' ⟨he, bel⟩ => ?_
  subst he
  exact ⟨_, rfl, _, _, _, [], _, [], hW', trodAll_mk1 (shut_bool Try.underlying4 _), (trodAll_cons_mk (Below.trod frame_laid (by kernel_rfl) (of_decide_eq_true (by kernel_rfl)) k0 bel lt0) (trodAll_cons_mk (Below.trod frame_laid (by kernel_rfl) (of_decide_eq_true (by kernel_rfl)) k1 bel lt1) trodAll_mk0)), rfl, bel.frame _, fun h => by cases h⟩

theorem raceFront_over : Rows.raceFrontRow.holds Try.pinned (OpenSpec.ofChange Rows.raceFrontSpec) :=
  OpenClaim.holds_of_wide 4 Try.f4 rfl rfl rfl rfl rfl rfl rfl ⟨rfl, rfl, rfl, rfl, rfl⟩ rfl rfl rfl rfl rfl (by kernel_rfl) Try.func4 (by kernel_rfl)
    (of_decide_eq_true (by kernel_rfl)) (by unfold Func.isWrapper; first | (rw [if_pos (by decide +kernel)]; kernel_rfl) | (rw [if_neg (by decide +kernel)]; exact ⟨rfl, rfl⟩))
    (fun os started H enc _ => raceFront_lifted os started H enc)

/-- The statement. -/
theorem raceFront_holds : Rows.RaceFrontSaid := raceFront_over

end Go.Proofs.Ytgliichceildgaa

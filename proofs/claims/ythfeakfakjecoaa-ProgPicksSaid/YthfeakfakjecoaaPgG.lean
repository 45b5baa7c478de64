/- Contract of prog.Run. -/
import Derived.Test.YthfeakfakjecoaaPgF
import Derived.Test.YthfeakfakjecoaaApp
import Derived.Test.YthfeakfakjecoaaEvs
namespace Go.Proofs.Ythfeakfakjecoaa
open Go.RowKit

def errR (p : List (List Ev)) (n : Nat) : Int := if chkP p = 0 then (if 100 < n then 2 else 0) else chkP p
def endR (p : List (List Ev)) (picks : List Int) : Array Value :=
  if errR p picks.length = 0 then endC (runP p picks).1 (doneB p (runP p picks).1) (stuckB p (runP p picks).1) else endC PS.zero false false
def evR (p : List (List Ev)) (picks : List Int) : List Ev := if errR p picks.length = 0 then (runP p picks).2 else []
/-- What Run leaves. -/
def RunPost (p : List (List Ev)) (picks : List Int) (w : World) (r : Ending) (w' : World) : Prop :=
  ∃ a c, ((evR p picks).length ≤ c ∧ ∀ x : Addr, a = some x → w.heap.size ≤ x.block) ∧ r = .returned (.tuple #[.agg (endR p picks), .slice a (evR p picks).length c, .int .i64 (errR p picks.length)]) ∧ EvS w' a (evR p picks) ∧ Below w.heap.size w w'
theorem grown_setRow (w : World) (b : Nat) (cs : Array Value) : w.grownBy (w.setRow b cs) (some b) :=
  ⟨rfl, rfl, rfl, by simp [World.setRow], fun k _ hk => by simp only [World.setRow, Array.getElem?_modify]; rw [if_neg (fun e => hk (by rw [e]))]⟩
theorem results_row3 {P : Program} {fn : Func} {p q r : Tmp} {ty : TypeId} (h : fn.results = #[.cell p ty, .tmp q, .tmp r]) (tmps : Array Value) (w : World) (g : Nat) (t : TypeId) (cs : Array Value) (fr : Nat × Nat) (d : TypeDesc)
    (hp : tmps.getD p undef = .pointer (some ⟨g, 0, none⟩)) (hg : w.heap[g]? = some (.cells cs t fr))
    (hu : P.underlying ty = some d) (hd : (match d with | .struct _ | .array _ _ => true | _ => false) = true) (hi : (P.info? ty).map (·.size) = some cs.size) :
    (results fn tmps).run P w = .ok (.tuple #[.agg cs, tmps.getD q undef, tmps.getD r undef]) w := by
  have hp' : tmps[p]?.getD undef = .pointer (some ⟨g, 0, none⟩) := by simpa using hp
  simp [results, h, hp', asAddr, run_loadVar_row w g t ty cs fr d hg hu hd hi]

set_option maxRecDepth 100000 in
set_option maxHeartbeats 8000000 in
theorem run_bad (p : List (List Ev)) (picks : List Int) (a ap : Option Addr) (c cp : Nat) (w : World) (h : PgS w a p) (hq : IntS w ap picks) (he : errR p picks.length ≠ 0) :
    Calls Try.prog 17 #[.slice a p.length c, .slice ap picks.length cp] w (RunPost p picks w) := by
  have hE := Lib.hid (show endR p picks = endC PS.zero false false by unfold endR; rw [if_neg he])
  have hV := Lib.hid (show evR p picks = [] by unfold evR; rw [if_neg he])
  have hbig := hq.big
  obtain ⟨X, hX⟩ : ∃ X, chkP p = X := ⟨_, rfl⟩
  have hXR : errR p picks.length = if X = 0 then (if 100 < picks.length then 2 else 0) else X := by unfold errR; rw [hX]
  rw [hXR] at he
  have HX := Lib.hid hX
  clear hX
  have hZ := Has.new w (endC PS.zero false false) endT
  have hb := (Below.refl w.heap.size w).alloc (Nat.le_refl _) (.cells (endC PS.zero false false) endT)
  by_cases h0 : X = 0
  · subst h0
    rw [if_pos rfl] at hXR he
    have hl : 100 < picks.length := by
      by_cases c : 100 < picks.length
      · exact c
      · rw [if_neg c] at he; exact absurd rfl he
    rw [if_pos hl] at hXR
    have r1 : decide ((picks.length : Int) > 100) = true := decide_eq_true (by omega)
    have r2 : decide (100 < picks.length) = true := decide_eq_true hl
    have HR := Lib.hid hXR
    clear hXR he hl
    go_enter Try.func17, Try.ntmps17
    go_wp2_with fail
    refine (checkP_any p a c _ (h.below ((Below.refl _ _).alloc (Nat.le_refl _) _))).mono ?_
    rintro r w1 ⟨rfl, hk⟩
    rw [HX.out]
    have hZ1 : Has w1 w.heap.size (endC PS.zero false false) endT := Has.below (Has.to (Has.new w _ endT) rfl) hk (by simp)
    have hb1 : Below w.heap.size w w1 := ((Below.refl _ _).alloc (Nat.le_refl _) _).trans (hk.mono (by simp))
    clear hk hZ hb
    go_upto_region 5 with fail
    refine wp_region_lit ?_
    go_wp2_with (refine wpList_store_row rfl endT _ _ rfl w.heap.size (endC PS.zero false false) rfl rfl endT _ hZ1.out (by rw [endC_size]; rfl) (by rw [endC_size]) (endC_one _ _ _) ?_)
    have hb6 := below_setRow (cs := endC PS.zero false false) hb1 (Nat.le_refl _)
    have hR6 := hZ1.setRow (ds := endC PS.zero false false)
    generalize w1.setRow w.heap.size (endC PS.zero false false) = W6 at *
    obtain ⟨Y, hY⟩ : ∃ Y, endC PS.zero false false = Y := ⟨_, rfl⟩
    have hs : Y.size = 20 := by rw [← hY]; exact endC_size _ _ _
    have HE2 : Hid (endR p picks = Y) := Lib.hid (by rw [hE.out]; exact hY)
    rw [hY] at hR6
    clear hY hZ1 hb1 hE
    go_wp2
    refine bodyPost_ret (results_row3 rfl _ W6 w.heap.size endT Y _ _ rfl hR6.out Try.underlying30 rfl ?_) rfl ?_
    · rw [hs]; rfl
    refine ⟨none, 0, ⟨by rw [hV.out]; simp, fun x e => by cases e⟩, ?_, ?_, hb6⟩
    · rw [HE2.out, hV.out, HR.out]; rfl
    · rw [hV.out]; exact ⟨by simp, .inl rfl⟩
  · rw [if_neg h0] at hXR
    have r1 : (X == 0) = false := beq_eq_false_iff_ne.2 h0
    have r2 : (X != 0) = true := by simp [bne, r1]
    have HR := Lib.hid hXR
    clear hXR he h0
    go_enter Try.func17, Try.ntmps17
    go_wp2_with fail
    refine (checkP_any p a c _ (h.below ((Below.refl _ _).alloc (Nat.le_refl _) _))).mono ?_
    rintro r w1 ⟨rfl, hk⟩
    rw [HX.out]
    have hZ1 : Has w1 w.heap.size (endC PS.zero false false) endT := Has.below (Has.to (Has.new w _ endT) rfl) hk (by simp)
    have hb1 : Below w.heap.size w w1 := ((Below.refl _ _).alloc (Nat.le_refl _) _).trans (hk.mono (by simp))
    clear hk hZ hb
    go_upto_region 5 with fail
    refine wp_region_lit ?_
    go_wp2_with (refine wpList_store_row rfl endT _ _ rfl w.heap.size (endC PS.zero false false) rfl rfl endT _ hZ1.out (by rw [endC_size]; rfl) (by rw [endC_size]) (endC_one _ _ _) ?_)
    have hb6 := below_setRow (cs := endC PS.zero false false) hb1 (Nat.le_refl _)
    have hR6 := hZ1.setRow (ds := endC PS.zero false false)
    generalize w1.setRow w.heap.size (endC PS.zero false false) = W6 at *
    obtain ⟨Y, hY⟩ : ∃ Y, endC PS.zero false false = Y := ⟨_, rfl⟩
    have hs : Y.size = 20 := by rw [← hY]; exact endC_size _ _ _
    have HE2 : Hid (endR p picks = Y) := Lib.hid (by rw [hE.out]; exact hY)
    rw [hY] at hR6
    clear hY hZ1 hb1 hE
    go_wp2
    refine bodyPost_ret (results_row3 rfl _ W6 w.heap.size endT Y _ _ rfl hR6.out Try.underlying30 rfl ?_) rfl ?_
    · rw [hs]; rfl
    refine ⟨none, 0, ⟨by rw [hV.out]; simp, fun x e => by cases e⟩, ?_, ?_, hb6⟩
    · rw [HE2.out, hV.out, HR.out]; rfl
    · rw [hV.out]; exact ⟨by simp, .inl rfl⟩

set_option maxRecDepth 100000 in
set_option maxHeartbeats 8000000 in
theorem run_ok (p : List (List Ev)) (picks : List Int) (a ap : Option Addr) (c cp : Nat) (w : World) (h : PgS w a p) (hq : IntS w ap picks) (he : errR p picks.length = 0) :
    Calls Try.prog 17 #[.slice a p.length c, .slice ap picks.length cp] w (RunPost p picks w) := by
  have hX : chkP p = 0 := by
    unfold errR at he
    split at he
    · assumption
    · exact he
  have hl : picks.length ≤ 100 := by
    unfold errR at he
    rw [if_pos hX] at he
    split at he
    · cases he
    · omega
  have HP := Lib.hid (chkP_ok hX)
  have hE := Lib.hid (show endR p picks = endC (runP p picks).1 (doneB p (runP p picks).1) (stuckB p (runP p picks).1) by unfold endR; rw [if_pos he])
  have hV := Lib.hid (show evR p picks = (runP p picks).2 by unfold evR; rw [if_pos he])
  have HR := Lib.hid he
  have HX := Lib.hid hX
  have r1 : decide ((picks.length : Int) > 100) = false := decide_eq_false (by omega)
  have r2 : decide (100 < picks.length) = false := decide_eq_false (by omega)
  obtain ⟨i0, hi, hz0, hz1, hz2⟩ := info_parts infoE
  have hbig := hq.big
  clear he hX
  go_enter Try.func17, Try.ntmps17
  go_wp2_with fail
  refine (checkP_any p a c _ (h.below ((Below.refl _ _).alloc (Nat.le_refl _) _))).mono ?_
  rintro r w1 ⟨rfl, hk⟩
  rw [HX.out]
  have hZ1 : Has w1 w.heap.size (endC PS.zero false false) endT := Has.below (Has.to (Has.new w _ endT) rfl) hk (by simp)
  have hb1 : Below w.heap.size w w1 := ((Below.refl _ _).alloc (Nat.le_refl _) _).trans (hk.mono (by simp))
  clear hk
  go_wp2_with fail
  refine (firstP_any _).mono ?_
  rintro r w2 ⟨rfl, hk⟩
  have hZ2 := hZ1.below hk hZ1.lt
  have hb2 := hb1.trans (hk.mono hb1.size)
  clear hk hZ1 hb1
  obtain ⟨B, hB⟩ : ∃ B, w2.heap.size = B := ⟨_, rfl⟩
  have hwB : w.heap.size < B := by have := hZ2.lt; omega
  obtain ⟨Y, hY⟩ : ∃ Y, psC PS.first = Y := ⟨_, rfl⟩
  have hYs : Y.size = 37 := by rw [← hY]; exact psC_size _
  have hY1 : Y.all (·.oneCell') = true := by rw [← hY]; exact psC_one _
  rw [hY]
  have HY := Lib.hid hY
  have HS := Lib.hid hYs
  have H1 := Lib.hid hY1
  clear hY hYs hY1
  go_wp2_with (first
    | (refine wpList_store_row rfl psT _ _ rfl B Y rfl rfl psT _ ((Has.new w2 (psC PS.zero) psT).at hB).out (by rw [HS.out]; rfl) (by rw [HS.out, psC_size]) H1.out ?_
       generalize hW3 : World.setRow _ _ _ = W3
       have hS3 : Has W3 B (psR PS.first []) psT := by rw [← hW3, psR_nil, HY.out]; exact ((Has.new w2 (psC PS.zero) psT).at hB).setRow
       have hb3 : Below w.heap.size w W3 := by rw [← hW3]; exact below_setRow (hb2.alloc hb2.size _) (Nat.le_of_lt hwB)
       have hZ3 : Has W3 w.heap.size (endC PS.zero false false) endT := by rw [← hW3]; exact ⟨by simp only [World.setRow, Array.getElem?_modify]; rw [if_neg (by omega)]; exact (hZ2.alloc _).out⟩
       clear hW3 hb2 hZ2))
  have hO3 := World.ownsRow_nil W3 w.heap.size 37 3
  clear hB HY HS H1
  have hbig2 := h.big
  go_loopw [9, 30] (fun o i wr => ∃ k : Nat, k ≤ picks.length ∧ i = .int .i64 k ∧ wr.ownsRow w.heap.size 37 3 o (runP p (picks.take k)).2.length (evL (runP p (picks.take k)).2) ∧ Has wr B (psR (runP p (picks.take k)).1 []) psT ∧ Has wr w.heap.size (endC PS.zero false false) endT ∧ Below w.heap.size w wr) (fun _ i _ => picks.length - (intOf i).toNat)
  case atStart => exact ⟨0, Nat.zero_le _, rfl, by simpa [runP, evL] using hO3, by simpa [runP] using hS3, hZ3, hb3⟩
  case round =>
    clear hS3 hb3 hZ3 hO3
    obtain ⟨k, hk, rfl, hO, hS, hZ, hb⟩ := hrel
    by_cases hlt : k < picks.length
    · obtain ⟨qb, qo, rfl, hcell⟩ := (hq.below hb).at hlt
      have htk : picks.take (k + 1) = picks.take k ++ [picks[k]] := by rw [List.take_add_one, List.getElem?_eq_getElem hlt]; rfl
      have hr1 := runP_snoc p (picks.take k) picks[k]
      rw [← htk] at hr1
      have HN := Lib.hid hr1
      have hI := runP_IP HP.out (picks.take k)
      have hVB := runP_VB HP.out (picks.take k)
      have hvl := runP_len p (picks.take k)
      have htl : (picks.take k).length ≤ 100 := by simp; omega
      have hbb : ∀ i, -1000000000 ≤ (runP p (picks.take k)).1.has i ∧ (runP p (picks.take k)).1.has i ≤ 1000000000 := fun i => by have := (hVB i).2.2; omega
      have HBB := Lib.hid hbb
      have HI := Lib.hid hI
      have k0 : (0 : Int) ≤ k := by omega
      have k1 : (k : Int) < picks.length := by omega
      have hlen : (runP p (picks.take k)).2.length ≤ 100 := by omega
      clear htk hr1 hVB hbb hI hvl htl
      generalize runP p (picks.take k) = q at *
      obtain ⟨s, l⟩ := q
      generalize picks[k] = t at *
      simp only at hO hS hlen
      cases hcan : canB p s t
      · have HQ := Lib.hid (show runP p (picks.take (k + 1)) = (s, l) by rw [HN.out]; exact pickP_no hcan)
        go_wp2_with fail
        refine (can_any p s t a c B [] psT _ (h.below hb) hS HP.out HI.out).mono ?_
        rintro r w5 ⟨rfl, hk5⟩
        have hO5 := own_below hO hk5
        have hS5 := hS.below hk5 hS.lt
        have hZ5 := hZ.below hk5 hZ.lt
        have hb5 := hb.trans (hk5.mono hb.size)
        rw [hcan]
        clear hO hS hZ hb hk5 hcell hcan
        go_wp2
        go_roundw
        case rel => exact ⟨k + 1, by omega, by go_num, by rw [HQ.out]; exact hO5, by rw [HQ.out]; exact hS5, hZ5, hb5⟩
        case measure => (simp [intOf]; try omega)
      · obtain ⟨t0, t1, _⟩ := nextB_iff.1 (canB_next hcan)
        obtain ⟨n, rfl⟩ : ∃ n : Nat, t = n := ⟨t.toNat, by omega⟩
        have HQ := Lib.hid (show runP p (picks.take (k + 1)) = ((stepP p s n).1, l ++ (stepP p s n).2.toList) by rw [HN.out]; exact pickP_yes hcan)
        have HC := Lib.hid hcan
        clear t0 t1 HN
        go_wp2_with fail
        refine (can_any p s n a c B [] psT _ (h.below hb) hS HP.out HI.out).mono ?_
        rintro r w5 ⟨rfl, hk5⟩
        have hO5 := own_below hO hk5
        have hS5 := hS.below hk5 hS.lt
        have hZ5 := hZ.below hk5 hZ.lt
        have hb5 := hb.trans (hk5.mono hb.size)
        rw [hcan]
        clear hO hS hZ hb hk5 hcell hcan
        go_wp2_with fail
        refine (step_any p s n a c B [] psT w _ h hb5 (Nat.le_of_lt hwB) hS5 HP.out HI.out HC.out (HBB.out n)).mono ?_
        rintro r w6 ⟨rfl, hS6, hg6⟩
        have hne : u9.ownBlock ≠ some B := by
          intro e
          rcases hO5.2 with ⟨rfl, _⟩ | ⟨g, cap, cur, rfl, _, hh, _⟩
          · simp [Value.ownBlock] at e
          · simp [Value.ownBlock] at e
            subst e
            have := hh.symm.trans hS5.out
            injection this with this
            injection this with _ e2
            exact absurd e2 (by decide)
        have hO6 := hO5.kept hg6 (.inr hne)
        have hZ6 := hZ5.grown hg6 (by intro e; cases e; omega)
        have hb6 := hb5.grown hg6 hb5.size (fun k e => by cases e; omega)
        clear hO5 hS5 hZ5 hb5 hg6 HI HBB HC
        obtain ⟨⟨s', oe⟩, hst⟩ : ∃ q2, stepP p s n = q2 := ⟨_, rfl⟩
        rw [hst] at hS6
        have HQ2 := Lib.hid (show runP p (picks.take (k + 1)) = (s', l ++ oe.toList) by rw [HQ.out, hst])
        rw [hst]
        clear hst HQ
        cases oe with
        | none =>
          simp only [Option.getD_none, Option.isSome_none]
          have hb7 := hb6.alloc hb6.size (.cells (evC ⟨0, 0, 0⟩) 37)
          have hO7 := hO6.alloc (.cells (evC ⟨0, 0, 0⟩) 37)
          go_wp2
          go_roundw
          case rel => exact ⟨k + 1, by omega, by go_num, by rw [HQ2.out]; simpa using hO7, by rw [HQ2.out]; exact hS6.alloc _, hZ6.alloc _, hb7⟩
          case measure => (simp [intOf]; try omega)
        | some x =>
          simp only [Option.getD_some, Option.isSome_some]
          have hN := Has.new w6 (evC x) 37
          have hO7 := hO6.alloc (.cells (evC x) 37)
          have hS7 := hS6.alloc (.cells (evC x) 37)
          have hZ7 := hZ6.alloc (.cells (evC x) 37)
          have hb7 := hb6.alloc hb6.size (.cells (evC x) 37)
          have hs7 := hb7.size
          obtain ⟨x0, x1, x2⟩ : (w6.alloc (.cells (evC x) 37)).cell? ⟨w6.heap.size, 0, none⟩ = some (.int .i64 x.k) ∧ (w6.alloc (.cells (evC x) 37)).cell? ⟨w6.heap.size, 1, none⟩ = some (.int .i64 x.t) ∧ (w6.alloc (.cells (evC x) 37)).cell? ⟨w6.heap.size, 2, none⟩ = some (.int .i64 x.o) := ⟨hN.cell rfl, hN.cell rfl, hN.cell rfl⟩
          have hT := Has.new (w6.alloc (.cells (evC x) 37)) (evC x) 37
          rw [World.size_alloc] at hT
          have hb8 := hb7.alloc hs7 (.cells (evC x) 37)
          clear hO6 hS6 hZ6 hb6
          go_wp2_with (at_builtin; refine app_list _ rfl (.tmp 45) (.tmp 47) 31 rfl Try.underlying31 hi hz0 hz1 hz2 rfl (by decide) rfl (hO7.alloc _) rfl (news := evL [x]) ⟨rfl, .inr ⟨_, rfl, fun j u hu => hT.cell_add (by simpa [evL] using hu)⟩⟩ (by intro q hq; simp [evL] at hq; rcases hq with rfl | rfl | rfl <;> rfl) ?c3 ?c4 ?c5 ?_)
          case c3 => unfold maxLen; omega
          case c4 => omega
          case c5 => have := hb8.size; simp at this ⊢; omega
          intro v6 w9 hAp
          have hb9 := hAp.below (hO7.alloc _) hb8 (by have := hb8.size; simp at this ⊢; omega)
          have hS9 := (hS7.alloc (.cells (evC x) 37)).grown hAp.grown (Ne.symm hne)
          have hZ9 := (hZ7.alloc (.cells (evC x) 37)).grown hAp.grown (by
            intro e
            rcases hO7.2 with ⟨rfl, _⟩ | ⟨g, cap, cur, rfl, _, hh, _⟩
            · simp [Value.ownBlock] at e
            · simp [Value.ownBlock] at e
              subst e
              have := hh.symm.trans hZ7.out
              injection this with this
              injection this with _ e2
              exact absurd e2 (by decide))
          have hv6 : w9.ownsRow w.heap.size 37 3 v6 (runP p (picks.take (k + 1))).2.length (evL (runP p (picks.take (k + 1))).2) := by
            have := hAp.own
            rw [HQ2.out]
            simp only [Option.toList_some, List.length_append]
            rw [evL_append _ [x]]
            exact this
          clear hAp hT hb8 x0 x1 x2 hN hO7 hS7 hZ7 hb7 hne
          go_wp2
          go_roundw
          case rel => exact ⟨k + 1, by omega, by go_num, hv6, by rw [HQ2.out]; exact hS9, hZ9, hb9⟩
          case measure => (simp [intOf]; try omega)
    · obtain rfl : k = picks.length := by omega
      have hI := runP_IP HP.out picks
      have hvl := runP_len p picks
      rw [List.take_length] at hO hS
      obtain ⟨q, hq2⟩ : ∃ q, runP p picks = q := ⟨_, rfl⟩
      rw [hq2] at hO hS hI hvl
      have HV2 := Lib.hid (show evR p picks = q.2 by rw [hV.out, hq2])
      have HE2 := Lib.hid (show endR p picks = endC q.1 (doneB p q.1) (stuckB p q.1) by rw [hE.out, hq2])
      clear hE hV hq2
      obtain ⟨s, l⟩ := q
      simp only at hO hS hI hvl HV2 HE2
      obtain ⟨ao, co, rfl, hZo, _⟩ := evS_own hO (by omega)
      go_wp2_with fail
      refine (ended_any p s a c B [] psT _ (h.below hb) hS HP.out hI).mono ?_
      rintro r w5 ⟨rfl, hk5⟩
      have hZ5 := hZ.below hk5 hZ.lt
      have hb5 := hb.trans (hk5.mono hb.size)
      have hO5 := own_below hO hk5
      have hb6 := below_setRow (cs := endC s (doneB p s) (stuckB p s)) hb5 (Nat.le_refl _)
      have hR6 := hZ5.setRow (ds := endC s (doneB p s) (stuckB p s))
      have hO6 := hO5.kept (grown_setRow w5 w.heap.size (endC s (doneB p s) (stuckB p s))) (.inr (by
        intro e
        rcases hO5.2 with ⟨e1, _⟩ | ⟨g, cap, cur, e1, _, hh, _⟩
        · rw [e1] at e; simp [Value.ownBlock] at e
        · rw [e1] at e; simp [Value.ownBlock] at e
          subst e
          have := hh.symm.trans hZ5.out
          injection this with this
          injection this with _ e2
          exact absurd e2 (by decide)))
      have hcap : Hid (l.length ≤ co) := Lib.hid (by
        rcases hO6.2 with ⟨e1, hn⟩ | ⟨g, cap, cur, e1, _, _, hnc, _⟩
        · omega
        · injection e1 with _ _ e2; omega)
      obtain ⟨a2, c2, e2, hL6, hnew⟩ := evS_own hO6 (by omega)
      have HNEW := Lib.hid hnew
      clear hnew
      cases e2
      obtain ⟨Y, hY⟩ : ∃ Y, endC s (doneB p s) (stuckB p s) = Y := ⟨_, rfl⟩
      have hYs : Y.size = 20 := by rw [← hY]; exact endC_size _ _ _
      have hY1 : Y.all (·.oneCell') = true := by rw [← hY]; exact endC_one _ _ _
      rw [hY] at hb6 hR6 hL6 HE2 ⊢
      have HS := Lib.hid hYs
      have H1 := Lib.hid hY1
      clear hY hYs hY1 hO hO5 hO6 hS hZ hb hk5 hI hvl hZo
      go_wp2_with (refine wpList_store_row rfl endT _ _ rfl w.heap.size Y rfl rfl endT _ hZ5.out (by rw [HS.out]; rfl) (by rw [HS.out, endC_size]) H1.out ?_)
      generalize w5.setRow w.heap.size Y = W6 at *
      refine bodyPost_ret (results_row3 rfl _ W6 w.heap.size endT Y _ _ rfl hR6.out Try.underlying30 rfl (by rw [HS.out]; rfl)) rfl ?_
      refine ⟨ao, co, ⟨by rw [HV2.out]; exact hcap.out, fun x e => HNEW.out x.block (by rw [e]; rfl)⟩, ?_, by rw [HV2.out]; exact hL6, hb6⟩
      rw [HE2.out, HV2.out, HR.out]
      rfl
theorem run_any (p : List (List Ev)) (picks : List Int) (a ap : Option Addr) (c cp : Nat) (w : World) (h : PgS w a p) (hq : IntS w ap picks) :
    Calls Try.prog 17 #[.slice a p.length c, .slice ap picks.length cp] w (RunPost p picks w) := by
  by_cases he : errR p picks.length = 0
  · exact run_ok p picks a ap c cp w h hq he
  · exact run_bad p picks a ap c cp w h hq he
end Go.Proofs.Ythfeakfakjecoaa

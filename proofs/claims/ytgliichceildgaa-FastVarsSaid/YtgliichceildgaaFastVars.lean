/- FastVars: the events of one variable do not affect the flags of others: for every trace and every number. -/
import Derived.Test.YtgliichceildgaaRows
import Derived.Test.YtgliichceildgaaFrS
import Derived.Test.YtgliichceildgaaTwo
import Derived.Test.YtgliichceildgaaRest
import Derived.Test.YtgliichceildgaaOpenE
namespace Go.Proofs.Ytgliichceildgaa
open Go.ChangeShapes Go.WideShapes Go.ChangeAt Go.RowKit

def isX (x : Nat) (f : Ev) : Bool := decide (f.t = x)
theorem ofAt_yes (x : Nat) {z : List Ev} {k : Nat} (hk : k < z.length) (h : ofV x z[k] = true) : ofAt x 0 (z.take (k + 1)) = ofAt x 0 (z.take k) ++ [(k : Int)] := by
  rw [List.take_add_one, List.getElem?_eq_getElem hk, Option.toList_some, ofAt_append]
  have : (z.take k).length = k := by simp; omega
  rw [this]
  simp [ofAt, h]
theorem ofAt_no (x : Nat) {z : List Ev} {k : Nat} (hk : k < z.length) (h : ofV x z[k] = false) : ofAt x 0 (z.take (k + 1)) = ofAt x 0 (z.take k) := by
  rw [List.take_add_one, List.getElem?_eq_getElem hk, Option.toList_some, ofAt_append]
  simp [ofAt, h]
/-- The first j places of flags, told in the trace's own. -/
def moved (at_ : List Int) (B : List Ev) (j : Nat) : List Ev := (B.take j).map (atE fun q => at_.getD q.toNat 0) ++ B.drop j
theorem moved_len (at_ : List Int) (B : List Ev) (j : Nat) : (moved at_ B j).length = B.length := by simp [moved]; omega
theorem moved_get (at_ : List Int) (B : List Ev) {j : Nat} (hj : j < B.length) : (moved at_ B j)[j]'(by rw [moved_len]; exact hj) = B[j] := by
  unfold moved
  have hl : ((B.take j).map (atE fun q => at_.getD q.toNat 0)).length = j := by simp; omega
  rw [List.getElem_append_right (by omega), List.getElem_drop]
  congr 1
  omega
theorem moved_set (at_ : List Int) (B : List Ev) {j : Nat} (hj : j < B.length) {q : Int} (hq : at_.getD B[j].k.toNat 0 = q) : (moved at_ B j).set j ⟨q, B[j].t, B[j].o⟩ = moved at_ B (j + 1) := by
  have hl : ((B.take j).map (atE fun q => at_.getD q.toNat 0)).length = j := by simp; omega
  unfold moved
  rw [List.set_append_right _ _ (by omega), hl, Nat.sub_self, List.drop_eq_getElem_cons hj, List.set_cons_zero, List.take_add_one, List.getElem?_eq_getElem hj, Option.toList_some, List.map_append, List.append_assoc]
  subst hq
  rfl
theorem vars_all {z : List Ev} (hm : mayB z = true) (x : Nat) :
    (played (fK (ofV x) z z.length)).2.2 = 0 ∧ moved (ofAt x 0 z) (qFlags (fK (ofV x) z z.length) (fK (ofV x) z z.length).length) (qFlags (fK (ofV x) z z.length) (fK (ofV x) z z.length).length).length = fK (isX x) (qFlags z z.length) (qFlags z z.length).length := by
  rw [fK_all, fK_all]
  refine ⟨mayB_played (mayB_of hm x), ?_⟩
  unfold moved
  rw [List.take_length, List.drop_length, List.append_nil]
  refine qFlags_of (played_evs (mayB_played hm)).2 x _ fun m q hq => ?_
  simp [List.getD, hq]
theorem eqFl_two (L : List Ev) (n m : Nat) (hn : L.length = n) (hm : L.length = m) (a a' : Option Addr) (c c' : Nat) (w : World) (h : EvS w a L) (h' : EvS w a' L) :
    Calls Try.prog 24 #[.slice a n c, .slice a' m c'] w fun e w' => e = .returned (.bool true) ∧ Below w.heap.size w w' := by
  subst hn; subst hm
  have := eqFl_any L L a a' c c' w h h'
  rwa [show eqB L L = true by simp [eqB]] at this

set_option maxRecDepth 100000 in
theorem fastVars_no (a : Option Addr) (z : List Ev) (c : Nat) (n : Int) (w : World) (h : EvS w a z) (hm : mayB z = false) :
    Calls Try.prog 9 #[.slice a z.length c, .int .i64 n] w fun e w' => e = .returned (.bool true) ∧ Below w.heap.size w w' := by
  go_enter Try.func9, Try.ntmps9
  go_wp2_with fail
  refine (fasted_any _).mono ?_
  rintro r w1 ⟨rfl, hb⟩
  go_wp2_with fail
  refine (may_any z a c _ (h.below hb)).mono ?_
  rintro r w2 ⟨rfl, hk⟩
  rw [hm]
  go_wp2
  go_ret
  exact ⟨rfl, hb.trans (hk.mono hb.size)⟩

set_option maxRecDepth 100000 in
set_option maxHeartbeats 8000000 in
theorem fastVars_ok (a : Option Addr) (z : List Ev) (c : Nat) (n : Int) (w : World) (h : EvS w a z) (hm : mayB z = true) :
    Calls Try.prog 9 #[.slice a z.length c, .int .i64 n] w fun e w' => e = .returned (.bool true) ∧ Below w.heap.size w w' := by
  have he := mayB_played hm
  have hl80 := (played_evs he).1
  obtain ⟨i0, hi, hz0, hz1, hz2⟩ := info_parts infoE
  obtain ⟨j0, hj, jz0, jz1, jz2⟩ := info_parts infoI
  obtain ⟨f0, hf, fz0, fz1, fz2⟩ := info_parts infoF
  obtain ⟨x, hnx, hx8⟩ : ∃ x : Nat, n % 8 = x ∧ x < 8 := ⟨(n % 8).toNat, by have := Int.emod_nonneg n (show (8 : Int) ≠ 0 by decide); omega, by have := Int.emod_lt_of_pos n (show (0 : Int) < 8 by decide); omega⟩
  have HX := Lib.hid hnx
  have HM := Lib.hid hm
  have HE := Lib.hid he
  have HV := Lib.hid (vars_all hm x)
  clear hnx hm he
  go_enter Try.func9, Try.ntmps9
  go_wp2_with fail
  refine (fasted_any _).mono ?_
  rintro r w1 ⟨rfl, hb⟩
  go_wp2_with fail
  refine (may_any z a c _ (h.below hb)).mono ?_
  rintro r w2 ⟨rfl, hk⟩
  rw [HM.out]
  replace hb := hb.trans (hk.mono hb.size)
  replace h := h.below hb
  clear hk
  go_wp2_with fail
  refine (rest_any n 8 _ (by omega) (by omega)).mono ?_
  rintro r w3 ⟨rfl, rfl⟩
  rw [HX.out]
  go_wp2
  go_loopw [5, 6, 26] (fun v u i wr => ∃ k : Nat, k ≤ z.length ∧ i = .int .i64 k ∧ wr.ownsRow w3.heap.size 34 3 v (fK (ofV x) z k).length (evL (fK (ofV x) z k)) ∧ wr.ownsRow w3.heap.size 3 1 u (ofAt x 0 (z.take k)).length ((ofAt x 0 (z.take k)).map fun n => Value.int .i64 n) ∧ Dis v u ∧ Below w3.heap.size w3 wr) (fun _ _ i _ => z.length - (intOf i).toNat)
  case atStart => exact ⟨0, Nat.zero_le _, rfl, World.ownsRow_nil _ _ _ _, World.ownsRow_nil _ _ _ _, .inl rfl, Below.refl _ _⟩
  case round =>
    obtain ⟨k, hk, rfl, hv, hu, hd, hb4⟩ := hrel
    by_cases hlt : k < z.length
    · obtain ⟨b', o', rfl, d0, d1, d2⟩ := (h.below hb4).at hlt
      have y1 := fK_yes (p := ofV x) hlt
      have n1 := fK_no (p := ofV x) hlt
      have y2 := ofAt_yes x hlt
      have n2 := ofAt_no x hlt
      have l1 := fK_len (ofV x) z k
      have l2 : (ofAt x 0 (z.take k)).length ≤ z.length := by rw [ofAt_len]; have := List.length_filter_le (ofV x) (z.take k); simp at this; omega
      generalize z[k] = y at *
      have Y1 := Lib.hid y1
      have N1 := Lib.hid n1
      have Y2 := Lib.hid y2
      have N2 := Lib.hid n2
      have hN := Has.new wr (evC y) 34
      have hv1 := hv.alloc (.cells (evC y) 34)
      have hu1 := hu.alloc (.cells (evC y) 34)
      have hb5 := hb4.alloc hb4.size (.cells (evC y) 34)
      have hs5 := hb4.size
      obtain ⟨x0, x1, x2⟩ : (wr.alloc (.cells (evC y) 34)).cell? ⟨wr.heap.size, 0, none⟩ = some (.int .i64 y.k) ∧ (wr.alloc (.cells (evC y) 34)).cell? ⟨wr.heap.size, 1, none⟩ = some (.int .i64 y.t) ∧ (wr.alloc (.cells (evC y) 34)).cell? ⟨wr.heap.size, 2, none⟩ = some (.int .i64 y.o) := ⟨hN.cell rfl, hN.cell rfl, hN.cell rfl⟩
      obtain ⟨q1, hq1⟩ : ∃ q, decide (y.k > 2) = q := ⟨_, rfl⟩
      obtain ⟨q2, hq2⟩ : ∃ q, (y.o == (x : Int)) = q := ⟨_, rfl⟩
      have hio : ofV x y = (q1 || q2) := by rw [← hq1, ← hq2]; by_cases e : y.k > 2 <;> by_cases e2 : y.o = x <;> simp [ofV, e, e2]
      have HIO := Lib.hid hio
      clear y1 n1 y2 n2 hv hu hb4 hio
      cases hqq : (q1 || q2)
      · have HR1 := Lib.hid (N1.out (by rw [HIO.out, hqq]))
        have HR2 := Lib.hid (N2.out (by rw [HIO.out, hqq]))
        obtain ⟨rfl, rfl⟩ : q1 = false ∧ q2 = false := by revert hqq; cases q1 <;> cases q2 <;> simp
        clear Y1 N1 Y2 N2 hqq HIO
        go_wp2
        go_roundw
        case rel => exact ⟨k + 1, by omega, by go_num, (by rw [HR1.out]; exact hv1), (by rw [HR2.out]; exact hu1), hd, hb5⟩
        case measure => (simp [intOf]; try omega)
      · have HR1 := Lib.hid (Y1.out (by rw [HIO.out, hqq]))
        have HR2 := Lib.hid (Y2.out (by rw [HIO.out, hqq]))
        clear Y1 N1 Y2 N2 HIO
        have hT := Has.new (wr.alloc (.cells (evC y) 34)) (evC y) 34
        rw [World.size_alloc] at hT
        have hb6 := hb5.alloc (by have := hb5.size; simp at this ⊢; omega) (.cells (evC y) 34)
        cases q1
        · obtain rfl : q2 = true := by revert hqq; cases q2 <;> simp
          clear hqq
          go_wp2_with (first
            | (at_builtin; refine app_list _ rfl (.tmp 40) (.tmp 42) 22 rfl Try.underlying22 hi hz0 hz1 hz2 rfl (by decide) rfl (hv1.alloc _) rfl (news := evL [y]) ⟨rfl, .inr ⟨_, rfl, fun j u hu => hT.cell_add (by simpa [evL] using hu)⟩⟩ (by intro q hq; simp [evL] at hq; rcases hq with rfl | rfl | rfl <;> rfl) (by unfold maxLen; omega) (by omega) (by have := hb6.size; simp at this ⊢; omega) ?_; intro v6 w6 hAp; have hb7 := hAp.below (hv1.alloc _) hb6 (by have := hb6.size; simp at this ⊢; omega); obtain ⟨hd6, hu6⟩ := hd.app hAp (hu1.alloc _); have hs6 := hb7.size)
            | (at_builtin; refine app_list _ rfl (.tmp 44) (.tmp 46) 52 rfl Try.underlying52 hj jz0 jz1 jz2 rfl (by decide) rfl (hu6.alloc _) rfl (news := [.int .i64 k]) ⟨rfl, .inr ⟨_, rfl, fun j u hu => (Has.new w6 #[.int .i64 k] 3).cell_add (by simpa using hu)⟩⟩ (by intro q hq; simp at hq; subst hq; rfl) (by unfold maxLen; omega) (by omega) (by simp; omega) ?_; intro v9 w9 hAp9))
          have hb8 := hAp9.below (hu6.alloc _) (hb7.alloc hs6 _) (by simp; omega)
          have hv6 : w6.ownsRow w3.heap.size 34 3 v6 (fK (ofV x) z (k + 1)).length (evL (fK (ofV x) z (k + 1))) := by
            have := hAp.own
            rw [HR1.out, evL_append _ [y], List.length_append]
            exact this
          obtain ⟨hd9, hv9⟩ := Dis.app (Dis.symm hd6) hAp9 (hv6.alloc _)
          have hu9 : w9.ownsRow w3.heap.size 3 1 v9 (ofAt x 0 (z.take (k + 1))).length ((ofAt x 0 (z.take (k + 1))).map fun n => Value.int .i64 n) := by
            have := hAp9.own
            rw [HR2.out, List.map_append, List.length_append]
            exact this
          clear hAp hAp9 hT hb6 hb7 x0 x1 x2 hN hv1 hu1 hb5 hv6 hu6
          go_wp2
          go_roundw
          case rel => exact ⟨k + 1, by omega, by go_num, hv9, hu9, hd9.symm, hb8⟩
          case measure => (simp [intOf]; try omega)
        · clear hqq
          go_wp2_with (first
            | (at_builtin; refine app_list _ rfl (.tmp 40) (.tmp 42) 22 rfl Try.underlying22 hi hz0 hz1 hz2 rfl (by decide) rfl (hv1.alloc _) rfl (news := evL [y]) ⟨rfl, .inr ⟨_, rfl, fun j u hu => hT.cell_add (by simpa [evL] using hu)⟩⟩ (by intro q hq; simp [evL] at hq; rcases hq with rfl | rfl | rfl <;> rfl) (by unfold maxLen; omega) (by omega) (by have := hb6.size; simp at this ⊢; omega) ?_; intro v6 w6 hAp; have hb7 := hAp.below (hv1.alloc _) hb6 (by have := hb6.size; simp at this ⊢; omega); obtain ⟨hd6, hu6⟩ := hd.app hAp (hu1.alloc _); have hs6 := hb7.size)
            | (at_builtin; refine app_list _ rfl (.tmp 44) (.tmp 46) 52 rfl Try.underlying52 hj jz0 jz1 jz2 rfl (by decide) rfl (hu6.alloc _) rfl (news := [.int .i64 k]) ⟨rfl, .inr ⟨_, rfl, fun j u hu => (Has.new w6 #[.int .i64 k] 3).cell_add (by simpa using hu)⟩⟩ (by intro q hq; simp at hq; subst hq; rfl) (by unfold maxLen; omega) (by omega) (by simp; omega) ?_; intro v9 w9 hAp9))
          have hb8 := hAp9.below (hu6.alloc _) (hb7.alloc hs6 _) (by simp; omega)
          have hv6 : w6.ownsRow w3.heap.size 34 3 v6 (fK (ofV x) z (k + 1)).length (evL (fK (ofV x) z (k + 1))) := by
            have := hAp.own
            rw [HR1.out, evL_append _ [y], List.length_append]
            exact this
          obtain ⟨hd9, hv9⟩ := Dis.app (Dis.symm hd6) hAp9 (hv6.alloc _)
          have hu9 : w9.ownsRow w3.heap.size 3 1 v9 (ofAt x 0 (z.take (k + 1))).length ((ofAt x 0 (z.take (k + 1))).map fun n => Value.int .i64 n) := by
            have := hAp9.own
            rw [HR2.out, List.map_append, List.length_append]
            exact this
          clear hAp hAp9 hT hb6 hb7 x0 x1 x2 hN hv1 hu1 hb5 hv6 hu6
          go_wp2
          go_roundw
          case rel => exact ⟨k + 1, by omega, by go_num, hv9, hu9, hd9.symm, hb8⟩
          case measure => (simp [intOf]; try omega)
    · obtain rfl : k = z.length := by omega
      rw [List.take_length] at hu
      obtain ⟨hv1, hv2⟩ := HV.out
      have l1 := fK_len (ofV x) z z.length
      have l2 : (ofAt x 0 z).length = (fK (ofV x) z z.length).length := by rw [ofAt_len, fK_all]
      have HL2 := Lib.hid l2
      generalize fK (ofV x) z z.length = M at *
      have hex : ∃ a2 c2, u5 = .slice a2 M.length c2 ∧ EvS wr a2 M := by
        obtain ⟨a, c, h1, h2, _⟩ := evS_own hv (by omega)
        exact ⟨a, c, h1, h2⟩
      obtain ⟨a3, c3, rfl, hMS⟩ := hex
      have hex : ∃ a2 c2, u6 = .slice a2 (ofAt x 0 z).length c2 ∧ IntS wr a2 (ofAt x 0 z) := by
        obtain ⟨a, c, h1, h2, _⟩ := intS_own hu (by omega)
        exact ⟨a, c, h1, h2⟩
      obtain ⟨a4, c4, rfl, hIS⟩ := hex
      have h5 := h.below hb4
      have hb5 := hb.trans (hb4.mono hb.size)
      have HV1 := Lib.hid hv1
      have HV2 := Lib.hid hv2
      clear hv hu hd hb hb4 h hv1 hv2 HV l2
      generalize ofAt x 0 z = I at *
      go_wp2_with fail
      refine (fastRun_ok z a c _ h5 HE.out).mono ?_
      rintro r w4 ⟨v1, rfl, hown1, hk⟩
      have hfl := qFlags_len z z.length
      have hflm := qFlags_len M M.length
      generalize qFlags z z.length = A at *
      have hex : ∃ a2 c2, v1 = .slice a2 A.length c2 ∧ EvS w4 a2 A := by
        obtain ⟨a, c, h1, h2, _⟩ := evS_own hown1 (by omega)
        exact ⟨a, c, h1, h2⟩
      obtain ⟨a5, c5, rfl, hAS⟩ := hex
      replace hb5 := hb5.trans (hk.mono hb5.size)
      replace hMS := hMS.below hk
      replace hIS := hIS.below hk
      clear hk hown1 h5
      go_wp2_with fail
      refine (fastRun_ok M a3 c3 _ hMS HV1.out).mono ?_
      rintro r w5 ⟨v2, rfl, hown2, hk⟩
      have hlt5 := qFlags_lt M M.length
      generalize qFlags M M.length = B at *
      obtain ⟨a6, c6, rfl, hBO, hBg⟩ := RowO.of_own hown2
      have hIlt : ∀ g o, a4 = some ⟨g, o, none⟩ → 0 < I.length → g < w4.heap.size := by
        intro g o e hp
        obtain ⟨b', o', hbo, e0⟩ := hIS.at hp
        rw [e] at hbo
        cases hbo
        exact World.block_lt_of_cell? w4 _ e0
      have hBlt : ∀ g, a6 = some ⟨g, 0, none⟩ → 0 < B.length → g < w5.heap.size := by
        intro g e hp
        rcases hBO with h0 | ⟨g', cur, ha, hh, _⟩
        · rw [h0] at hp; simp at hp
        · rw [e] at ha; cases ha; exact hh.lt
      replace hIS := hIS.below hk
      replace hAS := hAS.below hk
      have hs4 := hk.size
      have hs3 := hb5.size
      replace hb5 := hb5.trans (hk.mono hb5.size)
      have hs5 := hb5.size
      have HLT := Lib.hid hlt5
      clear hk hown2 hMS hlt5
      have hbw := Below.refl w5.heap.size w5
      go_wp2
      go_loopw [13, 61] (fun v i wr => ∃ k : Nat, k ≤ A.length ∧ i = .int .i64 k ∧ wr.ownsRow w5.heap.size 46 3 v (fK (isX x) A k).length (evL (fK (isX x) A k)) ∧ Below w5.heap.size w5 wr) (fun _ i _ => A.length - (intOf i).toNat)
      case atStart => exact ⟨0, Nat.zero_le _, rfl, World.ownsRow_nil _ _ _ _, hbw⟩
      case round =>
        clear hbw
        obtain ⟨k, hk, rfl, hv, hb7⟩ := hrel
        by_cases hltA : k < A.length
        · obtain ⟨b', o', rfl, d0, d1, d2⟩ := (hAS.below hb7).at hltA
          have y1 := fK_yes (p := isX x) hltA
          have n1 := fK_no (p := isX x) hltA
          have l1 := fK_len (isX x) A k
          generalize A[k] = y at *
          have Y1 := Lib.hid y1
          have N1 := Lib.hid n1
          have hN := Has.new wr (evC y) 46
          have hv1 := hv.alloc (.cells (evC y) 46)
          have hb8 := hb7.alloc hb7.size (.cells (evC y) 46)
          have hs7 := hb7.size
          obtain ⟨x0, x1, x2⟩ : (wr.alloc (.cells (evC y) 46)).cell? ⟨wr.heap.size, 0, none⟩ = some (.int .i64 y.k) ∧ (wr.alloc (.cells (evC y) 46)).cell? ⟨wr.heap.size, 1, none⟩ = some (.int .i64 y.t) ∧ (wr.alloc (.cells (evC y) 46)).cell? ⟨wr.heap.size, 2, none⟩ = some (.int .i64 y.o) := ⟨hN.cell rfl, hN.cell rfl, hN.cell rfl⟩
          clear y1 n1 hv hb7
          by_cases hyx : y.t = x
          · have hyb : (y.t == (x : Int)) = true := by simpa using hyx
            have HR1 := Lib.hid (Y1.out (by simp [isX, hyx]))
            clear Y1 N1 hyx
            have hT := Has.new (wr.alloc (.cells (evC y) 46)) (evC y) 46
            rw [World.size_alloc] at hT
            have hb9 := hb8.alloc (by have := hb8.size; simp at this ⊢; omega) (.cells (evC y) 46)
            go_wp2_with (at_builtin; refine app_list _ rfl (.tmp 69) (.tmp 71) 42 rfl Try.underlying42 hf fz0 fz1 fz2 rfl (by decide) rfl (hv1.alloc _) rfl (news := evL [y]) ⟨rfl, .inr ⟨_, rfl, fun j u hu => hT.cell_add (by simpa [evL] using hu)⟩⟩ (by intro q hq; simp [evL] at hq; rcases hq with rfl | rfl | rfl <;> rfl) ?c3 ?c4 ?c5 ?_)
            case c3 => unfold maxLen; omega
            case c4 => omega
            case c5 => have := hb9.size; simp at this ⊢; omega
            intro v6 w6 hAp
            have hb10 := hAp.below (hv1.alloc _) hb9 (by have := hb9.size; simp at this ⊢; omega)
            have hv6 : w6.ownsRow w5.heap.size 46 3 v6 (fK (isX x) A (k + 1)).length (evL (fK (isX x) A (k + 1))) := by
              have := hAp.own
              rw [HR1.out, evL_append _ [y], List.length_append]
              exact this
            clear hAp hT hb9 x0 x1 x2 hN hv1 hb8
            go_wp2
            go_roundw
            case rel => exact ⟨k + 1, by omega, by go_num, hv6, hb10⟩
            case measure => (simp [intOf]; try omega)
          · have hyb : (y.t == (x : Int)) = false := by simpa using hyx
            have HR1 := Lib.hid (N1.out (by simp [isX, hyx]))
            clear Y1 N1 hyx
            go_wp2
            go_roundw
            case rel => exact ⟨k + 1, by omega, by go_num, (by rw [HR1.out]; exact hv1), hb8⟩
            case measure => (simp [intOf]; try omega)
        · obtain rfl : k = A.length := by omega
          have l1 := fK_len (isX x) A A.length
          have hex : ∃ a2 c2, u13 = .slice a2 (fK (isX x) A A.length).length c2 ∧ EvS wr a2 (fK (isX x) A A.length) ∧ ∀ g o, a2 = some ⟨g, o, none⟩ → w5.heap.size ≤ g := by
            obtain ⟨a, c, h1, h2, h3⟩ := evS_own hv (by omega)
            exact ⟨a, c, h1, h2, fun g o e => h3 g (by rw [h1, e]; rfl)⟩
          obtain ⟨a7, c7, rfl, hWS, hWg⟩ := hex
          have hBO7 := hBO.below hb7
          have hIS7 := hIS.below hb7
          have hb8 := hb5.trans (hb7.mono hb5.size)
          have hB0 : moved I B 0 = B := by simp [moved]
          have HB0 := Lib.hid hB0
          have hml : ∀ j, (moved I B j).length = B.length := moved_len I B
          have HML := Lib.hid hml
          have hmg := fun j (hj : j < B.length) => moved_get I B hj
          have HMG := Lib.hid hmg
          have HMS := Lib.hid fun j (hj : j < B.length) q => moved_set I B hj (q := q)
          clear hv hb7 hBO hIS hB0 hml hmg
          go_wp2
          go_loopw [16, 76] (fun _ i wr => ∃ j : Nat, j ≤ B.length ∧ i = .int .i64 j ∧ RowO wr 46 a6 (moved I B j) ∧ IntS wr a4 I ∧ EvS wr a7 (fK (isX x) A A.length) ∧ Below w.heap.size w wr) (fun _ i _ => B.length - (intOf i).toNat)
          case atStart => exact ⟨0, Nat.zero_le _, rfl, by rw [HB0.out]; exact hBO7, hIS7, hWS, hb8⟩
          case round =>
            obtain ⟨j, hj, rfl, hR, hI, hW, hb9⟩ := hrel
            by_cases hjl : j < B.length
            · have hjm : j < (moved I B j).length := by rw [HML.out]; exact hjl
              have hrS := hR.evs (by rw [HML.out]; omega)
              have hR2 := hR
              obtain ⟨g6, cur, rfl, hh, _⟩ : ∃ g cur, a6 = some ⟨g, 0, none⟩ ∧ Has wr g cur 46 ∧ True := by
                rcases hR with h0 | ⟨g, cur, h1, h2, _⟩
                · rw [h0] at hjm; simp at hjm
                · exact ⟨g, cur, h1, h2, trivial⟩
              obtain ⟨b', o', hbo, d0, d1, d2⟩ := hrS.at hjm
              cases hbo
              rw [HMG.out j hjl, Nat.zero_add] at d0
              have hfr := hh.free (j * 3)
              have hlb := HLT.out _ (List.getElem_mem hjl)
              obtain ⟨q, hq⟩ : ∃ q : Nat, (B[j]).k = q := ⟨(B[j]).k.toNat, by omega⟩
              have hqI : q < I.length := by rw [HL2.out]; omega
              obtain ⟨g4, o4, rfl, e0⟩ := hI.at hqI
              have hst := HMS.out j hjl I[q] (by rw [hq]; simp [List.getD, hqI])
              have hnew := hR2.set hjm I[q]
              rw [HMG.out j hjl, hst] at hnew
              have HNEW := Lib.hid hnew
              rw [hq] at d0
              have hIn := Lib.hid (hI.setFar (p := ⟨g6, j * 3, none⟩) (fun g o e => by have := hIlt g o e (by omega); have := hBg g6 rfl; simp only; omega) (.int .i64 I[q]))
              have hWn := Lib.hid (hW.setFar (p := ⟨g6, j * 3, none⟩) (fun g o e => by have := hWg g o e; have := hBlt g6 rfl (by omega); simp only; omega) (.int .i64 I[q]))
              have hbn0 : Below w.heap.size w (wr.setCell ⟨g6, j * 3, none⟩ (.int .i64 I[q])) := hb9.setCell (by have := hBg g6 rfl; simp only; omega) _
              have hbn := Lib.hid hbn0
              have q0 : (0 : Int) ≤ q := by omega
              have q1 : (q : Int) < I.length := by omega
              have k0 : (0 : Int) ≤ j := by omega
              have k1 : (j : Int) < B.length := by omega
              clear hbn0 hst hnew hq hlb hR hR2 hI hW hb9 hrS hjm d1 d2 hh
              generalize I[q] = v at *
              go_wp2
              go_roundw
              case rel => exact ⟨j + 1, by omega, by go_num, HNEW.out, hIn.out, hWn.out, hbn.out⟩
              case measure => (simp [intOf]; try omega)
            · obtain rfl : j = B.length := by omega
              have hRS := hR.evs (by rw [HML.out]; omega)
              have hBW : (fK (isX x) A A.length).length = B.length := by rw [← HV2.out, HML.out]
              rw [HV2.out] at hRS
              have HBW := Lib.hid hBW
              clear hR hBW hI
              generalize fK (isX x) A A.length = W at *
              go_wp2_with fail
              refine (eqFl_two W B.length W.length HBW.out rfl a6 a7 c6 c7 _ hRS hW).mono ?_
              rintro r w8 ⟨rfl, hk⟩
              go_wp2
              go_ret
              exact ⟨rfl, hb9.trans (hk.mono hb9.size)⟩
theorem fastVars_walk (a : Option Addr) (z : List Ev) (c : Nat) (n : Int) (w : World) (h : EvS w a z ∧ z.length ≤ c ∧ z.length * 24 ≤ 140737488351232 ∧ ∀ e ∈ z, I64 e.k ∧ I64 e.t ∧ I64 e.o) (_ : I64 n) :
    Calls Try.prog 9 #[.slice a z.length c, .int .i64 n] w fun e w' => e = .returned (.bool true) ∧ Below w.heap.size w w' := by
  cases hm : mayB z
  · exact fastVars_no a z c n w h.1 hm
  · exact fastVars_ok a z c n w h.1 hm
/-! The frame of the law FastVars, by program. -/
set_option maxRecDepth 100000 in
theorem fastVars_lifted (os : Os) (started : os.Started) (H : Type) (enc : TypeId × Value → H) :
    ReturnsInHanded {} Try.checked os 9 .any (Rows.fastVarsSpec.pre6 enc Try.prog Try.f9 Rows.fastVarsRow.domain false) (Rows.fastVarsSpec.post enc Try.prog Try.f9 false true false false) := by
  refine returnsInHanded_of_change_shaped (C := Try.checked) frame_own started (by kernel_rfl) Try.func9
    (ChangeSpec.witness6 (enc := enc) (C := Try.checked) false ⟨#[], #[.slice none 0 0, .int .i64 0], []⟩ 8 (by kernel_rfl) (by kernel_rfl) (by kernel_rfl) (by kernel_rfl)) ?_
  intro W base args ds gs before hval0 hW hcnd hsz hshaped hroom
  clear hcnd hshaped
  have hval : ∀ (j : Nat) t v, Try.f9.params[j]? = some t → args[j]? = some v → Value.okWide Try.prog W .any base t v := hval0
  have hW' := hW
  obtain ⟨p, q, hA0, hV, rfl, hfz, hnd⟩ := hW
  have hA : DataW.TrodAll enc Try.prog W 0 (fun _ => true) true Try.f9.params.toList args.toList ds p := hA0
  rw [Try.params9] at hA hval
  obtain ⟨v0, vs0, d0, ds0, p0, q0, hargs, rfl, rfl, h0, r0⟩ := trodAll_cons hA
  obtain ⟨v1, vs1, d1, ds1, p1, q1, rfl, rfl, rfl, h1, r1⟩ := trodAll_cons r0
  obtain ⟨rfl, rfl, rfl⟩ := trodAll_nil r1
  obtain rfl : args = #[v0, v1] := by cases args; simp_all
  obtain ⟨rfl, rfl⟩ := trodVars_none hV
  have k0 := h0
  have lt0 : ∀ x ∈ p0, x.block < W.heap.size := by obtain ⟨m, hm⟩ := k0; exact DataW.trod_lt m _ _ _ hm
  obtain ⟨a0, z0, c0, rfl, w0⟩ := open_evs (hval 0 22 v0 rfl rfl) h0 (fun els sp hd => sized_slice hsz (j := 0) rfl (by rw [hd]; rfl) Try.underlying22)
  have k1 := h1
  have lt1 : ∀ x ∈ p1, x.block < W.heap.size := by obtain ⟨m, hm⟩ := k1; exact DataW.trod_lt m _ _ _ hm
  obtain ⟨a1, rfl, rfl, rfl, w1⟩ := open_int Try.underlying3 (hval 1 3 v1 rfl rfl) h1
  clear hA0 hval0
  refine (fastVars_walk a0 z0 c0 a1 W w0 (wf_i64 w1)).mono fun e W' ⟨he, bel⟩ => ?_
  subst he
  exact ⟨_, rfl, _, _, _, [], _, [], hW', trodAll_mk1 (shut_bool Try.underlying4 _), (trodAll_cons_mk (Below.trod frame_laid (by kernel_rfl) (of_decide_eq_true (by kernel_rfl)) k0 bel lt0) (trodAll_cons_mk (Below.trod frame_laid (by kernel_rfl) (of_decide_eq_true (by kernel_rfl)) k1 bel lt1) trodAll_mk0)), rfl, bel.frame _, fun h => by cases h⟩

theorem fastVars_over : Rows.fastVarsRow.holds Try.pinned (OpenSpec.ofChange Rows.fastVarsSpec) :=
  OpenClaim.holds_of_wide 9 Try.f9 rfl rfl rfl rfl rfl rfl rfl ⟨rfl, rfl, rfl, rfl, rfl⟩ rfl rfl rfl rfl rfl (by kernel_rfl) Try.func9 (by kernel_rfl)
    (of_decide_eq_true (by kernel_rfl)) (by unfold Func.isWrapper; first | (rw [if_pos (by decide +kernel)]; kernel_rfl) | (rw [if_neg (by decide +kernel)]; exact ⟨rfl, rfl⟩))
    (fun os started H enc _ => fastVars_lifted os started H enc)

/-- The statement. -/
theorem fastVars_holds : Rows.FastVarsSaid := fastVars_over

end Go.Proofs.Ytgliichceildgaa

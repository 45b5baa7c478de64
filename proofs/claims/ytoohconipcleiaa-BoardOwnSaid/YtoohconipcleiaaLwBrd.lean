/- BoardOwn: results of a board share no memory with it, and rejected events are not contained: for every slice of events and every event. -/
import Derived.Test.YtoohconipcleiaaRows
import Derived.Test.YtoohconipcleiaaBdC
import Derived.Test.YtoohconipcleiaaMI
namespace Go.Proofs.Ytoohconipcleiaa
open Go.ChangeShapes Go.WideShapes Go.ChangeAt Go.RowKit

theorem evOwn {w : World} {base : Nat} {v : Value} {L : List Ev} (h : w.ownsRow base 36 3 v L.length (evL L)) (hne : L ≠ []) : ∃ g c, v = .slice (some ⟨g, 0, none⟩) L.length c ∧ L.length ≤ c ∧ base ≤ g ∧ g < w.heap.size := by
  have hl := h.lt
  rcases h.2 with ⟨_, h0⟩ | ⟨g, cap, cur, rfl, hg, _, hnc, _⟩
  · exact absurd (List.eq_nil_of_length_eq_zero h0) hne
  · exact ⟨g, cap, rfl, hnc, hg, (hl g rfl).2⟩
theorem tellL_ne {L : List Ev} (h : L ≠ []) (x : Ev) : tellL L x ≠ [] := by
  unfold tellL
  split
  · simp
  · exact h
theorem foldTell_ne (l : List Ev) : ∀ {L : List Ev}, L ≠ [] → l.foldl tellL L ≠ [] := by
  induction l with
  | nil => intro L h; exact h
  | cons x l ih => intro L h; exact ih (tellL_ne h x)
/-- A copy of all events, in a row of its own. -/
def TrRow (B : Nat) (L : List Ev) (v : Value) (w : World) : Prop := ∃ base, B ≤ base ∧ w.ownsRow base 36 3 v L.length (evL L)
theorem TrRow.keep {B : Nat} {L : List Ev} {v : Value} {w w' : World} (h : TrRow B L v w) (k : Below w.heap.size w w') : TrRow B L v w' := by
  obtain ⟨m, h1, h2⟩ := h
  exact ⟨m, h1, own_below h2 k⟩
theorem wpList_go {P : Program} {ops : Array Oper} {Q : Exit → Act → World → Prop} {a : Act} {w : World} {rest : List Oper} {o : Oper} (hw : Region.wanted o (yielded ops a.tmps) = true)
    (h : ∀ K : Act → World → Prop, (∀ a w, wpList P ops Q rest a w → K a w) → o.wp P a w K Q) : wpList P ops Q (o :: rest) a w := wpList_step fun K hK => by rw [if_pos hw]; exact h K hK
set_option maxRecDepth 100000 in
set_option maxHeartbeats 8000000 in
theorem boardOwn_walk (a : Option Addr) (l : List Ev) (c : Nat) (x : Ev) (w : World) (hl : EvS w a l ∧ l.length ≤ c ∧ l.length * 24 ≤ 140737488351232 ∧ ∀ e ∈ l, I64 e.k ∧ I64 e.t ∧ I64 e.o) (_ : I64 x.k ∧ I64 x.t ∧ I64 x.o) :
    Calls Try.prog 14 #[.slice a l.length c, evV x] w fun e w' => e = .returned (.bool true) ∧ Below w.heap.size w w' := by
  have h := hl.1
  have hbig := h.big
  clear hl
  go_enter Try.func14, Try.ntmps14
  go_upto_region 1 with fail
  generalize hW : World.alloc _ _ = W
  have hX : Has W w.heap.size (evC x) 36 := by rw [← hW]; exact Has.new w _ _
  have hk : Below w.heap.size w W := by rw [← hW]; exact (Below.refl _ _).alloc (Nat.le_refl _) _
  clear hW
  go_wp2_with fail
  refine (bdNew_any W).mono ?_
  rintro r w1 ⟨rfl, hw1⟩
  have hBd : BdI w1 W.heap.size [] := ⟨rfl, none, 0, by rw [hw1]; exact Has.new W _ _, ⟨by simp, .inl rfl⟩, fun y e => (by cases e), Nat.le_refl _⟩
  have hX1 := by have := hX.alloc (.cells (bdC 0 (.slice none 0 0)) bdT); rw [← hw1] at this; exact this
  have hk1 : Below w.heap.size w w1 := by rw [hw1]; exact hk.alloc hk.size _
  have hbB : w.heap.size < W.heap.size := hX.lt
  clear hw1 hX hk
  generalize W.heap.size = b at *
  have ht0 := tellI_any [] ⟨2, 0, 0⟩ b w1 hBd
  rw [show tellL [] ⟨2, 0, 0⟩ = [⟨2, 0, 0⟩] from if_pos played_one, show tellE [] ⟨2, 0, 0⟩ = .tuple #[.int .i64 0, .int .i64 0] by kernel_rfl] at ht0
  go_wp2_with fail
  refine ht0.mono ?_
  rintro r w2 ⟨rfl, hBd2, hg2⟩
  have hX2 : Has w2 w.heap.size (evC x) 36 := hX1.grown hg2 (by simp; omega)
  have hk2 : Below w.heap.size w w2 := hk1.grown hg2 hk1.size fun k e => by cases e; omega
  clear ht0 hBd hX1 hk1 hg2
  go_wp2
  go_loopw [28] (fun i wr => ∃ k : Nat, k ≤ l.length ∧ i = .int .i64 k ∧ BdI wr b ((l.take k).foldl tellL [⟨2, 0, 0⟩]) ∧ Has wr w.heap.size (evC x) 36 ∧ Below w.heap.size w wr) (fun i _ => l.length - (intOf i).toNat)
  case atStart => exact ⟨0, Nat.zero_le _, rfl, hBd2, hX2, hk2⟩
  case round =>
    clear hBd2 hX2 hk2
    obtain ⟨k, hk, rfl, hBd, hX, hkb⟩ := hrel
    by_cases hlt : k < l.length
    · obtain ⟨be, oe, rfl, d0, d1, d2⟩ := (h.below hkb).at hlt
      have hsn : (l.take (k + 1)).foldl tellL [⟨2, 0, 0⟩] = tellL ((l.take k).foldl tellL [⟨2, 0, 0⟩]) l[k] := by
        rw [List.take_succ_eq_append_getElem hlt, List.foldl_append]; rfl
      generalize (l.take k).foldl tellL [⟨2, 0, 0⟩] = L at *
      have HSN := Lib.hid hsn
      clear hsn
      generalize l[k] = y at *
      have k0 : (0 : Int) ≤ k := by omega
      have k1 : (k : Int) < l.length := by omega
      have hT := Has.new wr (evC y) 36
      have hBd3 := hBd.below ((Below.refl _ _).alloc (Nat.le_refl _) (.cells (evC y) 36))
      have hX3 := hX.alloc (.cells (evC y) 36)
      have hk3 := hkb.alloc hkb.size (.cells (evC y) 36)
      go_upto_region 10 with fail
      clear d0 d1 d2
      obtain ⟨e0, e1, e2⟩ : (wr.alloc (.cells (evC y) 36)).cell? ⟨wr.heap.size, 0, none⟩ = some (.int .i64 y.k) ∧ (wr.alloc (.cells (evC y) 36)).cell? ⟨wr.heap.size, 1, none⟩ = some (.int .i64 y.t) ∧ (wr.alloc (.cells (evC y) 36)).cell? ⟨wr.heap.size, 2, none⟩ = some (.int .i64 y.o) := ⟨hT.cell rfl, hT.cell rfl, hT.cell rfl⟩
      generalize wr.alloc (.cells (evC y) 36) = w3 at *
      clear hT hBd hX hkb
      have ht := tellI_any L y b w3 hBd3
      unfold tellE at ht
      generalize (if (played (L ++ [y])).2.2 = 0 then (L.length : Int) else 0) = e1v at *
      generalize (played (L ++ [y])).2.2 = e2v at *
      go_wp2_with fail
      refine ht.mono ?_
      rintro r w4 ⟨rfl, hBd4, hg4⟩
      have hX4 : Has w4 w.heap.size (evC x) 36 := hX3.grown hg4 (by simp; omega)
      have hk4 : Below w.heap.size w w4 := hk3.grown hg4 hk3.size fun k e => by cases e; omega
      clear ht hBd3 hX3 hk3 hg4 e0 e1 e2
      go_wp2
      go_roundw
      case rel => exact ⟨k + 1, by omega, by go_num, by rw [HSN.out]; exact hBd4, hX4, hk4⟩
      case measure => (simp [intOf]; try omega)
    · obtain rfl : k = l.length := by omega
      rw [List.take_length] at hBd
      have hne := foldTell_ne l (L := [⟨2, 0, 0⟩]) (by simp)
      generalize l.foldl tellL [⟨2, 0, 0⟩] = L at *
      have h80 := hBd.small
      obtain ⟨wo, rfl⟩ : ∃ wo : World, wo = wr := ⟨_, rfl⟩
      clear hlt hk h
      go_wp2_with fail
      refine (traceI_any L b wo hBd).mono ?_
      rintro r w5 ⟨v, rfl, hown, hBd5, hk5⟩
      obtain ⟨g1, c1, rfl, hc1, hg1, hg1'⟩ := evOwn hown hne
      obtain ⟨_, _, he1, hE5, _⟩ := evS_own hown (by omega)
      cases he1
      have hX5 := hX.below hk5 hX.lt
      have hkw5 := hkb.trans (hk5.mono hkb.size)
      obtain ⟨_, _, he2, hR5, _⟩ := RowO.of_own hown
      cases he2
      have hlp : 0 < L.length := List.length_pos_iff.2 hne
      have hBdo := hBd
      have hbo := hBd.lt
      clear hown hBd hX hkb
      go_wp2_with fail
      refine (copyEv_all L _ _ w5 hE5 (by omega)).mono ?_
      rintro r w6 ⟨v6, rfl, hown6, hk6⟩
      obtain ⟨g2, c2, rfl, hc2, hg2, hg2'⟩ := evOwn hown6 hne
      have hBd6 := hBd5.below hk6
      have hX6 := hX5.below hk6 hX5.lt
      have hR6 := hR5.below hk6
      have hkw6 := hkw5.trans (hk6.mono hkw5.size)
      have hk56 := hk5.trans (hk6.mono hk5.size)
      clear hBd5 hX5 hR5 hkw5 hk6 hE5 hk5 hBd6
      go_wp2
      go_loopw [42] (fun i wr => ∃ (k : Nat) (M : List Ev), k ≤ L.length ∧ i = .int .i64 k ∧ M.length = L.length ∧ RowO wr 36 (some ⟨g1, 0, none⟩) M ∧ w6.grownBy wr (some g1)) (fun i _ => L.length - (intOf i).toNat)
      case atStart => exact ⟨0, L, Nat.zero_le _, rfl, rfl, hR6, World.grownBy.refl _ _⟩
      case round =>
        clear hR6
        obtain ⟨k, M, hk, rfl, hM, hR, hg⟩ := hrel
        by_cases hlt : k < L.length
        · have k0 : (0 : Int) ≤ k := by omega
          have k1 : (k : Int) < L.length := by omega
          have hMne : M ≠ [] := fun e => by rw [e] at hM; simp at hM; omega
          have hEM := hR.evs (by omega)
          obtain ⟨bb, oo, hbo, d0, d1, d2⟩ := hEM.at (i := k) (by omega)
          cases hbo
          have z0 := hR.free hMne (k * 3)
          have z1 := hR.free hMne (k * 3 + 1)
          have z2 := hR.free hMne (k * 3 + 2)
          have hR2 := hR.setEv (i := k) (by omega) ⟨77, 0, 0⟩
          have hgg := ((hg.trans (grown_cell (World.grownBy.refl wr (some g1)) (k * 3) (.int .i64 77))).trans (grown_cell (World.grownBy.refl _ (some g1)) (k * 3 + 1) (.int .i64 0))).trans (grown_cell (World.grownBy.refl _ (some g1)) (k * 3 + 2) (.int .i64 0))
          rw [Nat.zero_add] at d0 d1 d2
          clear hEM hR hg
          go_wp2
          go_roundw
          case rel => exact ⟨k + 1, _, by omega, by go_num, by rw [List.length_set]; exact hM, hR2, hgg⟩
          case measure => (simp [intOf]; try omega)
        · have hkB : Below wo.heap.size wo wr := hk56.grown hg hk56.size fun k e => by cases e; exact hg1
          have hBd9 := hBdo.below hkB
          have hX9 : Has wr w.heap.size (evC x) 36 := hX6.grown hg (by simp; omega)
          have hown9 := hown6.kept hg (.inr (by simp [Value.ownBlock]; omega))
          have hkw9 : Below w.heap.size w wr := hkw6.grown hg hkw6.size fun k e => by cases e; have := hkw6.size; omega
          have hbw5 : b < w5.heap.size := by have := hBdo.lt; omega
          clear hR hg hkB hBdo hX6 hown6 hkw6 hk56 hM
          have hbL := hbig
          go_wp2_with fail
          refine (traceI_any L b wr hBd9).mono ?_
          rintro r w10 ⟨v, rfl, hown10, hBd10, hk10⟩
          obtain ⟨a10, c10, rfl, hE10, _⟩ := evS_own hown10 (by omega)
          have hown11 := own_below hown9 hk10
          obtain ⟨_, _, he2, hE11, _⟩ := evS_own hown11 (by omega)
          cases he2
          have hX10 := hX9.below hk10 hX9.lt
          have hkw10 := hkw9.trans (hk10.mono hkw9.size)
          have hq := eqEv_any L L a10 (some ⟨g2, 0, none⟩) c10 c2 w10 hE10 hE11
          rw [show eqB L L = true from eqB_iff.2 rfl] at hq
          clear hown10 hown9 hBd9 hX9 hkw9 hk10 hE10
          go_wp2_with fail
          refine hq.mono ?_
          rintro r w12 ⟨rfl, hk12⟩
          have hX12 := hX10.below hk12 hX10.lt
          have hBd12 := hBd10.below hk12
          have hown12 := own_below hown11 hk12
          have hkw12 := hkw10.trans (hk12.mono hkw10.size)
          clear hq hown11 hBd10 hX10 hkw10 hk12 hE11
          obtain ⟨e0, e1, e2⟩ : w12.cell? ⟨w.heap.size, 0, none⟩ = some (.int .i64 x.k) ∧ w12.cell? ⟨w.heap.size, 1, none⟩ = some (.int .i64 x.t) ∧ w12.cell? ⟨w.heap.size, 2, none⟩ = some (.int .i64 x.o) := ⟨hX12.cell rfl, hX12.cell rfl, hX12.cell rfl⟩
          have ht := tellI_any L x b w12 hBd12
          unfold tellE at ht
          by_cases he : (played (L ++ [x])).2.2 = 0
          · have htl : tellL L x = L ++ [x] := by unfold tellL; rw [if_pos he]
            rw [if_pos he, he, htl] at ht
            have h81 : (L ++ [x]).length = L.length + 1 := by simp
            clear he htl
            go_wp2_with fail
            refine ht.mono ?_
            rintro r w13 ⟨rfl, hBd13, hg13⟩
            have hX13 : Has w13 w.heap.size (evC x) 36 := hX12.grown hg13 (by simp; omega)
            have hown13 := hown12.kept hg13 (.inr (by simp [Value.ownBlock]; omega))
            have hkw13 : Below w.heap.size w w13 := hkw12.grown hg13 hkw12.size fun k e => by cases e; omega
            clear ht hBd12 hX12 hown12 hkw12 hg13 e0 e1 e2
            have q1 : ((L.length : Int) == (L.length : Int)) = true := beq_self_eq_true _
            go_upto_region 24 with fail
            obtain ⟨i0, hi, hz0, hz1, hz2⟩ := info_parts infoE
            refine wp_region_fac 10 (fun _ => false) [.one ?bo0, .one ?bo1, .one ?bo2, .one ?bo3, .one ?bo4, .one ?bo5, .rel (TrRow w13.heap.size (L ++ [x])), .one ?bo7, .one ?bo8, .rel (BdLit w13.heap.size x)] (by kernel_rfl) (by kernel_rfl) (by kernel_rfl) ?stbo ?gobo
            case stbo =>
              intro F hF v w4 w5 h4 h5
              simp at hF
              rcases hF with rfl | rfl
              · exact h4.keep h5
              · exact h4.keep h5
            case gobo =>
            simp only [List.take_succ_cons, List.take_zero, List.drop_succ_cons, List.drop_zero]
            repeat (with_reducible refine wpFac_one rfl (fun w1 hw1 hd => ?_) (fun a1 ha1 => ?_); (· go_simp; first | exact rfl | (refine ⟨atD_some ?_, Below.refl _ _⟩; simp only [List.getElem?_toArray, List.getElem?_cons_succ, List.getElem?_cons_zero]; exact rfl)); simp [Act.put] at ha1; subst ha1)
            with_reducible refine wpFac_rel rfl (fun w1 hw1 hd => ?_) (fun v6 a1 ha1 => ?_)
            · go_simp
              refine (traceI_any (L ++ [x]) b w1 (hBd13.below hw1)).mono ?_
              rintro r w2 ⟨v, rfl, hO, _, hb⟩
              refine ⟨v, atD_some ?_, ⟨_, hw1.size, hO⟩, hb⟩
              simp
            simp [Act.put] at ha1; subst ha1
            repeat (with_reducible refine wpFac_one rfl (fun w1 hw1 hd => ?_) (fun a1 ha1 => ?_); (· go_simp; first | exact rfl | (refine ⟨atD_some ?_, Below.refl _ _⟩; simp only [List.getElem?_toArray, List.getElem?_cons_succ, List.getElem?_cons_zero]; exact rfl)); simp [Act.put] at ha1; subst ha1)
            with_reducible refine wpFac_one rfl (fun w1 hw1 hd => ?_) (fun a1 ha1 => ?_)
            · refine asked rfl ?_
              refine wp_load_row 36 _ rfl w.heap.size rfl 36 (evC x) (0, 0) _ (hX13.below hw1 hX13.lt).out Try.underlying36 rfl rfl ?_
              refine ⟨rfl, atD_some ?_, Below.refl _ _⟩
              simp [Act.put]
              exact rfl
            simp [Act.put] at ha1; subst ha1
            with_reducible refine wpFac_rel rfl (fun w1 hw1 hd => ?_) (fun v9 a1 ha1 => ?_)
            · go_simp
              exact ⟨_, atD_some (by simp), ⟨w1.heap.size, rfl, hw1.size, Has.new w1 _ _⟩, (Below.refl _ _).alloc (Nat.le_refl _) _⟩
            simp [Act.put] at ha1; subst ha1
            refine wpFac_nil ?_
            intro w14 hw14 hG
            obtain ⟨base, hbase, hO14⟩ : TrRow w13.heap.size (L ++ [x]) v6 w14 := hG 6 (by decide) (by kernel_rfl)
            obtain ⟨g, rfl, _, hGx⟩ : BdLit w13.heap.size x v9 w14 := hG 9 (by decide) (by kernel_rfl)
            obtain ⟨g14, c14, rfl, _, hg14, _⟩ := evOwn hO14 (by simp)
            obtain ⟨_, _, he4, hE14, _⟩ := evS_own hO14 (by omega)
            cases he4
            have hg213 := hown13.lt g2 rfl
            have hown14 := own_below hown13 hw14
            have hkw14 := hkw13.trans (hw14.mono hkw13.size)
            have hsrc : Src w14 3 (some ⟨g, 0, none⟩) 1 (evL [x]) := ⟨rfl, .inr ⟨_, rfl, fun j u hu => hGx.cell_add (by simpa [evL] using hu)⟩⟩
            have hs13 := hw14.size
            rw [h81]
            have hEvA : evL (L ++ [x]) = evL L ++ evL [x] := evL_append _ _
            clear hG hX13 hBd13 hown13 hO14 hkw13
            refine wpList_go rfl (fun K hK => ?_)
            refine app_wp _ (.tmp 78) (.tmp 80) 30 rfl Try.underlying30 hi hz0 hz1 hz2 rfl (by decide) rfl hown14 rfl hsrc (evL_one _) ?c3 ?c4 ?c5 ?_
            case c3 => unfold maxLen; omega
            case c4 => omega
            case c5 => omega
            intro v15 w15 hA
            refine hK _ _ ?_
            clear hK K
            have hO15 : w15.ownsRow w5.heap.size 36 3 v15 (L ++ [x]).length (evL (L ++ [x])) := by rw [hEvA, h81]; exact hA.own
            have hk15 : Below w.heap.size w w15 := hkw14.grown hA.grown hkw14.size fun k e => by have e2 : g2 = k := Option.some.inj e; omega
            have hE15 : EvS w15 (some ⟨g14, 0, none⟩) (L ++ [x]) := by
              refine ⟨hE14.big, ?_⟩
              rcases hE14.ok with h0 | ⟨gg, oo, ha, hc⟩
              · exact .inl h0
              · refine .inr ⟨gg, oo, ha, fun i hi => ?_⟩
                cases ha
                obtain ⟨d0, d1, d2⟩ := hc i hi
                have hb := hA.grown.block g14 (World.block_lt_of_cell? w14 _ d0) (fun e => by have e2 : g14 = g2 := Option.some.inj e; omega)
                exact ⟨(World.cell?_of_block hb).trans d0, (World.cell?_of_block hb).trans d1, (World.cell?_of_block hb).trans d2⟩
            obtain ⟨a15, c15, rfl, hE16, _⟩ := evS_own hO15 (by omega)
            have hq := eqEv_any (L ++ [x]) (L ++ [x]) (some ⟨g14, 0, none⟩) a15 c14 c15 w15 hE15 hE16
            rw [show eqB (L ++ [x]) (L ++ [x]) = true from eqB_iff.2 rfl] at hq
            clear hA hO15 hE15 hE16 hsrc hGx hown14 hE14 hEvA hkw14
            refine wpList_go rfl (fun K hK => ?_)
            go_simp
            rw [h81] at hq
            refine hq.mono ?_
            rintro r w16 ⟨rfl, hk16⟩
            refine hK _ _ ?_
            clear hK K
            have hk17 := hk15.trans (hk16.mono hk15.size)
            clear hq
            go_wp2
            go_ret
            exact ⟨rfl, hk17⟩
          · have htl : tellL L x = L := by unfold tellL; rw [if_neg he]
            rw [if_neg he, htl] at ht
            have q1 : ((played (L ++ [x])).2.2 != 0) = true := bne_iff_ne.2 he
            generalize (played (L ++ [x])).2.2 = E at *
            clear he htl
            go_wp2_with fail
            refine ht.mono ?_
            rintro r w13 ⟨rfl, hBd13, hg13⟩
            have hown13 := hown12.kept hg13 (.inr (by simp [Value.ownBlock]; omega))
            have hkw13 : Below w.heap.size w w13 := hkw12.grown hg13 hkw12.size fun k e => by cases e; omega
            have ht13 := traceI_any L b w13 hBd13
            clear ht hBd12 hX12 hown12 hkw12 hg13 e0 e1 e2
            go_wp2_with fail
            refine ht13.mono ?_
            rintro r w14 ⟨v, rfl, hown14, hBd14, hk14⟩
            obtain ⟨a14, c14, rfl, hE14, _⟩ := evS_own hown14 (by omega)
            have hown15 := own_below hown13 hk14
            obtain ⟨_, _, he2, hE15, _⟩ := evS_own hown15 (by omega)
            cases he2
            have hkw14 := hkw13.trans (hk14.mono hkw13.size)
            have hq := eqEv_any L L a14 (some ⟨g2, 0, none⟩) c14 c2 w14 hE14 hE15
            rw [show eqB L L = true from eqB_iff.2 rfl] at hq
            clear ht13 hown14 hown15 hown13 hBd13 hBd14 hk14 hE14 hE15 hkw13
            go_wp2_with fail
            refine hq.mono ?_
            rintro r w15 ⟨rfl, hk15⟩
            have hkw15 := hkw14.trans (hk15.mono hkw14.size)
            clear hq
            go_wp2
            go_ret
            exact ⟨rfl, hkw15⟩
/-! The frame of the law BoardOwn, by program. -/
set_option maxRecDepth 100000 in
theorem boardOwn_lifted (os : Os) (started : os.Started) (H : Type) (enc : TypeId × Value → H) :
    ReturnsInHanded {} Try.checked os 14 .any (Rows.boardOwnSpec.pre6 enc Try.prog Try.f14 Rows.boardOwnRow.domain false) (Rows.boardOwnSpec.post enc Try.prog Try.f14 false true false false) := by
  refine returnsInHanded_of_change_shaped (C := Try.checked) frame_own started (by kernel_rfl) Try.func14
    (ChangeSpec.witness6 (enc := enc) (C := Try.checked) false ⟨#[], #[.slice none 0 0, .agg #[.int .i64 0, .int .i64 0, .int .i64 0]], []⟩ 8 (by kernel_rfl) (by kernel_rfl) (by kernel_rfl) (by kernel_rfl)) ?_
  intro W base args ds gs before hval0 hW hcnd hsz hshaped hroom
  clear hcnd hshaped
  have hval : ∀ (j : Nat) t v, Try.f14.params[j]? = some t → args[j]? = some v → Value.okWide Try.prog W .any base t v := hval0
  have hW' := hW
  obtain ⟨p, q, hA0, hV, rfl, hfz, hnd⟩ := hW
  have hA : DataW.TrodAll enc Try.prog W 0 (fun _ => true) true Try.f14.params.toList args.toList ds p := hA0
  rw [Try.params14] at hA hval
  obtain ⟨v0, vs0, d0, ds0, p0, q0, hargs, rfl, rfl, h0, r0⟩ := trodAll_cons hA
  obtain ⟨v1, vs1, d1, ds1, p1, q1, rfl, rfl, rfl, h1, r1⟩ := trodAll_cons r0
  obtain ⟨rfl, rfl, rfl⟩ := trodAll_nil r1
  obtain rfl : args = #[v0, v1] := by cases args; simp_all
  obtain ⟨rfl, rfl⟩ := trodVars_none hV
  have k0 := h0
  have lt0 : ∀ x ∈ p0, x.block < W.heap.size := by obtain ⟨m, hm⟩ := k0; exact DataW.trod_lt m _ _ _ hm
  obtain ⟨a0, z0, c0, rfl, w0⟩ := open_evs (hval 0 30 v0 rfl rfl) h0 (fun els sp hd => sized_slice hsz (j := 0) rfl (by rw [hd]; rfl) Try.underlying30)
  have k1 := h1
  have lt1 : ∀ x ∈ p1, x.block < W.heap.size := by obtain ⟨m, hm⟩ := k1; exact DataW.trod_lt m _ _ _ hm
  obtain ⟨a1, rfl, w1⟩ := open_ev (hval 1 36 v1 rfl rfl) h1
  clear hA0 hval0
  refine (boardOwn_walk a0 z0 c0 a1 W w0 w1).mono fun e W' ⟨he, bel⟩ => ?_
  subst he
  exact ⟨_, rfl, _, _, _, [], _, [], hW', trodAll_mk1 (shut_bool Try.underlying4 _), (trodAll_cons_mk (Below.trod frame_laid (by kernel_rfl) (of_decide_eq_true (by kernel_rfl)) k0 bel lt0) (trodAll_cons_mk (Below.trod frame_laid (by kernel_rfl) (of_decide_eq_true (by kernel_rfl)) k1 bel lt1) trodAll_mk0)), rfl, bel.frame _, fun h => by cases h⟩

theorem boardOwn_over : Rows.boardOwnRow.holds Try.pinned (OpenSpec.ofChange Rows.boardOwnSpec) :=
  OpenClaim.holds_of_wide 14 Try.f14 rfl rfl rfl rfl rfl rfl rfl ⟨rfl, rfl, rfl, rfl, rfl⟩ rfl rfl rfl rfl rfl (by kernel_rfl) Try.func14 (by kernel_rfl)
    (of_decide_eq_true (by kernel_rfl)) (by unfold Func.isWrapper; first | (rw [if_pos (by decide +kernel)]; kernel_rfl) | (rw [if_neg (by decide +kernel)]; exact ⟨rfl, rfl⟩))
    (fun os started H enc _ => boardOwn_lifted os started H enc)

/-- The statement. -/
theorem boardOwn_holds : Rows.BoardOwnSaid := boardOwn_over

end Go.Proofs.Ytoohconipcleiaa

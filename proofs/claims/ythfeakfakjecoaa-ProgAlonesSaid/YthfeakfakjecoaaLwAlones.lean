/- ProgAlones: the lock pairs of an execution are pairs of its threads alone: for every program and every slice of picks. -/
import Derived.Test.YthfeakfakjecoaaPrs
import Derived.IntWalk
import Derived.Deep.DeepCutAuto
import Derived.Test.YthfeakfakjecoaaRows
import Derived.Test.YthfeakfakjecoaaPgI
import Derived.Test.YthfeakfakjecoaaAlo
import Derived.Test.YthfeakfakjecoaaOpenE
import Derived.Test.YthfeakfakjecoaaOpenI
namespace Go.Proofs.Ythfeakfakjecoaa
section
open Go.RowKit

theorem equalIn_pr (x y : Int × Int) (w : World) : (Op.equalIn 10000 52 (prV x) (prV y)).run Try.prog w = .ok (decide (x = y)) w := by
  obtain ⟨k, t⟩ := x
  obtain ⟨k', t'⟩ := y
  rw [run_equalIn_agg (P := Try.prog) w 9999 _ _ _ (by kernel_rfl) (by kernel_rfl)]
  simp [go_sem]
  by_cases h1 : k = k' <;> by_cases h2 : t = t' <;> simp [h1, h2]
theorem neq_pr (x y : Int × Int) (w : World) : (binOp .neq 52 (prV x) (prV y)).run Try.prog w = .ok (.bool (!decide (x = y))) w := by
  rw [run_neq_struct, equalIn_pr]; rfl
theorem eql_pr (x y : Int × Int) (w : World) : (binOp .eql 52 (prV x) (prV y)).run Try.prog w = .ok (.bool (decide (x = y))) w := by
  rw [run_eql_struct, equalIn_pr]; rfl
end

section
open Go.RowKit

set_option maxHeartbeats 1000000 in
theorem hasPr_any (l : List (Int × Int)) (x : Int × Int) (a : Option Addr) (c : Nat) (w : World) (h : PrS w a l) :
    Calls Try.prog 21 #[.slice a l.length c, prV x] w fun e w' => e = .returned (.bool (hasB l x)) ∧ Below w.heap.size w w' := by
  have hbig := h.big
  have HNE := Lib.hid eql_pr
  have hX := Has.new w (prC x) 52
  have hb0 := (Below.refl w.heap.size w).alloc (Nat.le_refl _) (.cells (prC x) 52)
  go_enter Try.func21, Try.ntmps21
  go_wp2
  go_loopw [9] (fun i wr => ∃ k : Nat, k ≤ l.length ∧ i = .int .i64 k ∧ Hid (hasB l x = hasB (l.drop k) x) ∧ Has wr w.heap.size (prC x) 52 ∧ Below w.heap.size w wr) (fun i _ => l.length - (intOf i).toNat)
  case atStart => exact ⟨0, Nat.zero_le _, rfl, Lib.hid rfl, hX, hb0⟩
  case round =>
    clear hX hb0
    obtain ⟨k, hk, rfl, HC, hX, hb⟩ := hrel
    by_cases hlt : k < l.length
    · obtain ⟨b, o, rfl, d0, d1⟩ := (h.below hb).at hlt
      have hd : l.drop k = l[k] :: l.drop (k + 1) := List.drop_eq_getElem_cons hlt
      generalize l[k] = y at *
      have hY := Has.new wr (prC y) 52
      have hb2 := hb.alloc hb.size (.cells (prC y) 52)
      have hX2 := hX.alloc (.cells (prC y) 52)
      have hXl := hX.lt
      go_upto_region 4 with fail
      clear d0 d1
      generalize wr.alloc (.cells (prC y) 52) = w4 at *
      obtain ⟨x0, x1⟩ : w4.cell? ⟨w.heap.size, 0, none⟩ = some (.int .i64 x.1) ∧ w4.cell? ⟨w.heap.size, 1, none⟩ = some (.int .i64 x.2) := ⟨hX2.cell rfl, hX2.cell rfl⟩
      obtain ⟨y0, y1⟩ : w4.cell? ⟨wr.heap.size, 0, none⟩ = some (.int .i64 y.1) ∧ w4.cell? ⟨wr.heap.size, 1, none⟩ = some (.int .i64 y.2) := ⟨hY.cell rfl, hY.cell rfl⟩
      by_cases hy : x = y
      · have hr : hasB l x = true := by rw [HC.out, hd]; simp [hasB, hy]
        have HR := Lib.hid hr
        have hq : ∀ W, (binOp .eql 52 (prV x) (prV y)).run Try.prog W = .ok (.bool true) W := fun W => by rw [HNE.out]; simp [hy]
        clear hr hd HC hy
        go_wp2
        go_ret
        rw [HR.out]
        exact ⟨rfl, hb2⟩
      · have hr : hasB l x = hasB (l.drop (k + 1)) x := by rw [HC.out, hd]; simp [hasB, hy]
        have HR := Lib.hid hr
        have hq : ∀ W, (binOp .eql 52 (prV x) (prV y)).run Try.prog W = .ok (.bool false) W := fun W => by rw [HNE.out]; simp [hy]
        clear hr hd HC hy
        go_wp2
        go_roundw
        case rel => exact ⟨k + 1, by omega, by go_num, HR, hX2, hb2⟩
        case measure => (simp [intOf]; try omega)
    · have hr : hasB l x = false := by rw [HC.out, List.drop_eq_nil_of_le (by omega)]; simp [hasB]
      have HR := Lib.hid hr
      clear hr HC
      go_wp2
      go_ret
      rw [HR.out]
      exact ⟨rfl, hb⟩
end
open Go.ChangeShapes Go.WideShapes Go.ChangeAt Go.RowKit

/-- The pairs of the first k threads. -/
def alAll (p : List (List Ev)) (k : Nat) : List (Int × Int) := (List.range k).flatMap fun t => alOut (opsP p t)
theorem alAll_succ (p : List (List Ev)) (k : Nat) : alAll p (k + 1) = alAll p k ++ alOut (opsP p k) := by simp [alAll, List.range_succ]
theorem alAll_len (p : List (List Ev)) : ∀ k, (alAll p k).length ≤ k * 25
  | 0 => by simp [alAll]
  | k + 1 => by
    rw [alAll_succ, List.length_append]
    have := alAll_len p k
    have := alOut_len (opsP p k)
    omega
theorem PrS.src' {w : World} {a : Option Addr} {l : List (Int × Int)} (h : PrS w a l) : Src w 2 a l.length (prL l) := by
  refine ⟨prL_length l, ?_⟩
  rcases h.ok with rfl | ⟨b, o, ha, hc⟩
  · exact .inl ⟨rfl, rfl⟩
  · right
    refine ⟨_, ha, fun j u hu => ?_⟩
    have hj : j < l.length * 2 := by have := (List.getElem?_eq_some_iff.1 hu).1; rw [prL_length] at this; exact this
    have hadd : (⟨b, o, none⟩ : Addr).add j = ⟨b, o + j, none⟩ := by unfold Addr.add; split <;> simp_all
    have hi : j / 2 < l.length := by omega
    obtain ⟨c0, c1⟩ := hc (j / 2) hi
    obtain ⟨g0, g1⟩ := prL_get l (j / 2) hi
    rw [hadd]
    rcases Nat.mod_two_eq_zero_or_one j with e | e
    · rw [show j / 2 * 2 = j by omega] at c0 g0
      rw [c0, ← hu, g0]
    · rw [show o + j / 2 * 2 + 1 = o + j by omega] at c1
      rw [show j / 2 * 2 + 1 = j by omega] at g1
      rw [c1, ← hu, g1]
theorem graph_n (l : List Ev) (n : Nat) (hn : l.length = n) (a : Option Addr) (c : Nat) (w : World) (h : EvS w a l) (he : (played l).2.2 = 0) :
    Calls Try.prog 19 #[.slice a n c] w (GraphPost (grOut l) w) := by
  subst hn; exact graph_ok l a c w h he
theorem hasPr_n' (p : List (Int × Int)) (n : Nat) (hn : p.length = n) (x y : Int) (a : Option Addr) (c : Nat) (w : World) (h : PrS w a p) :
    Calls Try.prog 21 #[.slice a n c, .agg #[.int .i64 x, .int .i64 y]] w fun e w' => e = .returned (.bool (hasB p (x, y))) ∧ Below w.heap.size w w' := by
  subst hn; exact hasPr_any p (x, y) a c w h

set_option maxRecDepth 100000 in
set_option maxHeartbeats 8000000 in
theorem progAlones_walk (a : Option Addr) (p : List (List Ev)) (c : Nat) (ap : Option Addr) (l : List Int) (cp : Nat) (w : World) (hp : PgS w a p ∧ (p.length ≤ c ∧ p.length * 24 ≤ 140737488351232) ∧ ∀ z ∈ p, ∀ e ∈ z, I64 e.k ∧ I64 e.t ∧ I64 e.o) (hl : IntS w ap l ∧ l.length ≤ cp ∧ l.length * 8 ≤ 140737488351232 ∧ ∀ n ∈ l, I64 n) :
    Calls Try.prog 7 #[.slice a p.length c, .slice ap l.length cp] w fun e w' => e = .returned (.bool true) ∧ Below w.heap.size w w' := by
  have h := hp.1
  have hq := hl.1
  clear hp hl
  obtain ⟨i0, hi, hz0, hz1, hz2⟩ := info_parts infoPr
  go_enter Try.func7, Try.ntmps7
  go_wp2_with fail
  refine (ran_any _).mono ?_
  rintro r w1 ⟨rfl, hb1⟩
  go_wp2_with fail
  refine (run_any p l a ap c cp _ (h.below hb1) (hq.below hb1)).mono ?_
  rintro r w2 ⟨a2, c2, ⟨hc2, _⟩, rfl, hL, hk⟩
  have hb2 := hb1.trans (hk.mono hb1.size)
  have HS := Lib.hid (endR_size p l)
  have H1 := Lib.hid (endR_one p l)
  have hs2 := hb2.size
  have hpl : (played (evR p l)).2.2 = 0 ∧ (errR p l.length = 0 → chkP p = 0 ∧ ∀ x, x ∈ grOut (evR p l) → ∃ t, t < p.length ∧ x ∈ alOut (opsP p t)) := by
    by_cases he : errR p l.length = 0
    · have hX : chkP p = 0 := by
        unfold errR at he
        by_cases c : chkP p = 0
        · exact c
        · rw [if_neg c] at he; exact absurd he c
      have hO := chkP_ok hX
      have hV : evR p l = (runP p l).2 := by unfold evR; rw [if_pos he]
      rw [hV]
      exact ⟨by have := runP_may hO l; rwa [mayB, beq_iff_eq] at this, fun _ => ⟨hX, fun x hx => run_alones hO l hx⟩⟩
    · have hV : evR p l = [] := by unfold evR; rw [if_neg he]
      rw [hV]
      exact ⟨rfl, fun e => absurd e he⟩
  have HPL := Lib.hid hpl
  clear hk hb1 hpl
  generalize endR p l = Y at *
  generalize evR p l = L at *
  go_wp2_with (refine wpList_store_row rfl endT _ _ rfl w2.heap.size Y rfl rfl endT _ ((Has.new w2 (endC PS.zero false false) endT)).out (by rw [HS.out]; rfl) (by rw [HS.out, endC_size]) H1.out ?_
               generalize hWx : World.setRow _ _ _ = W3
               have hk3 : Below w2.heap.size w2 W3 := by rw [← hWx]; exact below_setRow ((Below.refl _ _).alloc (Nat.le_refl _) _) (Nat.le_refl _)
               have hb3 := hb2.trans (hk3.mono hb2.size)
               clear hWx)
  have hL3 := hL.below (hk3.mono (Nat.le_refl _))
  refine (graph_n L _ rfl a2 c2 _ hL3 HPL.out.1).mono ?_
  rintro r w4 ⟨a4, c4, rfl, hG, _, hk4⟩
  have hb4 := hb3.trans (hk4.mono hb3.size)
  clear hb2 hk3 hL hb3 hk4 hL3 hs2 hc2
  by_cases he : errR p l.length = 0
  · obtain ⟨hX, hall⟩ := HPL.out.2 he
    have HX := Lib.hid hX
    have HALL := Lib.hid hall
    have h6 := (chkP_ok hX).six
    rw [he]
    clear HPL he hX hall
    generalize grOut L = G at *
    have hGb := hG.big
    have hP4 := h.below hb4
    have hbB := Below.refl w4.heap.size w4
    go_wp2
    go_loopw [10, 40] (fun v i wr => ∃ k : Nat, k ≤ p.length ∧ i = .int .i64 k ∧ wr.ownsRow w4.heap.size 52 2 v (alAll p k).length (prL (alAll p k)) ∧ Below w4.heap.size w4 wr) (fun _ i _ => p.length - (intOf i).toNat)
    case atStart => exact ⟨0, Nat.zero_le _, rfl, World.ownsRow_nil _ _ _ _, hbB⟩
    case round =>
      clear hbB
      obtain ⟨k, hk, rfl, hown, hbB⟩ := hrel
      by_cases hlt : k < p.length
      · have HA := Lib.hid (alAll_succ p k)
        have hal := alAll_len p k
        have hol := alOut_len (opsP p k)
        have hck := alone_ok p k a c wr (hP4.below hbB) HX.out hlt
        have k0 : (0 : Int) ≤ k := by omega
        have k1 : (k : Int) < p.length := by omega
        generalize alAll p k = A at *
        generalize alOut (opsP p k) = B at *
        go_wp2_with fail
        refine hck.mono ?_
        rintro r w5 ⟨a5, c5, rfl, hB, _, hk5⟩
        have hO5 := own_below hown hk5
        have hb5 := hbB.trans (hk5.mono hbB.size)
        have hs5 := hb5.size
        clear hck hown hbB hk5
        go_wp2_with (at_builtin; refine app_list _ rfl (.tmp 51) (.tmp 52) 47 rfl Try.underlying47 hi hz0 hz1 hz2 rfl (by decide) rfl hO5 rfl hB.src' (prL_one _) (by unfold maxLen; omega) (by omega) hs5 ?_)
        intro v' w7 hAp
        have hb6 := hAp.below hO5 hb5 hs5
        have ho6 := hAp.own
        rw [← prL_append, ← List.length_append, ← HA.out] at ho6
        clear hAp hO5 hb5 hs5 hB
        go_wp2
        go_roundw
        case rel => exact ⟨k + 1, by omega, by go_num, ho6, hb6⟩
        case measure => (simp [intOf]; try omega)
      · obtain rfl : k = p.length := by omega
        have hal := alAll_len p p.length
        obtain ⟨a5, c5, hv5, hA5, _, _⟩ := prS_ownc hown (by omega)
        subst hv5
        have hin : ∀ x, x ∈ G → hasB (alAll p p.length) x = true := fun x hx => by
          obtain ⟨t, ht, hxt⟩ := HALL.out x hx
          exact hasB_iff.2 (List.mem_flatMap.2 ⟨t, List.mem_range.2 ht, hxt⟩)
        have HIN := Lib.hid hin
        have hG5 := hG.below hbB
        have hb5 := hb4.trans (hbB.mono hb4.size)
        clear hin hown hbB hG
        generalize alAll p p.length = A at *
        generalize wr = w6 at *
        have hb6 := Below.refl w6.heap.size w6
        go_wp2
        go_loopw [57] (fun i wr => ∃ k : Nat, k ≤ G.length ∧ i = .int .i64 k ∧ Below w6.heap.size w6 wr) (fun i _ => G.length - (intOf i).toNat)
        case atStart => exact ⟨0, Nat.zero_le _, rfl, hb6⟩
        case round =>
          clear hb6
          obtain ⟨k, hk, rfl, hbB⟩ := hrel
          by_cases hlt : k < G.length
          · obtain ⟨b, o, rfl, d0, d1⟩ := (hG5.below hbB).at hlt
            have hy := HIN.out _ (List.getElem_mem hlt)
            generalize G[k] = x at *
            obtain ⟨x, y⟩ := x
            have HY := Lib.hid hy
            have k0 : (0 : Int) ≤ k := by omega
            have k1 : (k : Int) < G.length := by omega
            have hb7 := hbB.alloc hbB.size (.cells (prC (x, y)) 52)
            have hA7 := (hA5.below hbB).below ((Below.refl _ _).alloc (Nat.le_refl _) (.cells (prC (x, y)) 52))
            clear hy hbB
            simp only at d0 d1
            go_wp2_with fail
            refine (hasPr_n' A _ rfl x y a5 c5 _ hA7).mono ?_
            rintro r w8 ⟨rfl, hk8⟩
            rw [HY.out]
            have hb8 := hb7.trans (hk8.mono hb7.size)
            clear hb7 hk8 hA7
            go_wp2
            go_roundw
            case rel => exact ⟨k + 1, by omega, by go_num, hb8⟩
            case measure => (simp [intOf]; try omega)
          · obtain rfl : k = G.length := by omega
            have hb9 := hb5.trans (hbB.mono hb5.size)
            clear hbB hb5
            go_wp2
            go_ret
            exact ⟨rfl, hb9⟩
  · have r1 : (errR p l.length == 0) = false := beq_eq_false_iff_ne.2 he
    have r2 : (errR p l.length != 0) = true := by simp [bne, r1]
    clear HPL he
    generalize errR p l.length = X at *
    generalize grOut L = G at *
    go_wp2
    go_ret
    exact ⟨rfl, hb4⟩

/-! The frame of the law ProgAlones, by program. -/
set_option maxRecDepth 100000 in
theorem progAlones_lifted (os : Os) (started : os.Started) (H : Type) (enc : TypeId × Value → H) :
    ReturnsInHanded {} Try.checked os 7 .any (Rows.progAlonesSpec.pre6 enc Try.prog Try.f7 Rows.progAlonesRow.domain false) (Rows.progAlonesSpec.post enc Try.prog Try.f7 false true false false) := by
  refine returnsInHanded_of_change_shaped (C := Try.checked) frame_own started (by kernel_rfl) Try.func7
    (ChangeSpec.witness6 (enc := enc) (C := Try.checked) false ⟨#[], #[.slice none 0 0, .slice none 0 0], []⟩ 8 (by kernel_rfl) (by kernel_rfl) (by kernel_rfl) (by kernel_rfl)) ?_
  intro W base args ds gs before hval0 hW hcnd hsz hshaped hroom
  clear hcnd hshaped
  have hval : ∀ (j : Nat) t v, Try.f7.params[j]? = some t → args[j]? = some v → Value.okWide Try.prog W .any base t v := hval0
  have hW' := hW
  obtain ⟨p, q, hA0, hV, rfl, hfz, hnd⟩ := hW
  have hA : DataW.TrodAll enc Try.prog W 0 (fun _ => true) true Try.f7.params.toList args.toList ds p := hA0
  rw [Try.params7] at hA hval
  obtain ⟨v0, vs0, d0, ds0, p0, q0, hargs, rfl, rfl, h0, r0⟩ := trodAll_cons hA
  obtain ⟨v1, vs1, d1, ds1, p1, q1, rfl, rfl, rfl, h1, r1⟩ := trodAll_cons r0
  obtain ⟨rfl, rfl, rfl⟩ := trodAll_nil r1
  obtain rfl : args = #[v0, v1] := by cases args; simp_all
  obtain ⟨rfl, rfl⟩ := trodVars_none hV
  have k0 := h0
  have lt0 : ∀ x ∈ p0, x.block < W.heap.size := by obtain ⟨m, hm⟩ := k0; exact DataW.trod_lt m _ _ _ hm
  obtain ⟨a0, z0, c0, rfl, w0⟩ := open_prog (hval 0 22 v0 rfl rfl) h0 (fun n hn => of_decide_eq_true (List.all_eq_true.1 hsz _ (DataW.weights_mem_each (j := 0) rfl rfl n hn)))
  have k1 := h1
  have lt1 : ∀ x ∈ p1, x.block < W.heap.size := by obtain ⟨m, hm⟩ := k1; exact DataW.trod_lt m _ _ _ hm
  obtain ⟨a1, z1, c1, rfl, w1⟩ := open_ints (hval 1 23 v1 rfl rfl) h1 (fun els sp hd => sized_slice hsz (j := 1) rfl (by rw [hd]; rfl) Try.underlying23)
  clear hA0 hval0
  refine (progAlones_walk a0 z0 c0 a1 z1 c1 W w0 w1).mono fun e W' ⟨he, bel⟩ => ?_
  subst he
  exact ⟨_, rfl, _, _, _, [], _, [], hW', trodAll_mk1 (shut_bool Try.underlying4 _), (trodAll_cons_mk (Below.trod frame_laid (by kernel_rfl) (of_decide_eq_true (by kernel_rfl)) k0 bel lt0) (trodAll_cons_mk (Below.trod frame_laid (by kernel_rfl) (of_decide_eq_true (by kernel_rfl)) k1 bel lt1) trodAll_mk0)), rfl, bel.frame _, fun h => by cases h⟩

theorem progAlones_over : Rows.progAlonesRow.holds Try.pinned (OpenSpec.ofChange Rows.progAlonesSpec) :=
  OpenClaim.holds_of_wide 7 Try.f7 rfl rfl rfl rfl rfl rfl rfl ⟨rfl, rfl, rfl, rfl, rfl⟩ rfl rfl rfl rfl rfl (by kernel_rfl) Try.func7 (by kernel_rfl)
    (of_decide_eq_true (by kernel_rfl)) (by unfold Func.isWrapper; first | (rw [if_pos (by decide +kernel)]; kernel_rfl) | (rw [if_neg (by decide +kernel)]; exact ⟨rfl, rfl⟩))
    (fun os started H enc _ => progAlones_lifted os started H enc)

/-- The statement. -/
theorem progAlones_holds : Rows.ProgAlonesSaid := progAlones_over

end Go.Proofs.Ythfeakfakjecoaa

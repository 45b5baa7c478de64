/- EveryGoes: if all threads acquire locks in one order, release all of them and wait for nothing else, no execution is stuck: for every program. -/
import Derived.Test.YtoohconipcleiaaRows
import Derived.Test.YtoohconipcleiaaMY
import Derived.Test.YtoohconipcleiaaEvL
import Derived.Test.YtoohconipcleiaaAlo
import Derived.Test.YtoohconipcleiaaRgE
import Derived.Test.YtoohconipcleiaaMI
import Derived.Deep.DeepCutAuto
namespace Go.Proofs.Ytoohconipcleiaa
open Go.ChangeShapes Go.WideShapes Go.ChangeAt Go.RowKit

theorem PrS.srcG {w : World} {a : Option Addr} {l : List (Int × Int)} (h : PrS w a l) : Src w 2 a l.length (prL l) := by
  refine ⟨prL_length l, ?_⟩
  rcases h.ok with h0 | ⟨b, o, ha, hc⟩
  · left; simp [h0, prL]
  · right
    refine ⟨_, ha, fun j u hu => ?_⟩
    have hj : j < l.length * 2 := by have := (List.getElem?_eq_some_iff.1 hu).1; rwa [prL_length] at this
    have hi : j / 2 < l.length := by omega
    obtain ⟨h1, h2⟩ := hc (j / 2) hi
    obtain ⟨g1, g2⟩ := prL_get l (j / 2) hi
    have hadd : (⟨b, o, none⟩ : Addr).add j = ⟨b, o + j, none⟩ := by unfold Addr.add; split <;> simp_all
    rw [hadd]
    rcases Nat.mod_two_eq_zero_or_one j with e | e
    · rw [show j = j / 2 * 2 by omega] at hu ⊢
      rw [g1] at hu
      cases hu
      exact h1
    · rw [show j = j / 2 * 2 + 1 by omega] at hu ⊢
      rw [g2] at hu
      cases hu
      exact h2
def alA (p : List (List Ev)) (k : Nat) : List (Int × Int) := (List.range k).flatMap fun t => alOut (opsP p t)
theorem alA_succ (p : List (List Ev)) (k : Nat) : alA p (k + 1) = alA p k ++ alOut (opsP p k) := by simp [alA, List.range_succ]
theorem alA_len (p : List (List Ev)) : ∀ k, (alA p k).length ≤ 25 * k
  | 0 => by simp [alA]
  | k + 1 => by
    rw [alA_succ, List.length_append]
    have := alA_len p k
    have := alOut_len (opsP p k)
    omega
theorem alA_ok (p : List (List Ev)) (k : Nat) : okPr (alA p k) := by
  intro x hx
  obtain ⟨t, _, h⟩ := List.mem_flatMap.1 hx
  exact alOut_ok _ x h
theorem alA_all (p : List (List Ev)) : ringP (edgeP (alA p p.length)) = ringP (edgeP (allPr p)) := by
  refine ringP_congr fun a b _ _ => ?_
  unfold edgeP
  rw [Bool.eq_iff_iff, hasB_iff, hasB_iff]
  constructor
  · intro h
    obtain ⟨t, ht, h⟩ := List.mem_flatMap.1 h
    exact mem_allPr (List.mem_range.1 ht) h
  · intro h
    obtain ⟨z, hz, h⟩ := List.mem_flatMap.1 h
    obtain ⟨t, ht, rfl⟩ := List.mem_iff_getElem.1 hz
    refine List.mem_flatMap.2 ⟨t, List.mem_range.2 ht, ?_⟩
    have : opsP p t = p[t] := by unfold opsP; simp [ht]
    rw [this]; exact h
set_option maxRecDepth 100000 in
set_option maxHeartbeats 16000000 in
theorem everyGoes_walk (a : Option Addr) (p : List (List Ev)) (c : Nat) (w : World) (hp : PgS w a p ∧ (p.length ≤ c ∧ p.length * 24 ≤ 140737488351232) ∧ ∀ z ∈ p, ∀ e ∈ z, I64 e.k ∧ I64 e.t ∧ I64 e.o) :
    Calls Try.prog 8 #[.slice a p.length c] w fun e w' => e = .returned (.bool true) ∧ Below w.heap.size w w' := by
  have h := hp.1
  have h64 := Lib.hid hp.2.2
  have hsz := Lib.hid hp.2.1.2
  have hbig := h.big
  clear hp
  obtain ⟨i0, hi, hz0, hz1, hz2⟩ := info_parts infoPr
  have hmm := @run_makeMap Try.prog
  go_enter Try.func8, Try.ntmps8
  go_wp2_with fail
  refine (everied_any _).mono ?_
  rintro r w4 ⟨rfl, hb4⟩
  have hP4 := h.below hb4
  have hbB := Below.refl w4.heap.size w4
  go_wp2
  go_loopw [3, 21] (fun v i wr => ∃ k : Nat, k ≤ p.length ∧ i = .int .i64 k ∧ wr.ownsRow w4.heap.size 99 2 v (alA p k).length (prL (alA p k)) ∧ Below w4.heap.size w4 wr ∧ Hid (∀ t, t < k → GoodZ (opsP p t)) ∧ Hid (0 < k → chkP p = 0)) (fun _ i _ => p.length - (intOf i).toNat)
  case atStart => exact ⟨0, Nat.zero_le _, rfl, World.ownsRow_nil _ _ _ _, hbB, Lib.hid (fun t h => absurd h (Nat.not_lt_zero _)), Lib.hid (fun h => absurd h (Nat.lt_irrefl _))⟩
  case round =>
    clear hbB
    obtain ⟨k, hk, rfl, hown, hbB, HG, HC⟩ := hrel
    by_cases hlt : k < p.length
    · have hlt2 := hlt
      obtain ⟨pb, po, a1, c1, rfl, d0, hz⟩ := (hP4.below hbB).at hlt
      have hzo : opsP p k = p[k] := by unfold opsP; simp [hlt]
      have h64k := Lib.hid (h64.out p[k] (List.getElem_mem hlt))
      have k0 : (0 : Int) ≤ k := by omega
      have k1 : (k : Int) < p.length := by omega
      have HZ := Lib.hid hzo
      clear hzo
      obtain ⟨z, hze⟩ : ∃ z, p[k] = z := ⟨_, rfl⟩
      have HZE := Lib.hid hze
      rw [hze] at d0 hz h64k
      clear hze
      have hzb := hz.big
      go_upto_region 8 with fail
      have hg0 : Below wr.heap.size wr (wr.alloc (.map #[] 0)) := (Below.refl _ _).alloc (Nat.le_refl _) _
      have hM : MapB (wr.alloc (.map #[] 0)) wr.heap.size 0 (heldF z 0) := MapB.made wr
      have hb4s := hb4.size
      have hbBs := hbB.size
      have hfin : Below w.heap.size w wr := hb4.trans (hbB.mono hb4s)
      clear d0
      generalize wr = w5 at *
      go_wp2
      go_loopw [29] (fun i wv => ∃ n m : Nat, n ≤ z.length ∧ m ≤ n ∧ i = .int .i64 n ∧ MapB wv w5.heap.size m (heldF z n) ∧ Hid (GoodF z n) ∧ Below w5.heap.size w5 wv) (fun i _ => z.length - (intOf i).toNat)
      case atStart => exact ⟨0, 0, Nat.zero_le _, Nat.le_refl _, rfl, hM, Lib.hid (GoodF.zero z), hg0⟩
      case round =>
        clear hM hg0
        obtain ⟨n, m, hn, hmn, rfl, hM, HF, hg⟩ := hrel
        have hgs := hg.size
        by_cases hlt : n < z.length
        · obtain ⟨b, o, rfl, d0, d1, d2⟩ := (hz.below hg).at hlt
          have h64x := h64k.out z[n] (List.getElem_mem hlt)
          rw [← ev0_at hlt] at d0 d1 d2 h64x
          have n0 : (0 : Int) ≤ n := by omega
          have n1 : (n : Int) < z.length := by omega
          have H4 := fun e => heldF_four (z := z) (i := n) e
          have H5 := fun e => heldF_five (z := z) (i := n) e
          have HE := fun e e' => heldF_else (z := z) (i := n) e e'
          have HS := fun a b => HF.out.succ a b
          have hNm : n < maxLen := by unfold maxLen; omega
          generalize ev0 z n = x at *
          obtain ⟨K, T, O⟩ := x
          have HH4 := Lib.hid H4
          have HH5 := Lib.hid H5
          have HHE := Lib.hid HE
          have HHS := Lib.hid HS
          clear H4 H5 HE HS HF
          simp only at d0 d1 d2 h64x
          have hN := Has.new wr (evC ⟨K, T, O⟩) 40
          have hM5 := hM.below ((Below.refl _ _).alloc (Nat.le_refl _) (.cells (evC ⟨K, T, O⟩) 40))
          have hml := hM.lt
          have hg5 := hg.alloc hgs (.cells (evC ⟨K, T, O⟩) 40)
          clear hM hg
          go_upto_region 11 with fail
          clear d0 d1 d2
          generalize wr.alloc (.cells (evC ⟨K, T, O⟩) 40) = w6 at *
          generalize wr.heap.size = E at *
          have x0 : w6.cell? ⟨E, 0, none⟩ = some (.int .i64 K) := hN.cell rfl
          have x1 : w6.cell? ⟨E, 1, none⟩ = some (.int .i64 T) := hN.cell rfl
          have hfin6 := hfin.trans (hg5.mono (by omega))
          by_cases k7 : K = 7
          · subst k7
            go_wp2
            go_ret
            exact ⟨rfl, hfin6⟩
          · have r7 : (K == 7) = false := beq_eq_false_iff_ne.2 k7
            have q7 : decide (K = 7) = false := decide_eq_false k7
            by_cases k4 : K = 4
            · subst k4
              have hlk := hM5.look h64x.2.1
              obtain ⟨q, hq⟩ : ∃ q, heldF z n T = q := ⟨_, rfl⟩
              rw [hq] at hlk
              cases q
              · obtain ⟨w7, hr7, hM7, hg7⟩ := hM5.put (by omega) h64x.2.1 true
                have hb7 := hg5.grown hg7 hg5.size (fun j hj => by cases hj; exact Nat.le_refl _)
                have hM8 := hM7.to fun k _ => HH4.out rfl k
                have HG := Lib.hid (HHS.out (show (4 : Int) ≠ 7 by decide) fun _ => hq)
                have x07 : w7.cell? ⟨E, 0, none⟩ = some (.int .i64 4) := (hN.grown hg7 (by intro e; cases e; omega)).cell rfl
                clear hq hM5 hM7 hg7 hg5 HH4 HH5 HHE HHS
                go_wp2
                go_roundw
                case rel => exact ⟨n + 1, m + 1, by omega, by omega, by go_num, hM8, HG, hb7⟩
                case measure => (simp [intOf]; try omega)
              · clear hq
                go_wp2
                go_ret
                exact ⟨rfl, hfin6⟩
            · have r4 : (K == 4) = false := beq_eq_false_iff_ne.2 k4
              have q4 : decide (K = 4) = false := decide_eq_false k4
              by_cases k5 : K = 5
              · subst k5
                obtain ⟨w7, hr7, hM7, hg7⟩ := hM5.drop h64x.2.1
                have hb7 := hg5.grown hg7 hg5.size (fun j hj => by cases hj; exact Nat.le_refl _)
                have hM8 := hM7.to fun k _ => HH5.out rfl k
                have HG := Lib.hid (HHS.out (show (5 : Int) ≠ 7 by decide) fun e => absurd e (show ¬ (5 : Int) = 4 by decide))
                clear hM5 hM7 hg7 hg5 HH4 HH5 HHE HHS
                go_wp2
                go_roundw
                case rel => exact ⟨n + 1, m, by omega, by omega, by go_num, hM8, HG, hb7⟩
                case measure => (simp [intOf]; try omega)
              · have r5 : (K == 5) = false := beq_eq_false_iff_ne.2 k5
                have q5 : decide (K = 5) = false := decide_eq_false k5
                have hM8 := hM5.to fun k _ => HHE.out k4 k5 k
                have HG := Lib.hid (HHS.out k7 fun e => absurd e k4)
                clear hM5 HH4 HH5 HHE HHS
                go_wp2
                go_roundw
                case rel => exact ⟨n + 1, m, by omega, by omega, by go_num, hM8, HG, hg5⟩
                case measure => (simp [intOf]; try omega)
        · obtain rfl : n = z.length := by omega
          have hfin6 := hfin.trans (hg.mono (by omega))
          have hP6 := h.below hfin6
          have hown6 := own_below hown hg
          have hmb := fun w' (hk : Below wr.heap.size wr w') => hM.below hk
          have hb6 := hbB.trans (hg.mono hbBs)
          clear hM hown
          by_cases hc : chkP p = 0
          · have hok := chkP_ok hc
            have h6 := hok.six
            have hgd : (∀ i, I64 i → heldF z z.length i = false) → GoodZ (opsP p k) := fun e => GoodF.good hok (by rw [HZ.out, HZE.out]; exact HF.out) (by rw [HZ.out, HZE.out]; exact e)
            have hal := alA_len p k
            have haL := alOut_len (opsP p k)
            have hal1 := alone_ok p k _ c _ hP6 hc hlt2
            have HS1 := Lib.hid (alA_succ p k)
            have HGD := Lib.hid hgd
            have HCC := Lib.hid hc
            clear hgd hc HF HZ HZE hok
            generalize alOut (opsP p k) = Lk at *
            have HAE := Lib.hid (show alA p (k + 1) = alA p k ++ Lk from HS1.out)
            clear HS1
            obtain ⟨LA, hLA⟩ : ∃ LA, alA p k = LA := ⟨_, rfl⟩
            rw [hLA] at hal hown6
            have HLA := Lib.hid hLA
            clear hLA
            go_wp2_with fail
            refine hal1.mono ?_
            rintro r w7 ⟨a7, c7, rfl, hP7, hc7, hb7⟩
            obtain ⟨M, hlen, hM0⟩ := (hmb w7 hb7).len
            have hfin7 := hfin6.trans (hb7.mono hfin6.size)
            have hown7 := own_below hown6 (hb7.mono (by have := hb6.size; omega))
            have hb7b := hb6.trans (hb7.mono hb6.size)
            have h7s := hb7b.size
            clear hal1 hmb hP6 hfin6 hown6 hb6 hb7 hg
            by_cases hM : M = 0
            · have hgood := HGD.out (hM0 hM)
              subst hM
              have HG2 := Lib.hid (fun t (ht : t < k + 1) => (by
                by_cases e : t = k
                · rw [e]; exact hgood
                · exact HG.out t (by omega) : GoodZ (opsP p t)))
              clear hM0 hgood
              go_wp2_with (at_builtin; refine app_list _ rfl (.tmp 73) (.tmp 74) 60 rfl Try.underlying60 hi hz0 hz1 hz2 rfl (by decide) rfl hown7 rfl (news := prL Lk) hP7.srcG (prL_one _) (by unfold maxLen; omega) (by omega) (by omega) ?_)
              intro v' w8 hAp
              have hb8 := hAp.below hown7 hb7b (by omega)
              have ho8 := hAp.own
              rw [← prL_append] at ho8
              clear hAp hown7 hb7b hP7 hlen
              go_wp2
              go_roundw
              case rel => exact ⟨k + 1, by omega, by go_num, by rw [HAE.out, HLA.out, List.length_append]; exact ho8, hb8, HG2, Lib.hid (fun _ => HCC.out)⟩
              case measure => (simp [intOf]; try omega)
            · have hM2 : decide ((M : Int) > 0) = true := decide_eq_true (by omega)
              have hM3 : decide ((M : Int) ≤ 0) = false := decide_eq_false (by omega)
              have hM4 : decide ((0 : Int) < M) = true := decide_eq_true (by omega)
              clear hM0
              go_wp2
              go_ret
              exact ⟨rfl, hfin7⟩
          · have hal1 := alone_err p k _ c _ hP6 hc
            have e1 : (chkP p != 0) = true := bne_iff_ne.2 hc
            have e2 : decide (chkP p = 0) = false := decide_eq_false hc
            clear hc HF HZ HZE
            generalize chkP p = C at *
            go_wp2_with fail
            refine hal1.mono ?_
            rintro r w7 ⟨rfl, hb7⟩
            obtain ⟨M, hlen, _⟩ := (hmb w7 hb7).len
            have hfin7 := hfin6.trans (hb7.mono hfin6.size)
            clear hal1 hmb hP6 hfin6 hown6 hb6 hb7 hg
            by_cases hM : M = 0
            · subst hM
              go_wp2
              go_ret
              exact ⟨rfl, hfin7⟩
            · have hM2 : decide ((M : Int) > 0) = true := decide_eq_true (by omega)
              have hM3 : decide ((M : Int) ≤ 0) = false := decide_eq_false (by omega)
              have hM4 : decide ((0 : Int) < M) = true := decide_eq_true (by omega)
              go_wp2
              go_ret
              exact ⟨rfl, hfin7⟩
    · obtain rfl : k = p.length := by omega
      have hbBs := hb4.size
      have hfin := hb4.trans (hbB.mono hbBs)
      have hP5 := h.below hfin
      have hal := alA_len p p.length
      by_cases hcE : chkE p = 0
      · have hck : chkP p = 0 := by
          unfold chkE at hcE
          by_cases cc : chkP p = 0
          · exact cc
          · rw [if_pos cc] at hcE; exact hcE
        have h6 := (chkP_ok hck).six
        obtain ⟨aL, cL, rfl, hP, hcL, _⟩ := prS_ownc hown (by omega)
        have hring := ringOf_ok _ _ cL _ hP (alA_ok p p.length)
        rw [alA_all] at hring
        have HGA := Lib.hid (fun (hr : ringP (edgeP (allPr p)) = []) (picks : List Int) => goes_on (chkP_ok hck) HG.out hr picks)
        have HCE := Lib.hid hcE
        clear hown hbB hal hck hcE
        generalize alA p p.length = LA at *
        generalize ringP (edgeP (allPr p)) = R at *
        go_wp2_with fail
        refine hring.mono ?_
        rintro r w6 ⟨a6, c6, rfl, hI6, _, hb6⟩
        have hfin6 := hfin.trans (hb6.mono hfin.size)
        have hP6 := h.below hfin6
        clear hring hfin hb6 hP5
        go_wp2_with fail
        refine (ends_any p _ c _ hP6).mono ?_
        rintro r w7 ⟨hk7, hE⟩
        have hfin7 := hfin6.trans (hk7.mono hfin6.size)
        rcases hE with ⟨h0, _⟩ | ⟨_, all, aE, cE, hA, rfl, hES, _⟩
        · exact absurd HCE.out h0
        · have hbigE := hES.big
          have hlen := List.length_pos_iff.2 hA.nonempty
          clear hk7 hP6 hfin6
          by_cases hR : R = []
          · have HST := Lib.hid (fun x (hx : x ∈ all) => (by
              obtain ⟨s, picks, h1, h2, _⟩ := hA.of hx
              rw [h2, ← h1.run]
              exact HGA.out hR picks : x.2.2 = false))
            subst hR
            go_wp2
            go_loopw [100] (fun i wr => ∃ k : Nat, k ≤ all.length ∧ i = .int .i64 k ∧ EnS wr aE all ∧ Below w.heap.size w wr) (fun i _ => all.length - (intOf i).toNat)
            case atStart => exact ⟨0, Nat.zero_le _, rfl, hES, hfin7⟩
            case round =>
              clear hES hfin7
              obtain ⟨n, hn, rfl, hES, hb⟩ := hrel
              by_cases hlt : n < all.length
              · obtain ⟨b, o, rfl, hr⟩ := hES.at hlt
                have n0 : (0 : Int) ≤ n := by omega
                have n1 : (n : Int) < all.length := by omega
                have hx : all[n].2.2 = false := HST.out _ (List.getElem_mem hlt)
                have hE19 : (enE all[n])[19]? = some (.bool all[n].2.2) := endC_get _ _ _ (by omega)
                rw [hx] at hE19
                have hZ := enE_size all[n]
                have hZ1 := enE_one all[n]
                have hz20 := endC_size PS.zero false false
                generalize all[n] = x at *
                go_upto_region 30 with (first
                  | (refine wpList_load_mid rfl endT _ rfl b (o + n * 20) rfl (enE x).toList _ hr Try.underlying29 rfl (by rw [Array.length_toList, hZ]; rfl) ?_; rw [Array.toArray_toList])
                  | (refine wpList_store_row rfl endT _ _ rfl wr.heap.size (enE x) rfl rfl endT _ (Has.new wr (endC PS.zero false false) endT).out (by rw [hZ]; rfl) (by rw [hZ, hz20]) hZ1 ?_))
                generalize hWx : World.setRow _ _ _ = W2
                have hN2 : Has W2 wr.heap.size (enE x) endT := by rw [← hWx]; exact (Has.new wr (endC PS.zero false false) endT).setRow
                have hk2 : Below wr.heap.size wr W2 := by rw [← hWx]; exact below_setRow ((Below.refl _ _).alloc (Nat.le_refl _) _) (Nat.le_refl _)
                have hb2 := hb.trans (hk2.mono hb.size)
                have hES2 := hES.below hk2
                have c19 : W2.cell? ⟨wr.heap.size, 19, none⟩ = some (.bool false) := hN2.cell hE19
                clear hWx hk2 hES hr hb
                go_wp2
                go_roundw
                case rel => exact ⟨n + 1, by omega, by go_num, hES2, hb2⟩
                case measure => (simp [intOf]; try omega)
              · obtain rfl : n = all.length := by omega
                have l1 : decide ((all.length : Int) > 0) = true := decide_eq_true (by omega)
                have l2 : decide ((0 : Int) < all.length) = true := decide_eq_true (by omega)
                go_wp2
                go_ret
                exact ⟨by first | rfl | simp, hb⟩
          · have hl : 0 < R.length := List.length_pos_iff.2 hR
            have hM2 : decide ((R.length : Int) > 0) = true := decide_eq_true (by omega)
            have hM3 : decide ((R.length : Int) ≤ 0) = false := decide_eq_false (by omega)
            have hM4 : decide ((0 : Int) < R.length) = true := decide_eq_true (by omega)
            clear hI6 hR
            go_wp2
            go_ret
            exact ⟨rfl, hfin7⟩
      · have hsz := hsz.out
        obtain ⟨aL, cL, rfl, hP, hcL, _⟩ := prS_ownc hown (by omega)
        have hring := ringOf_ok _ _ cL _ hP (alA_ok p p.length)
        have e1 : (chkE p != 0) = true := bne_iff_ne.2 hcE
        have e2 : decide (chkE p = 0) = false := decide_eq_false hcE
        have HCE := Lib.hid hcE
        clear hown hbB hal hcE
        generalize alA p p.length = LA at *
        generalize ringP (edgeP LA) = R at *
        go_wp2_with fail
        refine hring.mono ?_
        rintro r w6 ⟨a6, c6, rfl, hI6, _, hb6⟩
        have hfin6 := hfin.trans (hb6.mono hfin.size)
        have hP6 := h.below hfin6
        clear hring hfin hb6 hP5
        go_wp2_with fail
        refine (ends_any p _ c _ hP6).mono ?_
        rintro r w7 ⟨hk7, hE⟩
        have hfin7 := hfin6.trans (hk7.mono hfin6.size)
        rcases hE with ⟨_, rfl⟩ | ⟨h0, _⟩
        · generalize chkE p = C at *
          by_cases hR : R = []
          · subst hR
            clear hI6 HCE hk7 hP6
            go_wp2
            go_ret
            exact ⟨rfl, hfin7⟩
          · have hl : 0 < R.length := List.length_pos_iff.2 hR
            have hM2 : decide ((R.length : Int) > 0) = true := decide_eq_true (by omega)
            have hM3 : decide ((R.length : Int) ≤ 0) = false := decide_eq_false (by omega)
            have hM4 : decide ((0 : Int) < R.length) = true := decide_eq_true (by omega)
            clear hI6 hR HCE hk7 hP6
            go_wp2
            go_ret
            exact ⟨rfl, hfin7⟩
        · exact absurd h0 HCE.out
/-! The frame of the law EveryGoes, by program. -/
set_option maxRecDepth 100000 in
theorem everyGoes_lifted (os : Os) (started : os.Started) (H : Type) (enc : TypeId × Value → H) :
    ReturnsInHanded {} Try.checked os 8 .any (Rows.everyGoesSpec.pre6 enc Try.prog Try.f8 Rows.everyGoesRow.domain false) (Rows.everyGoesSpec.post enc Try.prog Try.f8 false true false false) := by
  refine returnsInHanded_of_change_shaped (C := Try.checked) frame_own started (by kernel_rfl) Try.func8
    (ChangeSpec.witness6 (enc := enc) (C := Try.checked) false ⟨#[], #[.slice none 0 0], []⟩ 8 (by kernel_rfl) (by kernel_rfl) (by kernel_rfl) (by kernel_rfl)) ?_
  intro W base args ds gs before hval0 hW hcnd hsz hshaped hroom
  clear hcnd hshaped
  have hval : ∀ (j : Nat) t v, Try.f8.params[j]? = some t → args[j]? = some v → Value.okWide Try.prog W .any base t v := hval0
  have hW' := hW
  obtain ⟨p, q, hA0, hV, rfl, hfz, hnd⟩ := hW
  have hA : DataW.TrodAll enc Try.prog W 0 (fun _ => true) true Try.f8.params.toList args.toList ds p := hA0
  rw [Try.params8] at hA hval
  obtain ⟨v0, vs0, d0, ds0, p0, q0, hargs, rfl, rfl, h0, r0⟩ := trodAll_cons hA
  obtain ⟨rfl, rfl, rfl⟩ := trodAll_nil r0
  obtain rfl : args = #[v0] := by cases args; simp_all
  obtain ⟨rfl, rfl⟩ := trodVars_none hV
  have k0 := h0
  have lt0 : ∀ x ∈ p0, x.block < W.heap.size := by obtain ⟨m, hm⟩ := k0; exact DataW.trod_lt m _ _ _ hm
  obtain ⟨a0, z0, c0, rfl, w0⟩ := open_prog (hval 0 22 v0 rfl rfl) h0 (fun n hn => of_decide_eq_true (List.all_eq_true.1 hsz _ (DataW.weights_mem_each (j := 0) rfl rfl n hn)))
  clear hA0 hval0
  refine (everyGoes_walk a0 z0 c0 W w0).mono fun e W' ⟨he, bel⟩ => ?_
  subst he
  exact ⟨_, rfl, _, _, _, [], _, [], hW', trodAll_mk1 (shut_bool Try.underlying4 _), (trodAll_cons_mk (Below.trod frame_laid (by kernel_rfl) (of_decide_eq_true (by kernel_rfl)) k0 bel lt0) trodAll_mk0), rfl, bel.frame _, fun h => by cases h⟩

theorem everyGoes_over : Rows.everyGoesRow.holds Try.pinned (OpenSpec.ofChange Rows.everyGoesSpec) :=
  OpenClaim.holds_of_wide 8 Try.f8 rfl rfl rfl rfl rfl rfl rfl ⟨rfl, rfl, rfl, rfl, rfl⟩ rfl rfl rfl rfl rfl (by kernel_rfl) Try.func8 (by kernel_rfl)
    (of_decide_eq_true (by kernel_rfl)) (by unfold Func.isWrapper; first | (rw [if_pos (by decide +kernel)]; kernel_rfl) | (rw [if_neg (by decide +kernel)]; exact ⟨rfl, rfl⟩))
    (fun os started H enc _ => everyGoes_lifted os started H enc)

/-- The statement. -/
theorem everyGoes_holds : Rows.EveryGoesSaid := everyGoes_over

end Go.Proofs.Ytoohconipcleiaa

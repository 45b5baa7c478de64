/- ProgOrder: each thread executes its operations in order: for every program and every slice of picks. -/
import Derived.Test.YthfeakfakjecoaaRows
import Derived.Test.YthfeakfakjecoaaPgI
import Derived.Test.YthfeakfakjecoaaKnd
import Derived.Test.YthfeakfakjecoaaQuT
import Derived.Test.YthfeakfakjecoaaOpenE
import Derived.Test.YthfeakfakjecoaaOpenI
import Derived.Deep.DeepCutAuto
namespace Go.Proofs.Ythfeakfakjecoaa
open Go.ChangeShapes Go.WideShapes Go.ChangeAt Go.RowKit

theorem errR_zero' {p : List (List Ev)} {n : Nat} (h : errR p n = 0) : chkP p = 0 := by
  unfold errR at h
  by_cases c : chkP p = 0
  · exact c
  · rw [if_neg c] at h; exact absurd h c
/-- The places, as cells. -/
abbrev atC (f : Nat → Nat) : Array Value := clkC fun i => (f i : Int)
theorem atC_set {f : Nat → Nat} {k x : Nat} (hk : k < 6) : (atC f).setIfInBounds k (.int .i64 (x : Int)) = atC (upN f k x) := by
  rw [clkC_set _ _ hk]
  refine clkC_congr fun i _ => ?_
  unfold upN
  by_cases e : i = k <;> simp [e]

def mAt (w : World) (A t : Nat) : Nat := match w.cell? ⟨A, t, none⟩ with | some (.int _ n) => n.toNat | _ => 0
theorem mAt_eq {w : World} {A t : Nat} {f : Nat → Nat} {T : TypeId} (h : Has w A (atC f) T) (ht : t < 6) : mAt w A t = f t := by
  unfold mAt
  rw [h.cell (clkC_get _ t ht)]
  rfl
theorem beyond_map {w : World} {b n : Nat} {f : Int → Int} (h : MapI w b n f) {k : Int} (hk : I64 k) : ∀ p : Beyond w, (Instr.lookup 39 (.map (some b)) (.int .i64 k) false).run Try.prog p.to = .ok (.int .i64 (f k)) p.to :=
  fun p => (h.below p.below).look hk

set_option maxRecDepth 100000 in
set_option maxHeartbeats 8000000 in
theorem progOrder_walk (a : Option Addr) (p : List (List Ev)) (c : Nat) (ap : Option Addr) (l : List Int) (cp : Nat) (w : World) (hp : PgS w a p ∧ (p.length ≤ c ∧ p.length * 24 ≤ 140737488351232) ∧ ∀ z ∈ p, ∀ e ∈ z, I64 e.k ∧ I64 e.t ∧ I64 e.o) (hl : IntS w ap l ∧ l.length ≤ cp ∧ l.length * 8 ≤ 140737488351232 ∧ ∀ n ∈ l, I64 n) :
    Calls Try.prog 4 #[.slice a p.length c, .slice ap l.length cp] w fun e w' => e = .returned (.bool true) ∧ Below w.heap.size w w' := by
  have h := hp.1
  have hq := hl.1
  clear hp hl
  have hmm := @run_makeMap Try.prog
  go_enter Try.func4, Try.ntmps4
  go_wp2_with fail
  refine (ran_any _).mono ?_
  rintro r w1 ⟨rfl, hb1⟩
  go_wp2_with fail
  refine (run_any p l a ap c cp _ (h.below hb1) (hq.below hb1)).mono ?_
  rintro r w2 ⟨a2, c2, ⟨hc2, _⟩, rfl, hL, hk⟩
  have hb2 := hb1.trans (hk.mono hb1.size)
  have HS := Lib.hid (endR_size p l)
  have H1 := Lib.hid (endR_one p l)
  generalize endR p l = Y at *
  have hs2 := hb2.size
  clear hk hb1
  by_cases he : errR p l.length = 0
  · have hO := chkP_ok (errR_zero' he)
    have hV : evR p l = (runP p l).2 := by unfold evR; rw [if_pos he]
    have hR := runP_order hO l
    rw [← hV] at hR
    have hle := replay_le hR
    have hev : ∀ e ∈ evR p l, isEv e = true := by rw [hV]; exact (played_evs (by have := runP_may hO l; rwa [mayB, beq_iff_eq] at this)).2
    have h6 := hO.six
    have hop := hO.op
    have hln := hO.len
    rw [he]
    have HR := Lib.hid hR
    have HLE := Lib.hid hle
    have HEV := Lib.hid hev
    have HOP := Lib.hid hop
    have HLN := Lib.hid hln
    clear he hO hV hR hle hev hop hln
    generalize evR p l = L at *
    have hLb := hL.big
    go_wp2_with (refine wpList_store_row rfl endT _ _ rfl w2.heap.size Y rfl rfl endT _ ((Has.new w2 (endC PS.zero false false) endT)).out (by rw [HS.out]; rfl) (by rw [HS.out, endC_size]) H1.out ?_
                 generalize hWx : World.setRow _ _ _ = W3
                 have hk3 : Below w2.heap.size w2 W3 := by rw [← hWx]; exact below_setRow ((Below.refl _ _).alloc (Nat.le_refl _) _) (Nat.le_refl _)
                 have hb3 := hb2.trans (hk3.mono hb2.size)
                 have hL3 := hL.below (hk3.mono (Nat.le_refl _))
                 have hP3 := h.below hb3
                 obtain ⟨x1, x2, x3, x4, x5, x6, x7, x8, r1, r2, r3, r4, r5, r6, r7, r8, hM8, hg8⟩ := kinds_fill W3
                 clear hWx hk3 hL hb2)
    have hmb : W3.heap.size < x8.heap.size := by have := hg8.size; simp at this; omega
    have hk4 : Below W3.heap.size W3 (x8.alloc (.cells #[.int .i64 0, .int .i64 0, .int .i64 0, .int .i64 0, .int .i64 0, .int .i64 0] 28)) :=
      (((Below.refl _ _).alloc (Nat.le_refl _) _).grown hg8 (by simp) (by intro k hk; cases hk; exact Nat.le_refl _)).alloc (by omega) _
    have hM4 : MapI (x8.alloc (.cells #[.int .i64 0, .int .i64 0, .int .i64 0, .int .i64 0, .int .i64 0, .int .i64 0] 28)) W3.heap.size 8 evK := hM8.below ((Below.refl _ _).alloc (Nat.le_refl _) _)
    have hA4 : Has (x8.alloc (.cells #[.int .i64 0, .int .i64 0, .int .i64 0, .int .i64 0, .int .i64 0, .int .i64 0] 28)) x8.heap.size (atC (replay p (L.take 0)).at_) 28 := (Has.new x8 _ _).to rfl
    have hs3 := hb3.size
    clear r1 r2 r3 r4 r5 r6 r7 r8 hM8 hg8 hmm
    generalize x8.alloc (.cells #[.int .i64 0, .int .i64 0, .int .i64 0, .int .i64 0, .int .i64 0, .int .i64 0] 28) = W4 at *
    generalize x8.heap.size = A at *
    obtain ⟨mb, hmbe⟩ : ∃ mb, W3.heap.size = mb := ⟨_, rfl⟩
    rw [hmbe] at hmb hM4 hk4 hs3 ⊢
    have HMB := Lib.hid hmbe
    clear hmbe
    go_loopw [28] (fun i wr => ∃ k : Nat, k ≤ L.length ∧ i = .int .i64 k ∧ MapI wr mb 8 evK ∧ Has wr A (atC (replay p (L.take k)).at_) 28 ∧ Below mb W3 wr) (fun i _ => L.length - (intOf i).toNat)
    case atStart => exact ⟨0, Nat.zero_le _, rfl, hM4, hA4, hk4⟩
    case round =>
      clear hM4 hA4 hk4
      obtain ⟨k, hk, rfl, hM, hA, hbw⟩ := hrel
      have hbw3 : Below W3.heap.size W3 wr := by rw [HMB.out]; exact hbw
      by_cases hlt : k < L.length
      · obtain ⟨b, o, rfl, d0, d1, d2⟩ := (hL3.below hbw3).at hlt
        obtain ⟨t0, t1, hF⟩ := HR.out k hlt
        have hE := HEV.out _ (List.getElem_mem hlt)
        have hrp : replay p (L.take (k + 1)) = rstep p (replay p (L.take k)) L[k] := by rw [List.take_succ_eq_append_getElem hlt, replay_snoc]
        have hle := HLE.out k (by omega)
        have HRP := Lib.hid hrp
        have k0 : (0 : Int) ≤ k := by omega
        have k1 : (k : Int) < L.length := by omega
        clear hrp
        generalize L[k] = x at *
        generalize replay p (L.take k) = rr at *
        obtain ⟨K, t, oo⟩ := x
        simp only at t0 t1 hF d0 d1 d2
        obtain ⟨t, rfl⟩ := Int.eq_ofNat_of_zero_le t0
        rw [Int.toNat_natCast] at hF
        have htl : t < p.length := by omega
        have ht6 : t < 6 := by omega
        have hzo : opsP p t = p[t] := by unfold opsP; rw [List.getD_eq_getElem?_getD, List.getElem?_eq_getElem htl]; rfl
        have hzl := HLN.out _ (List.getElem_mem htl)
        have hpl : plen p t = p[t].length := by rw [← opsP_len, hzo]
        obtain ⟨pb, po, a', c', rfl, e0, hz⟩ := hP3.at htl
        replace e0 := (hbw3.cell (World.block_lt_of_cell? W3 _ e0)).trans e0
        rw [hzo, hpl] at hF
        have hle' := hle t
        rw [hpl] at hle'
        have HZO := Lib.hid hzo
        have HBZ := Lib.hid (HOP.out _ (List.getElem_mem htl))
        generalize p[t] = z at *
        have hge := findF_ge z ⟨K, (t : Int), oo⟩ (rr.at_ t)
        have hlo : ∀ m (hm : m < z.length), rr.at_ t ≤ m → m < findF z ⟨K, (t : Int), oo⟩ (rr.at_ t) → matchB z[m] ⟨K, (t : Int), oo⟩ = false := fun m hm h1 h2 => findF_lo h1 h2 hm
        have hhi := findF_hi hF
        obtain ⟨F, hFe⟩ : ∃ F, findF z ⟨K, (t : Int), oo⟩ (rr.at_ t) = F := ⟨_, rfl⟩
        have hhi' : ∀ (hm : F < z.length), matchB z[F] ⟨K, (t : Int), oo⟩ = true := by subst hFe; intro _; exact hhi
        clear hhi
        rw [hFe] at hF hge hlo
        have HLO := Lib.hid hlo
        have HHI := Lib.hid hhi'
        have HFE := Lib.hid hFe
        clear hzo hpl hle hlo hhi' hFe
        have hAt := fun (f : Nat → Nat) (w : World) (h : Has w A (atC f) 28) => h.cell (clkC_get (fun i => (f i : Int)) t ht6)
        have n0 : (0 : Int) ≤ t := by omega
        have n6 : (t : Int) < 6 := by omega
        have t2 : decide ((t : Int) ≥ p.length) = false := decide_eq_false (by omega)
        have t3 : decide ((p.length : Int) ≤ t) = false := decide_eq_false (by omega)
        have t4 : decide (p.length ≤ t) = false := decide_eq_false (by omega)
        have hEb : Has (wr.alloc (.cells (evC ⟨K, (t : Int), oo⟩) 37)) wr.heap.size (evC ⟨K, (t : Int), oo⟩) 37 := Has.new _ _ _
        have hM5 := hM.below ((Below.refl _ _).alloc (Nat.le_refl _) (.cells (evC ⟨K, (t : Int), oo⟩) 37))
        have hA5 := hA.alloc (.cells (evC ⟨K, (t : Int), oo⟩) 37)
        have hbw5 := hbw.alloc (by have := hbw3.size; rw [HMB.out] at this; exact this) (.cells (evC ⟨K, (t : Int), oo⟩) 37)
        have hpb : pb < wr.heap.size := World.block_lt_of_cell? wr _ e0
        have e0' : (wr.alloc (.cells #[.int .i64 K, .int .i64 (t : Int), .int .i64 oo] 37)).cell? ⟨pb, po + t, none⟩ = some (.slice a' z.length c') := (((Below.refl wr.heap.size wr).alloc (Nat.le_refl _) _).cell hpb).trans e0
        clear e0
        have HAT := Lib.hid hAt
        clear hAt
        go_wp2
        clear d0 d1 d2 e0'
        have hwr := hbw5.size
        have hEA : wr.heap.size ≠ A := by have := hA.lt; omega
        have hmbE : mb < wr.heap.size := by have := hM.lt; omega
        have hat : upN rr.at_ t (rr.at_ t) = rr.at_ := by funext i; unfold upN; split <;> simp_all
        have hA6 : Has (wr.alloc (.cells (evC ⟨K, (t : Int), oo⟩) 37)) A (atC (upN rr.at_ t (rr.at_ t))) 28 := by rw [hat]; exact hA5
        generalize hW6 : wr.alloc (.cells #[.int .i64 K, .int .i64 (t : Int), .int .i64 oo] 37) = W6
        replace hW6 : wr.alloc (.cells (evC ⟨K, (t : Int), oo⟩) 37) = W6 := hW6
        rw [hW6] at hEb hM5 hA6 hbw5
        have hs6 : wr.heap.size < W6.heap.size := hEb.lt
        generalize hEe : wr.heap.size = E at *
        have hkk := Below.refl W6.heap.size W6
        clear hW6 hA5 hat hA hM hbw hbw3 hEe hpb
        go_loopw [76] (fun _ w7 => ∃ m, rr.at_ t ≤ m ∧ m ≤ F ∧ Has w7 A (atC (upN rr.at_ t m)) 28 ∧ MapI w7 mb 8 evK ∧ Has w7 E (evC ⟨K, (t : Int), oo⟩) 37 ∧ Below mb W3 w7) (fun _ w7 => F - mAt w7 A t)
        case atStart => exact ⟨_, Nat.le_refl _, hge, hA6, hM5, hEb, hbw5⟩
        case round =>
          clear hA6 hM5 hEb hbw5 hkk
          obtain ⟨m, m1, m2, hA, hM, hX, hbw⟩ := hrel
          have hbw3 : Below W3.heap.size W3 wr := by rw [HMB.out]; exact hbw
          have hmz : m < z.length := by omega
          obtain ⟨g, q, rfl, d0, d1, d2⟩ := (hz.below hbw3).at hmz
          have hI : I64 z[m].k := by
            have := boundK_pos (k := z[m].k) (by have := bad_iff.1 (HBZ.out _ (List.getElem_mem hmz)); omega)
            unfold I64; omega
          have c0 := HAT.out _ _ hA
          rw [upN_same] at c0
          have f0 := hA.free t
          have e0 : wr.cell? ⟨E, 0, none⟩ = some (.int .i64 K) := hX.cell rfl
          have e1 : wr.cell? ⟨E, 1, none⟩ = some (.int .i64 (t : Int)) := hX.cell rfl
          have e2 : wr.cell? ⟨E, 2, none⟩ = some (.int .i64 oo) := hX.cell rfl
          have hlook := beyond_map hM hI
          have hmatch : matchB z[m] ⟨K, (t : Int), oo⟩ = (evK z[m].k == K && z[m].t == oo) := rfl
          have hlo : m < F → matchB z[m] ⟨K, (t : Int), oo⟩ = false := fun h => HLO.out m hmz m1 h
          have hhi : m = F → matchB z[m] ⟨K, (t : Int), oo⟩ = true := fun h => by subst h; exact HHI.out hmz
          rw [hmatch] at hlo hhi
          generalize z[m] = op at *
          obtain ⟨d0, d1, d2, c0', e0, e1', e2⟩ : (∀ p : Beyond wr, p.to.cell? ⟨g, q + m * 3, none⟩ = some (.int .i64 op.k)) ∧ (∀ p : Beyond wr, p.to.cell? ⟨g, q + m * 3 + 1, none⟩ = some (.int .i64 op.t)) ∧ (∀ p : Beyond wr, p.to.cell? ⟨g, q + m * 3 + 2, none⟩ = some (.int .i64 op.o)) ∧
            (∀ p : Beyond wr, p.to.cell? ⟨A, t, none⟩ = some (.int .i64 (m : Int))) ∧ (∀ p : Beyond wr, p.to.cell? ⟨E, 0, none⟩ = some (.int .i64 K)) ∧ (∀ p : Beyond wr, p.to.cell? ⟨E, 1, none⟩ = some (.int .i64 (t : Int))) ∧ (∀ p : Beyond wr, p.to.cell? ⟨E, 2, none⟩ = some (.int .i64 oo)) :=
            ⟨fun p => p.cell d0, fun p => p.cell d1, fun p => p.cell d2, fun p => p.cell c0, fun p => p.cell e0, fun p => p.cell e1, fun p => p.cell e2⟩
          have g0 : (0 : Int) ≤ m := by omega
          have g1 : (m : Int) < z.length := by omega
          have g2 : decide ((m : Int) < z.length) = true := decide_eq_true g1
          have g3 : decide (m < z.length) = true := decide_eq_true hmz
          have g4 : (m : Int) < 12 := by omega
          have g5 : ((m : Int) == z.length) = false := beq_eq_false_iff_ne.2 (by omega)
          have g6 : (m == z.length) = false := beq_eq_false_iff_ne.2 (by omega)
          have hlz : m < F ∨ m = F := by omega
          have HLZ := Lib.hid hlz
          have HLo := Lib.hid hlo
          have HHi := Lib.hid hhi
          clear hlz hlo hhi hmatch hI c0 f0 e1 hmz
          go_upto_region 14 with fail
          obtain ⟨q1, hq1⟩ : ∃ q1, (evK op.k == K) = q1 := ⟨_, rfl⟩
          obtain ⟨q2, hq2⟩ : ∃ q2, (op.t == oo) = q2 := ⟨_, rfl⟩
          have hq1' : (evK op.k != K) = !q1 := by rw [← hq1]; rfl
          have hq2' : (op.t != oo) = !q2 := by rw [← hq2]; rfl
          rw [hq1, hq2] at HLo HHi
          have hways : (q1 = false ∧ m < F) ∨ (q1 = true ∧ q2 = false ∧ m < F) ∨ (q1 = true ∧ q2 = true ∧ m = F) := by
            rcases HLZ.out with hh | hh
            · have := HLo.out hh
              cases q1
              · exact .inl ⟨rfl, hh⟩
              · cases q2
                · exact .inr (.inl ⟨rfl, rfl, hh⟩)
                · cases this
            · have := HHi.out hh
              cases q1
              · cases this
              · cases q2
                · cases this
                · exact .inr (.inr ⟨rfl, rfl, hh⟩)
          clear HLo HHi HLZ
          have hmw : mb ≤ wr.heap.size := by have := hM.lt; omega
          have HMAT : Hid (mAt wr A t = m) := Lib.hid (by rw [mAt_eq hA ht6, upN_same])
          rcases hways with ⟨e1, hmF⟩ | ⟨e1, e2, hmF⟩ | ⟨e1, e2, hmF⟩
          · subst e1
            simp only [Bool.not_false] at hq1'
            clear hq2 hq2' d1
            have HMF := Lib.hid hmF
            clear hmF
            refine wp_region_beyond (by kernel_rfl) (by kernel_rfl) ?_
            repeat (with_reducible refine wpQuiet_step (fun K hK => ?_); go_simp; (with_reducible refine hK _ ?_); clear hK K)
            with_reducible refine wpQuiet_nil ?_
            rintro _ ⟨p9, rfl⟩
            have hA9 := hA.below p9.below hA.lt
            have hM9 := hM.below p9.below
            have hX9 := hX.below p9.below hX.lt
            have hbw9 := hbw.trans (p9.below.mono hmw)
            clear d0 d2 c0' e0 e1' e2 hlook hA hM hX hbw hbw3 hmw
            generalize p9.to = w9 at *
            have c9 := HAT.out _ _ hA9
            rw [upN_same] at c9
            have f9 := hA9.free t
            have x9 : w9.cell? ⟨E, 1, none⟩ = some (.int .i64 (t : Int)) := hX9.cell rfl
            go_wp2
            go_roundw
            case rel =>
              have := HMF.out
              refine ⟨m + 1, by omega, by omega, (hA9.setCell t (.int .i64 ((m : Int) + 1))).to ?_, hM9.setCell _ _ _ (by omega), hX9.setCell_ne hEA _, hbw9.setCell (by show mb ≤ A; omega) _⟩
              rw [show ((m : Int) + 1) = ((m + 1 : Nat) : Int) by omega, atC_set ht6]
              congr 1; funext i; unfold upN; split <;> rfl
            case measure =>
              have := HMF.out
              rw [HMAT.out, mAt_eq (f := upN rr.at_ t (m + 1)) ((hA9.setCell t (.int .i64 ((m : Int) + 1))).to (by
                rw [show ((m : Int) + 1) = ((m + 1 : Nat) : Int) by omega, atC_set ht6]
                congr 1; funext i; unfold upN; split <;> rfl)) ht6, upN_same]
              omega
          · subst e1 e2
            simp only [Bool.not_false, Bool.not_true] at hq1' hq2'
            have HMF := Lib.hid hmF
            clear hmF
            refine wp_region_beyond (by kernel_rfl) (by kernel_rfl) ?_
            repeat (with_reducible refine wpQuiet_step (fun K hK => ?_); go_simp; (with_reducible refine hK _ ?_); clear hK K)
            with_reducible refine wpQuiet_nil ?_
            rintro _ ⟨p9, rfl⟩
            have hA9 := hA.below p9.below hA.lt
            have hM9 := hM.below p9.below
            have hX9 := hX.below p9.below hX.lt
            have hbw9 := hbw.trans (p9.below.mono hmw)
            clear d0 d1 d2 c0' e0 e1' e2 hlook hA hM hX hbw hbw3 hmw
            generalize p9.to = w9 at *
            have c9 := HAT.out _ _ hA9
            rw [upN_same] at c9
            have f9 := hA9.free t
            have x9 : w9.cell? ⟨E, 1, none⟩ = some (.int .i64 (t : Int)) := hX9.cell rfl
            go_wp2
            go_roundw
            case rel =>
              have := HMF.out
              refine ⟨m + 1, by omega, by omega, (hA9.setCell t (.int .i64 ((m : Int) + 1))).to ?_, hM9.setCell _ _ _ (by omega), hX9.setCell_ne hEA _, hbw9.setCell (by show mb ≤ A; omega) _⟩
              rw [show ((m : Int) + 1) = ((m + 1 : Nat) : Int) by omega, atC_set ht6]
              congr 1; funext i; unfold upN; split <;> rfl
            case measure =>
              have := HMF.out
              rw [HMAT.out, mAt_eq (f := upN rr.at_ t (m + 1)) ((hA9.setCell t (.int .i64 ((m : Int) + 1))).to (by
                rw [show ((m : Int) + 1) = ((m + 1 : Nat) : Int) by omega, atC_set ht6]
                congr 1; funext i; unfold upN; split <;> rfl)) ht6, upN_same]
              omega
          · subst e1 e2
            simp only [Bool.not_true] at hq1' hq2'
            subst hmF
            refine wp_region_beyond (by kernel_rfl) (by kernel_rfl) ?_
            repeat (with_reducible refine wpQuiet_step (fun K hK => ?_); go_simp; (with_reducible refine hK _ ?_); clear hK K)
            with_reducible refine wpQuiet_nil ?_
            rintro _ ⟨p9, rfl⟩
            have hA9 := hA.below p9.below hA.lt
            have hM9 := hM.below p9.below
            have hX9 := hX.below p9.below hX.lt
            have hbw9 := hbw.trans (p9.below.mono hmw)
            clear d0 d1 d2 c0' e0 e1' e2 hlook hA hM hX hbw hbw3 hmw
            generalize p9.to = w9 at *
            have c9 := HAT.out _ _ hA9
            rw [upN_same] at c9
            have f9 := hA9.free t
            have x9 : w9.cell? ⟨E, 1, none⟩ = some (.int .i64 (t : Int)) := hX9.cell rfl
            go_wp2
            go_roundw
            case rel =>
              refine ⟨k + 1, by omega, by go_num, hM9.setCell _ _ _ (by omega), (hA9.setCell t (.int .i64 ((m : Int) + 1))).to ?_, hbw9.setCell (by show mb ≤ A; omega) _⟩
              rw [HRP.out, rstep_at]
              simp only [Int.toNat_natCast]
              rw [HZO.out, HFE.out, show ((m : Int) + 1) = ((m + 1 : Nat) : Int) by omega, atC_set ht6]
              congr 1; funext i; unfold upN; split <;> rfl
            case measure => (simp [intOf]; try omega)
      · obtain rfl : k = L.length := by omega
        have hb9 : Below w.heap.size w wr := hb3.trans (hbw3.mono hb3.size)
        go_wp2
        go_ret
        exact ⟨rfl, hb9⟩
  · have r1 : (errR p l.length == 0) = false := beq_eq_false_iff_ne.2 he
    have r2 : (errR p l.length != 0) = true := by simp [bne, r1]
    generalize errR p l.length = X at *
    clear he
    generalize evR p l = L at *
    go_wp2_with (refine wpList_store_row rfl endT _ _ rfl w2.heap.size Y rfl rfl endT _ ((Has.new w2 (endC PS.zero false false) endT)).out (by rw [HS.out]; rfl) (by rw [HS.out, endC_size]) H1.out ?_
                 generalize hWx : World.setRow _ _ _ = W3
                 have hk3 : Below w2.heap.size w2 W3 := by rw [← hWx]; exact below_setRow ((Below.refl _ _).alloc (Nat.le_refl _) _) (Nat.le_refl _)
                 have hb3 := hb2.trans (hk3.mono hb2.size)
                 clear hWx)
    go_ret
    exact ⟨rfl, hb3⟩

/-! The frame of the law ProgOrder, by program. -/
set_option maxRecDepth 100000 in
theorem progOrder_lifted (os : Os) (started : os.Started) (H : Type) (enc : TypeId × Value → H) :
    ReturnsInHanded {} Try.checked os 4 .any (Rows.progOrderSpec.pre6 enc Try.prog Try.f4 Rows.progOrderRow.domain false) (Rows.progOrderSpec.post enc Try.prog Try.f4 false true false false) := by
  refine returnsInHanded_of_change_shaped (C := Try.checked) frame_own started (by kernel_rfl) Try.func4
    (ChangeSpec.witness6 (enc := enc) (C := Try.checked) false ⟨#[], #[.slice none 0 0, .slice none 0 0], []⟩ 8 (by kernel_rfl) (by kernel_rfl) (by kernel_rfl) (by kernel_rfl)) ?_
  intro W base args ds gs before hval0 hW hcnd hsz hshaped hroom
  clear hcnd hshaped
  have hval : ∀ (j : Nat) t v, Try.f4.params[j]? = some t → args[j]? = some v → Value.okWide Try.prog W .any base t v := hval0
  have hW' := hW
  obtain ⟨p, q, hA0, hV, rfl, hfz, hnd⟩ := hW
  have hA : DataW.TrodAll enc Try.prog W 0 (fun _ => true) true Try.f4.params.toList args.toList ds p := hA0
  rw [Try.params4] at hA hval
  obtain ⟨v0, vs0, d0, ds0, p0, q0, hargs, rfl, rfl, h0, r0⟩ := trodAll_cons hA
  obtain ⟨v1, vs1, d1, ds1, p1, q1, rfl, rfl, rfl, h1, r1⟩ := trodAll_cons r0
  obtain ⟨rfl, rfl, rfl⟩ := trodAll_nil r1
  obtain rfl : args = #[v0, v1] := by cases args; simp_all
  obtain ⟨rfl, rfl⟩ := trodVars_none hV
  have k0 := h0
  have lt0 : ∀ x ∈ p0, x.block < W.heap.size := by obtain ⟨m, hm⟩ := k0; exact DataW.trod_lt m _ _ _ hm
  obtain ⟨a0, z0, c0, rfl, w0⟩ := open_prog (hval 0 22 v0 rfl rfl) h0 (fun n hn => of_decide_eq_true (List.all_eq_true.1 hsz _ (DataW.weights_mem_each (j := 0) rfl rfl n hn)))
  have k1 := h1
  have lt1 : ∀ x ∈ p1, x.block < W.heap.size := by obtain ⟨m, hm⟩ := k1; exact DataW.trod_lt m _ _ _ hm
  obtain ⟨a1, z1, c1, rfl, w1⟩ := open_ints (hval 1 23 v1 rfl rfl) h1 (fun els sp hd => sized_slice hsz (j := 1) rfl (by rw [hd]; rfl) Try.underlying23)
  clear hA0 hval0
  refine (progOrder_walk a0 z0 c0 a1 z1 c1 W w0 w1).mono fun e W' ⟨he, bel⟩ => ?_
  subst he
  exact ⟨_, rfl, _, _, _, [], _, [], hW', trodAll_mk1 (shut_bool Try.underlying4 _), (trodAll_cons_mk (Below.trod frame_laid (by kernel_rfl) (of_decide_eq_true (by kernel_rfl)) k0 bel lt0) (trodAll_cons_mk (Below.trod frame_laid (by kernel_rfl) (of_decide_eq_true (by kernel_rfl)) k1 bel lt1) trodAll_mk0)), rfl, bel.frame _, fun h => by cases h⟩

theorem progOrder_over : Rows.progOrderRow.holds Try.pinned (OpenSpec.ofChange Rows.progOrderSpec) :=
  OpenClaim.holds_of_wide 4 Try.f4 rfl rfl rfl rfl rfl rfl rfl ⟨rfl, rfl, rfl, rfl, rfl⟩ rfl rfl rfl rfl rfl (by kernel_rfl) Try.func4 (by kernel_rfl)
    (of_decide_eq_true (by kernel_rfl)) (by unfold Func.isWrapper; first | (rw [if_pos (by decide +kernel)]; kernel_rfl) | (rw [if_neg (by decide +kernel)]; exact ⟨rfl, rfl⟩))
    (fun os started H enc _ => progOrder_lifted os started H enc)

/-- The statement. -/
theorem progOrder_holds : Rows.ProgOrderSaid := progOrder_over

end Go.Proofs.Ythfeakfakjecoaa

/- TopReplay: an execution is determined by its picks, and by the events that it yields: for every program and every slice of picks. -/
import Derived.Test.YtoohconipcleiaaRows
import Derived.Test.YtoohconipcleiaaMH
import Derived.Test.YtoohconipcleiaaEqE
import Derived.Test.YtoohconipcleiaaMR
import Derived.Test.YtoohconipcleiaaMI
import Derived.Deep.DeepCutAuto
import Derived.StillTailTactics
namespace Go.Proofs.Ytoohconipcleiaa
open Go.ChangeShapes Go.WideShapes Go.ChangeAt Go.RowKit

theorem neq_endR (p : List (List Ev)) (picks : List Int) (w : World) : (binOp .neq endT (.agg (endR p picks)) (.agg (endR p picks))).run Try.prog w = .ok (.bool false) w := by
  have h := eql_endR p picks w
  rw [run_eql_struct] at h
  rw [run_neq_struct]
  generalize (Op.equalIn 10000 endT (.agg (endR p picks)) (.agg (endR p picks))).run Try.prog w = r at *
  cases r with
  | ok b w' =>
    simp only [Result.andThen_ok, Result.ok.injEq, Value.bool.injEq] at h ⊢
    obtain ⟨rfl, rfl⟩ := h
    exact ⟨rfl, rfl⟩
  | halt x w' => simp at h
def mAt (w : World) (A t : Nat) : Nat := match w.cell? ⟨A, t, none⟩ with | some (.int _ n) => n.toNat | _ => 0
theorem mAt_eq {w : World} {A t : Nat} {f : Nat → Nat} {T : TypeId} (h : Has w A (atN f) T) (ht : t < 6) : mAt w A t = f t := by
  unfold mAt
  rw [h.cell (clkC_get _ t ht)]
  rfl
theorem beyond_map {w : World} {b n : Nat} {f : Int → Int} (h : MapI w b n f) {k : Int} (hk : I64 k) : ∀ p : Beyond w, (Instr.lookup 37 (.map (some b)) (.int .i64 k) false).run Try.prog p.to = .ok (.int .i64 (f k)) p.to :=
  fun p => (h.below p.below).look hk

set_option maxRecDepth 100000 in
set_option maxHeartbeats 16000000 in
theorem topReplay_walk (a : Option Addr) (p : List (List Ev)) (c : Nat) (ap : Option Addr) (l : List Int) (cp : Nat) (w : World) (hp : PgS w a p ∧ (p.length ≤ c ∧ p.length * 24 ≤ 140737488351232) ∧ ∀ z ∈ p, ∀ e ∈ z, I64 e.k ∧ I64 e.t ∧ I64 e.o) (hl : IntS w ap l ∧ l.length ≤ cp ∧ l.length * 8 ≤ 140737488351232 ∧ ∀ n ∈ l, I64 n) :
    Calls Try.prog 3 #[.slice a p.length c, .slice ap l.length cp] w fun e w' => e = .returned (.bool true) ∧ Below w.heap.size w w' := by
  have h := hp.1
  have hq := hl.1
  clear hp hl
  have hmm := @run_makeMap Try.prog
  go_enter Try.func3, Try.ntmps3
  go_wp2_with fail
  refine (works_any _).mono ?_
  rintro r w1 ⟨rfl, hb1⟩
  go_wp2_with fail
  refine (run_any p l a ap c cp _ (h.below hb1) (hq.below hb1)).mono ?_
  rintro r w2 ⟨a2, c2, ⟨hc2, _⟩, rfl, hL, hk⟩
  have hb2 := hb1.trans (hk.mono hb1.size)
  have HS := Lib.hid (endR_size p l)
  have H1 := Lib.hid (endR_one p l)
  have HNE := Lib.hid (neq_endR p l)
  have hs2 := hb2.size
  clear hk hb1
  go_wp2_with (refine wpList_store_row rfl endT _ _ rfl w2.heap.size (endR p l) rfl rfl endT _ ((Has.new w2 (endC PS.zero false false) endT)).out (by rw [HS.out]; rfl) (by rw [HS.out, endC_size]) H1.out ?_
               generalize hWx : World.setRow _ _ _ = W3
               have hZ3 : Has W3 w2.heap.size (endR p l) endT := by rw [← hWx]; exact (Has.new w2 (endC PS.zero false false) endT).setRow
               have hk3 : Below w2.heap.size w2 W3 := by rw [← hWx]; exact below_setRow ((Below.refl _ _).alloc (Nat.le_refl _) _) (Nat.le_refl _)
               have hb3 := hb2.trans (hk3.mono hb2.size)
               clear hWx)
  have hL3 := hL.below (hk3.mono (Nat.le_refl _))
  have hs3 := hb3.size
  clear hb2 hk3 hL
  refine (run_any p l a ap c cp _ (h.below hb3) (hq.below hb3)).mono ?_
  rintro r w4 ⟨a4, c4, _, rfl, hM, hk⟩
  have hb4 := hb3.trans (hk.mono hs3)
  have hZ4 := hZ3.below hk hZ3.lt
  have hL4 := hL3.below hk
  clear hk hb3 hZ3 hL3 hs2 hs3
  have hfacts : errR p l.length = 0 → OkP p ∧ OrdR p (evR p l) ∧ (∀ e ∈ evR p l, isEv e = true) ∧ (∀ i, i < 8 → (endR p l)[i]? = some (.int .i64 ((replay p (evR p l)).mem i))) ∧ (∀ i, i < 4 → (endR p l)[8 + i]? = some (.int .i64 ((replay p (evR p l)).vols i))) ∧ (evR p l).length ≤ 100 := by
    intro he
    have hX : chkP p = 0 := by
      unfold errR at he
      by_cases c : chkP p = 0
      · exact c
      · rw [if_neg c] at he; exact absurd he c
    have hO := chkP_ok hX
    have hV : evR p l = (runP p l).2 := by unfold evR; rw [if_pos he]
    obtain ⟨g1, g2⟩ := replay_end he hO
    refine ⟨hO, by rw [hV]; exact runP_order hO l, ?_, g1, g2, ?_⟩
    rotate_left
    · rw [hV]
      have h1 := runP_len p l
      have h2 : l.length ≤ 100 := by
        unfold errR at he
        rw [if_pos hX] at he
        split at he
        · cases he
        · omega
      omega
    rw [hV]
    exact (played_evs (by have := runP_may hO l; rwa [mayB, beq_iff_eq] at this)).2
  have HFC := Lib.hid hfacts
  clear hfacts
  generalize endR p l = Y at *
  generalize evR p l = L at *
  obtain ⟨X, hX⟩ : ∃ X, errR p l.length = X := ⟨_, rfl⟩
  rw [hX] at HFC ⊢
  clear hX
  have hxx : (X != X) = false := by simp
  have hne := HNE.out
  have he1 : eqB L L = true := eqB_iff.2 rfl
  have HE := Lib.hid (fun a a' c c' w h h' => eqEv_any L L a a' c c' w h h')
  rw [he1] at HE
  clear he1 HNE
  by_cases he : X = 0
  · subst he
    obtain ⟨hO, hR, hev, hm8, hv4, h100⟩ := HFC.out rfl
    have HO := Lib.hid hO
    have HR := Lib.hid hR
    have HEV := Lib.hid hev
    have HM8 := Lib.hid hm8
    have HV4 := Lib.hid hv4
    have h6 := hO.six
    clear HFC hO hR hev hm8 hv4 hxx
    have hx0 : ((0 : Int) != 0) = false := rfl
    go_wp2_with (first
      | (refine wpList_store_row rfl endT _ _ rfl w4.heap.size Y rfl rfl endT _ ((Has.new w4 (endC PS.zero false false) endT)).out (by rw [HS.out]; rfl) (by rw [HS.out, endC_size]) H1.out ?_
         generalize hWx : World.setRow _ _ _ = W5
         have hZ5 : Has W5 w4.heap.size Y endT := by rw [← hWx]; exact (Has.new w4 (endC PS.zero false false) endT).setRow
         have hk5 : Below w4.heap.size w4 W5 := by rw [← hWx]; exact below_setRow ((Below.refl _ _).alloc (Nat.le_refl _) _) (Nat.le_refl _)
         have hb5 := hb4.trans (hk5.mono hb4.size)
         have hZ1 := hZ4.below hk5 hZ4.lt
         have hL5 := hL4.below (hk5.mono (Nat.le_refl _))
         have hM5 := hM.below (hk5.mono (Nat.le_refl _))
         clear hWx hk5)
      | (refine wpList_yes rfl (fun K hK => ?_); refine wp_load_row endT _ rfl w2.heap.size rfl endT Y (0, 0) _ hZ1.out Try.underlying29 rfl (by rw [HS.out]; rfl) ?_; refine hK _ _ ?_; clear hK K)
      | (refine wpList_yes rfl (fun K hK => ?_); refine wp_load_row endT _ rfl w4.heap.size rfl endT Y (0, 0) _ hZ5.out Try.underlying29 rfl (by rw [HS.out]; rfl) ?_; refine hK _ _ ?_; clear hK K)
      | (go_at_call 17
         refine (HE.out a2 a4 c2 c4 W5 hL5 hM5).mono ?_
         rintro r w6 ⟨rfl, hk6⟩
         have hb6 := hb5.trans (hk6.mono hb5.size)
         have hL6 := hL5.below hk6
         have hZ6 := hZ1.below hk6 hZ1.lt
         obtain ⟨x1, x2, x3, x4, x5, x6, x7, x8, r1, r2, r3, r4, r5, r6, r7, r8, hM8, hg8⟩ := kinds_fill ((((w6.alloc (.cells (ar8 fun _ => 0) 25)).alloc (.cells (ar4 fun _ => 0) 26)).alloc (.cells (clkC fun _ => 0) 27)).alloc (.cells (clkC fun _ => 0) 27))
         have e4 : ((((w6.alloc (.cells (ar8 fun _ => 0) 25)).alloc (.cells (ar4 fun _ => 0) 26)).alloc (.cells (clkC fun _ => 0) 27)).alloc (.cells (clkC fun _ => 0) 27)).heap.size = w6.heap.size + 1 + 1 + 1 + 1 := by simp
         have hne : ∀ b, b < w6.heap.size + 4 → some b ≠ some (w6.heap.size + 4) := fun b hb e => by have := Option.some.inj e; omega
         have hT0 : TR x8 w6.heap.size (replay p (L.take 0)) := by
           rw [e4] at hM8 hg8
           exact ⟨hM8, ((((((Has.new w6 (ar8 fun _ => 0) 25).alloc _).alloc _).alloc _).alloc _).grown hg8 (hne _ (by omega))).to rfl,
             ((((((Has.new (w6.alloc _) (ar4 fun _ => 0) 26).at (by simp)).alloc _).alloc _).alloc _).grown hg8 (hne (w6.heap.size + 1) (by omega))).to rfl,
             (((((Has.new ((w6.alloc _).alloc _) (clkC fun _ => 0) 27).at (by simp)).alloc _).alloc _).grown hg8 (hne (w6.heap.size + 2) (by omega))).to rfl,
             ((((Has.new (((w6.alloc _).alloc _).alloc _) (clkC fun _ => 0) 27).at (by simp)).alloc _).grown hg8 (hne (w6.heap.size + 3) (by omega))).to rfl⟩
         have hk7 : Below w6.heap.size w6 x8 := ((((((Below.refl _ _).alloc (Nat.le_refl _) _).alloc (by simp) _).alloc (by simp; omega) _).alloc (by simp; omega) _).alloc (by simp; omega) _).grown hg8 (by simp; omega) (by intro k hk; cases hk; simp; omega)
         rw [e4] at r1 r2 r3 r4 r5 r6 r7 r8
         clear hk6 hM8 hg8 hne e4))
    have hs6 := hb6.size
    have hP6 := h.below hb6
    clear r1 r2 r3 r4 r5 r6 r7 r8 hmm hZ4 hL4 hM hb4 hZ5 hb5 hZ1 hL5 hM5 HE
    obtain ⟨M, hMe⟩ : ∃ M, w6.heap.size = M := ⟨_, rfl⟩
    rw [hMe] at hT0 hk7 hs6 ⊢
    rw [show M + 1 + 1 + 1 + 1 = M + 4 from rfl, show M + 1 + 1 + 1 = M + 3 from rfl, show M + 1 + 1 = M + 2 from rfl]
    have HMB := Lib.hid hMe
    clear hMe
    go_loopw [57] (fun i wr => ∃ k : Nat, k ≤ L.length ∧ i = .int .i64 k ∧ TR wr M (replay p (L.take k)) ∧ Below M w6 wr) (fun i _ => L.length - (intOf i).toNat)
    case atStart => exact ⟨0, Nat.zero_le _, rfl, hT0, hk7⟩
    case round =>
      clear hT0 hk7
      obtain ⟨k, hk, rfl, hT, hbw⟩ := hrel
      have hbw3 : Below w6.heap.size w6 wr := by rw [HMB.out]; exact hbw
      by_cases hlt : k < L.length
      · obtain ⟨b, o, rfl, d0, d1, d2⟩ := (hL6.below hbw3).at hlt
        obtain ⟨t0, t1, hF⟩ := HR.out k hlt
        have hE := HEV.out _ (List.getElem_mem hlt)
        have hrp : replay p (L.take (k + 1)) = rstep p (replay p (L.take k)) L[k] := by rw [List.take_succ_eq_append_getElem hlt, replay_snoc]
        have hle := replay_le HR.out k (by omega)
        have hrb := replay_small HO.out HR.out k (by omega)
        have HRP := Lib.hid hrp
        have k0 : (0 : Int) ≤ k := by omega
        have k1 : (k : Int) < L.length := by omega
        have kB : 12000 * (k : Int) ≤ 1200000 := by omega
        clear hrp
        generalize L[k] = x at *
        generalize replay p (L.take k) = rr at *
        obtain ⟨K, t, oo⟩ := x
        simp only at t0 t1 hF d0 d1 d2
        obtain ⟨t, rfl⟩ := Int.eq_ofNat_of_zero_le t0
        rw [Int.toNat_natCast] at hF
        have htl : t < p.length := by omega
        have ht6 : t < 6 := by omega
        have hzo : opsP p t = p[t] := by unfold opsP; rw [List.getD_eq_getElem?_getD, List.getElem?_eq_getElem htl]; rfl
        have hzl := HO.out.len _ (List.getElem_mem htl)
        have hzs := ops_small HO.out t
        have hpl : plen p t = p[t].length := by rw [← opsP_len, hzo]
        obtain ⟨pb, po, a', c', rfl, e0, hz⟩ := hP6.at htl
        have E6 := Lib.hid e0
        replace e0 := (hbw3.cell (World.block_lt_of_cell? w6 _ e0)).trans e0
        rw [hzo, hpl] at hF
        rw [hzo] at hzs
        have hle' := hle t
        rw [hpl] at hle'
        have HZO := Lib.hid hzo
        have HBZ := Lib.hid (HO.out.op _ (List.getElem_mem htl))
        generalize p[t] = z at *
        have hge := findF_ge z ⟨K, (t : Int), oo⟩ (rr.at_ t)
        have hlo : ∀ m (hm : m < z.length), rr.at_ t ≤ m → m < findF z ⟨K, (t : Int), oo⟩ (rr.at_ t) → matchB z[m] ⟨K, (t : Int), oo⟩ = false := fun m hm h1 h2 => findF_lo h1 h2 hm
        have hhi := findF_hi hF
        obtain ⟨F, hFe⟩ : ∃ F, findF z ⟨K, (t : Int), oo⟩ (rr.at_ t) = F := ⟨_, rfl⟩
        have hhi' : ∀ (hm : F < z.length), matchB z[F] ⟨K, (t : Int), oo⟩ = true := by subst hFe; intro _; exact hhi
        clear hhi
        rw [hFe] at hF hge hlo
        have HLO := Lib.hid hlo
        have HHI := Lib.hid hhi'
        have HSTEP : Hid (endW (tmR rr t z (F + 1)) ⟨K, (t : Int), oo⟩ = replay p (L.take (k + 1))) := Lib.hid (by
          rw [HRP.out]
          have := endW_step (p := p) (r := rr) (x := ⟨K, (t : Int), oo⟩) (F := F) (by simp only [Int.toNat_natCast]; rw [hzo]; exact hFe) (by simp only [Int.toNat_natCast]; rw [hzo]; exact hF) (by
            simp only [Int.toNat_natCast]
            simp only [hzo]
            exact match_k3 hE (hhi' hF))
          simp only [Int.toNat_natCast] at this
          rw [hzo] at this
          exact this)
        have HAF := Lib.hid (fun m (h1 : rr.at_ t ≤ m) (h2 : m ≤ z.length) => addsF_le hzs (rr.at_ t) m h1 h2)
        have HRB := Lib.hid hrb
        clear hzo hpl hle hlo hhi' hFe hrb HRP
        have n0 : (0 : Int) ≤ t := by omega
        have n6 : (t : Int) < 6 := by omega
        have t2 : decide ((t : Int) ≥ p.length) = false := decide_eq_false (by omega)
        have t3 : decide ((p.length : Int) ≤ t) = false := decide_eq_false (by omega)
        have t4 : decide (p.length ≤ t) = false := decide_eq_false (by omega)
        have t5 : decide ((t : Int) < 0) = false := decide_eq_false (by omega)
        have hEb : Has (wr.alloc (.cells (evC ⟨K, (t : Int), oo⟩) 36)) wr.heap.size (evC ⟨K, (t : Int), oo⟩) 36 := Has.new _ _ _
        have hT5 := hT.below ((Below.refl _ _).alloc (Nat.le_refl _) (.cells (evC ⟨K, (t : Int), oo⟩) 36))
        have hbw5 := hbw.alloc (by have := hT.lt; omega) (.cells (evC ⟨K, (t : Int), oo⟩) 36)
        have hpb : pb < wr.heap.size := World.block_lt_of_cell? wr _ e0
        have e0' : (wr.alloc (.cells #[.int .i64 K, .int .i64 (t : Int), .int .i64 oo] 36)).cell? ⟨pb, po + t, none⟩ = some (.slice a' z.length c') := (((Below.refl wr.heap.size wr).alloc (Nat.le_refl _) _).cell hpb).trans e0
        clear e0
        go_wp2
        clear d0 d1 d2 hpb e0'
        have hEM : M + 4 < wr.heap.size := hT.lt
        have hT6 : TR (wr.alloc (.cells (evC ⟨K, (t : Int), oo⟩) 36)) M (tmR rr t z (rr.at_ t)) := hT5.to (tmR_first rr t z).symm
        generalize hW6 : wr.alloc (.cells #[.int .i64 K, .int .i64 (t : Int), .int .i64 oo] 36) = W6
        replace hW6 : wr.alloc (.cells (evC ⟨K, (t : Int), oo⟩) 36) = W6 := hW6
        rw [hW6] at hEb hT6 hbw5
        generalize hEe : wr.heap.size = E at *
        clear hW6 hT5 hT hbw hbw3 hEe
        go_loopw [19] (fun f w7 => ∃ (m : Nat) (q : Bool), f = .bool q ∧ rr.at_ t ≤ m ∧ m ≤ F + 1 ∧ Hid (q = decide (m = F + 1)) ∧ TR w7 M (tmR rr t z m) ∧ Has w7 E (evC ⟨K, (t : Int), oo⟩) 36 ∧ Below M w6 w7) (fun _ w7 => F + 1 - mAt w7 (M + 3) t)
        case atStart => exact ⟨rr.at_ t, false, rfl, Nat.le_refl _, by omega, Lib.hid (decide_eq_false (by omega)).symm, hT6, hEb, hbw5⟩
        case round =>
          clear hT6 hEb hbw5
          obtain ⟨m, q, rfl, m1, m2, HQ, hT, hX, hbw⟩ := hrel
          have hbw3 : Below w6.heap.size w6 wr := by rw [HMB.out]; exact hbw
          have HMAT : Hid (mAt wr (M + 3) t = m) := Lib.hid (by
            rw [mAt_eq hT.at_ ht6]; exact upN_same _ _ _)
          have e0 := (hbw3.cell (World.block_lt_of_cell? w6 _ E6.out)).trans E6.out
          have c0 : wr.cell? ⟨M + 3, t, none⟩ = some (.int .i64 (m : Int)) := by
            have := hT.at_.cell (clkC_get _ t ht6)
            rw [show (tmR rr t z m).at_ t = m from upN_same _ _ _] at this
            exact this
          have g0 : (0 : Int) ≤ m := by omega
          have g4 : (m : Int) ≤ 12 := by omega
          have hmw : M ≤ wr.heap.size := by have := hT.lt; omega
          obtain ⟨c0', e0'⟩ : (∀ p : Beyond wr, p.to.cell? ⟨M + 3, t, none⟩ = some (.int .i64 (m : Int))) ∧ (∀ p : Beyond wr, p.to.cell? ⟨pb, po + t, none⟩ = some (.slice a' z.length c')) := ⟨fun p => p.cell c0, fun p => p.cell e0⟩
          go_upto_region 20 with fail
          cases q
          · have hmF : m ≤ F := by have := HQ.out; have := of_decide_eq_false this.symm; omega
            have hmz : m < z.length := by omega
            have g1 : (m : Int) < z.length := by omega
            have g2 : decide ((m : Int) < z.length) = true := decide_eq_true g1
            have g3 : decide (m < z.length) = true := decide_eq_true hmz
            obtain ⟨g, qq, rfl, d0, d1, d2⟩ := (hz.below hbw3).at hmz
            have hI : I64 z[m].k := by
              have := boundK_pos (k := z[m].k) (by have := bad_iff.1 (HBZ.out _ (List.getElem_mem hmz)); omega)
              unfold I64; omega
            have hbd := bad_iff.1 (HBZ.out _ (List.getElem_mem hmz))
            have hmo := mostK_le z[m].k
            have hadd := tmR_add (r := rr) (t := t) m1 hmz
            have hmatch : matchB z[m] ⟨K, (t : Int), oo⟩ = (evK z[m].k == K && z[m].t == oo) := rfl
            have hlo : m < F → matchB z[m] ⟨K, (t : Int), oo⟩ = false := fun h => HLO.out m hmz m1 h
            have hhi : m = F → matchB z[m] ⟨K, (t : Int), oo⟩ = true := fun h => by subst h; exact HHI.out hmz
            have hk3 : m = F → z[m].k ≠ 3 := fun h => match_k3 hE (hhi h)
            rw [hmatch] at hlo hhi
            generalize z[m] = op at *
            refine wp_region_beyond (by kernel_rfl) (by kernel_rfl) ?_
            repeat (with_reducible refine wpQuiet_step (fun K hK => ?_); go_simp; (with_reducible refine hK _ ?_); clear hK K)
            with_reducible refine wpQuiet_nil ?_
            rintro _ ⟨p9, rfl⟩
            have hT9 := hT.below p9.below
            have hX9 := hX.below p9.below hX.lt
            have hbw9 := hbw.trans (p9.below.mono hmw)
            replace c0 := p9.cell c0
            replace e0 := p9.cell e0
            replace d0 := p9.cell d0
            replace d1 := p9.cell d1
            replace d2 := p9.cell d2
            have HMW9 := Lib.hid (show M ≤ p9.to.heap.size by have := p9.below.size; omega)
            have HMT : Hid (F + 1 - mAt wr (M + 3) t = F + 1 - m) := Lib.hid (by rw [HMAT.out])
            clear c0' e0' hT hX hbw hbw3 hmw HMAT
            generalize p9.to = w9 at *
            have l1 : M + 3 < w9.heap.size := hT9.at_.lt
            have l2 : pb < w9.heap.size := World.block_lt_of_cell? w9 _ e0
            have l3 : g < w9.heap.size := World.block_lt_of_cell? w9 _ d0
            go_upto_region 21 with fail
            go_region
            have hN10 := (Has.new w9 (evC op) 40).drew
            have hT10 := (hT9.below ((Below.refl _ _).alloc (Nat.le_refl _) (.cells (evC op) 40))).below (Below.refl _ _).drew
            have hX10 := (hX9.alloc (.cells (evC op) 40)).drew
            have hb10 := (hbw9.alloc HMW9.out (.cells (evC op) 40)).drew
            have hl9 := HMW9.out
            clear c0 e0 d0 d1 d2 l1 l2 l3 hT9 hX9 hbw9 HMW9
            go_upto_region 22 with fail
            generalize (w9.alloc (.cells (evC op) 40)).drew = w10 at *
            generalize w9.heap.size = Bx at *
            have hlook := hT10.map.look hI
            obtain ⟨y0, y1, y2⟩ : w10.cell? ⟨Bx, 0, none⟩ = some (.int .i64 op.k) ∧ w10.cell? ⟨Bx, 1, none⟩ = some (.int .i64 op.t) ∧ w10.cell? ⟨Bx, 2, none⟩ = some (.int .i64 op.o) := ⟨hN10.cell rfl, hN10.cell rfl, hN10.cell rfl⟩
            obtain ⟨x0, x2⟩ : w10.cell? ⟨E, 0, none⟩ = some (.int .i64 K) ∧ w10.cell? ⟨E, 2, none⟩ = some (.int .i64 oo) := ⟨hX10.cell rfl, hX10.cell rfl⟩
            have cA : w10.cell? ⟨M + 3, t, none⟩ = some (.int .i64 (m : Int)) := by
              have := hT10.at_.cell (clkC_get _ t ht6)
              rw [show (tmR rr t z m).at_ t = m from upN_same _ _ _] at this
              exact this
            have fA := hT10.at_.free t
            have HAD := Lib.hid hadd
            have HMAT : Hid (F + 1 - mAt wr (M + 3) t = F + 1 - m) := HMT
            clear hadd hmatch
            by_cases k3 : op.k = 3
            · have hmF2 : m < F := by
                by_cases e : m = F
                · exact absurd k3 (hk3 e)
                · omega
              have hK0 : (evK op.k == K) = false := by
                rw [k3]
                obtain ⟨_, _, h3, h4⟩ := isEv_iff.1 hE
                refine beq_eq_false_iff_ne.2 fun e => ?_
                have e : (0 : Int) = K := e
                subst e
                have h3' : (0 : Int) ≤ oo := h3
                have h4' : oo < manyOf 0 := h4
                rw [show manyOf 0 = 0 from rfl] at h4'
                omega
              have hK1 : (evK op.k != K) = true := by simp only [bne, hK0]; rfl
              have cH := hT10.has.cell (clkC_get (tmR rr t z m).has t ht6)
              have fH := hT10.has.free t
              have hHm : (tmR rr t z m).has t = rr.has t + addsF z (rr.at_ t) m := upZ_same _ _ _
              have hb1 := HRB.out.has t
              have hb2 := HAF.out m m1 (by omega)
              have r3 : (op.k == 3) = true := beq_iff_eq.2 k3
              have HA2 : Hid ({ tmR rr t z m with has := upZ (tmR rr t z m).has t ((tmR rr t z m).has t + op.o), at_ := upN (tmR rr t z m).at_ t (m + 1) } = tmR rr t z (m + 1)) := Lib.hid (by
                have := HAD.out
                rw [if_pos k3] at this
                exact this)
              have hS1 := (hT10.setHas ht6 ((tmR rr t z m).has t + op.o)).below (Below.refl _ _).drew
              have hS2 := (hX10.setCell_ne (a := ⟨M + 2, t, none⟩) (by simp; omega) (.int .i64 ((tmR rr t z m).has t + op.o))).drew
              have hS3 := (hb10.setCell (show M ≤ (⟨M + 2, t, none⟩ : Addr).block by simp) (.int .i64 ((tmR rr t z m).has t + op.o))).drew
              have ho1 := hbd.2.2.1
              have ho2 := hbd.2.2.2
              generalize (tmR rr t z m).has t = Hm at *
              have hv1 : -1300000 ≤ Hm := by omega
              have hv2 : Hm ≤ 1300000 := by omega
              have ho3 : -1000 ≤ op.o := by omega
              have ho4 : op.o ≤ 1000 := by omega
              have HMF := Lib.hid hmF2
              clear hlo hhi hk3 hHm hb1 hb2 ho1 ho2 hbd hmo HAD hX10 hb10 hT10 k3 hmF2
              go_upto_region 24 with fail
              go_still_tail 7, (by kernel_rfl)
              change wpList _ _ _ _ _ w10.drew
              go_upto_region 25 with fail
              clear hlook y0 y1 y2 x0 x2 cA fA cH fH hN10
              generalize (w10.setCell ⟨M + 2, t, none⟩ (.int .i64 (Hm + op.o))).drew = w11 at *
              have cA : w11.cell? ⟨M + 3, t, none⟩ = some (.int .i64 (m : Int)) := by
                have := hS1.at_.cell (clkC_get _ t ht6)
                rw [show ({ tmR rr t z m with has := upZ (tmR rr t z m).has t (Hm + op.o) } : RS).at_ t = m from upN_same _ _ _] at this
                exact this
              have fA := hS1.at_.free t
              go_wp2
              go_roundw
              case rel =>
                have := HMF.out
                refine ⟨m + 1, false, rfl, by omega, by omega, Lib.hid (decide_eq_false (by omega)).symm, ?_, hS2.setCell_ne (a := ⟨M + 3, t, none⟩) (by simp; omega) _, hS3.setCell (show M ≤ (⟨M + 3, t, none⟩ : Addr).block by simp) _⟩
                exact (hS1.setAt ht6 (m + 1)).to HA2.out
              case measure =>
                have := HMF.out
                have hz : mAt (w11.setCell ⟨M + 3, t, none⟩ (.int .i64 ((m : Int) + 1))) (M + 3) t = m + 1 := (mAt_eq ((hS1.setAt ht6 (m + 1)).to HA2.out).at_ ht6).trans (upN_same _ _ _)
                rw [HMAT.out, hz]
                omega
            · have r3 : (op.k == 3) = false := beq_eq_false_iff_ne.2 k3
              have HA2 : Hid ({ tmR rr t z m with at_ := upN (tmR rr t z m).at_ t (m + 1) } = tmR rr t z (m + 1)) := Lib.hid (by
                have := HAD.out
                rw [if_neg k3, Int.add_zero] at this
                rw [← this]
                have e : upZ (tmR rr t z m).has t ((tmR rr t z m).has t) = (tmR rr t z m).has := by funext i; unfold upZ; split <;> simp_all
                rw [e])
              have hlz : m < F ∨ m = F := by omega
              obtain ⟨q1, hq1⟩ : ∃ q1, (evK op.k == K) = q1 := ⟨_, rfl⟩
              obtain ⟨q2, hq2⟩ : ∃ q2, (op.t == oo) = q2 := ⟨_, rfl⟩
              rw [hq1, hq2] at hlo hhi
              have hways : (q1 = false ∧ m < F) ∨ (q1 = true ∧ q2 = false ∧ m < F) ∨ (q1 = true ∧ q2 = true ∧ m = F) := by
                rcases hlz with hh | hh
                · have := hlo hh
                  cases q1
                  · exact .inl ⟨rfl, hh⟩
                  · cases q2
                    · exact .inr (.inl ⟨rfl, rfl, hh⟩)
                    · cases this
                · have := hhi hh
                  cases q1
                  · cases this
                  · cases q2
                    · cases this
                    · exact .inr (.inr ⟨rfl, rfl, hh⟩)
              clear hlo hhi hk3 hbd hmo HAD hlz k3
              rcases hways with ⟨e1, hmF2⟩ | ⟨e1, e2, hmF2⟩ | ⟨e1, e2, hmF2⟩
              · subst e1; clear hq2
                have HMF := Lib.hid hmF2
                clear hmF2
                go_wp2
                go_roundw
                case rel =>
                  have := HMF.out
                  refine ⟨m + 1, false, rfl, by omega, by omega, Lib.hid (decide_eq_false (by omega)).symm, (hT10.setAt ht6 (m + 1)).to HA2.out, hX10.setCell_ne (a := ⟨M + 3, t, none⟩) (by simp; omega) _, hb10.setCell (show M ≤ (⟨M + 3, t, none⟩ : Addr).block by simp) _⟩
                case measure =>
                  have := HMF.out
                  have hz : mAt (w10.setCell ⟨M + 3, t, none⟩ (.int .i64 ((m : Int) + 1))) (M + 3) t = m + 1 := (mAt_eq ((hT10.setAt ht6 (m + 1)).to HA2.out).at_ ht6).trans (upN_same _ _ _)
                  rw [HMAT.out, hz]
                  omega
              · subst e1 e2
                have HMF := Lib.hid hmF2
                clear hmF2
                go_wp2
                go_roundw
                case rel =>
                  have := HMF.out
                  refine ⟨m + 1, false, rfl, by omega, by omega, Lib.hid (decide_eq_false (by omega)).symm, (hT10.setAt ht6 (m + 1)).to HA2.out, hX10.setCell_ne (a := ⟨M + 3, t, none⟩) (by simp; omega) _, hb10.setCell (show M ≤ (⟨M + 3, t, none⟩ : Addr).block by simp) _⟩
                case measure =>
                  have := HMF.out
                  have hz : mAt (w10.setCell ⟨M + 3, t, none⟩ (.int .i64 ((m : Int) + 1))) (M + 3) t = m + 1 := (mAt_eq ((hT10.setAt ht6 (m + 1)).to HA2.out).at_ ht6).trans (upN_same _ _ _)
                  rw [HMAT.out, hz]
                  omega
              · subst e1 e2
                have HMF := Lib.hid hmF2
                clear hmF2
                go_wp2
                go_roundw
                case rel =>
                  have := HMF.out
                  refine ⟨m + 1, true, rfl, by omega, by omega, Lib.hid (decide_eq_true (by omega)).symm, (hT10.setAt ht6 (m + 1)).to HA2.out, hX10.setCell_ne (a := ⟨M + 3, t, none⟩) (by simp; omega) _, hb10.setCell (show M ≤ (⟨M + 3, t, none⟩ : Addr).block by simp) _⟩
                case measure =>
                  have := HMF.out
                  have hz : mAt (w10.setCell ⟨M + 3, t, none⟩ (.int .i64 ((m : Int) + 1))) (M + 3) t = m + 1 := (mAt_eq ((hT10.setAt ht6 (m + 1)).to HA2.out).at_ ht6).trans (upN_same _ _ _)
                  rw [HMAT.out, hz]
                  omega
          · have hm : m = F + 1 := of_decide_eq_true HQ.out.symm
            have hTe : TR wr M (tmR rr t z (F + 1)) := by rw [← hm]; exact hT
            have HST := HSTEP
            obtain ⟨_, _, ho0, hoM⟩ := isEv_iff.1 hE
            simp only at ho0 hoM
            obtain ⟨oq, rfl⟩ := Int.eq_ofNat_of_zero_le ho0
            obtain ⟨gq, g2⟩ : ∃ gq, decide ((m : Int) < z.length) = gq := ⟨_, rfl⟩
            have g3 : decide (m < z.length) = gq := by rw [← g2]; simp
            generalize tmR rr t z (F + 1) = r9 at *
            clear hm m1 m2 hT HMAT HQ HLO HHI HSTEP HAF HRB HBZ E6
            cases gq
            all_goals
              refine wp_region_beyond (by kernel_rfl) (by kernel_rfl) ?_
              repeat (with_reducible refine wpQuiet_step (fun K hK => ?_); go_simp; (with_reducible refine hK _ ?_); clear hK K)
              with_reducible refine wpQuiet_nil ?_
              rintro _ ⟨p9, rfl⟩
              have hT9 := hTe.below p9.below
              have hX9 := hX.below p9.below hX.lt
              have hb9 := hbw.trans (p9.below.mono hmw)
              clear c0' e0' c0 e0 hTe hX hbw hbw3 hmw g0 g2 g3 g4
              generalize p9.to = w9 at *
              have x0 : w9.cell? ⟨E, 0, none⟩ = some (.int .i64 K) := hX9.cell rfl
              have x2 : w9.cell? ⟨E, 2, none⟩ = some (.int .i64 (oq : Int)) := hX9.cell rfl
              have cH := hT9.has.cell (clkC_get r9.has t ht6)
              have fH := hT9.has.free t
              have o0 : (0 : Int) ≤ oq := by omega
              have hKK := manyOf_pos (k := K) (by omega)
              rcases (by omega : K = 1 ∨ K = 2 ∨ K = 7 ∨ K = 8 ∨ (K ≠ 1 ∧ K ≠ 2 ∧ K ≠ 7 ∧ K ≠ 8)) with rfl | rfl | rfl | rfl | ⟨n1, n2, n7, n8⟩
              · have o8 : oq < 8 := by have : manyOf 1 = 8 := rfl; omega
                have o8' : (oq : Int) < 8 := by omega
                have cM := hT9.mem.cell (ar8_get r9.mem o8)
                have HN : Hid ({ r9 with has := upZ r9.has t (r9.mem oq) } = replay p (L.take (k + 1))) := Lib.hid (by rw [← HST.out]; unfold endW; rw [if_pos rfl]; simp only [Int.toNat_natCast])
                have hT11 := (hT9.setHas ht6 (r9.mem oq)).to HN.out
                have hb11 := hb9.setCell (show M ≤ (⟨M + 2, t, none⟩ : Addr).block by simp) (.int .i64 (r9.mem oq))
                clear hKK hoM HN hT9 hb9 hX9
                go_wp2
                go_roundw
                case rel => exact ⟨k + 1, by omega, by go_num, hT11, hb11⟩
                case measure => (simp [intOf]; try omega)
              · have o8 : oq < 8 := by have : manyOf 2 = 8 := rfl; omega
                have o8' : (oq : Int) < 8 := by omega
                have cM := hT9.mem.cell (ar8_get r9.mem o8)
                have fM := hT9.mem.free oq
                have HN : Hid ({ r9 with mem := upZ r9.mem oq (r9.has t) } = replay p (L.take (k + 1))) := Lib.hid (by rw [← HST.out]; unfold endW; rw [if_neg (show ¬ (2 : Int) = 1 by decide), if_pos rfl]; simp only [Int.toNat_natCast])
                have hT11 := ((hT9.setMem o8 (r9.has t)).to HN.out).below (Below.refl _ _).drew
                have hb11 := (hb9.setCell (show M ≤ (⟨M, oq, none⟩ : Addr).block by simp) (.int .i64 (r9.has t))).drew
                clear hKK hoM HN hT9 hb9 hX9
                go_upto_region 32 with fail
                go_still_tail 6, (by kernel_rfl)
                change wpList _ _ _ _ _ w9.drew
                go_wp2
                go_roundw
                case rel => exact ⟨k + 1, by omega, by go_num, hT11, hb11⟩
                case measure => (simp [intOf]; try omega)
              · have o8 : oq < 4 := by have : manyOf 7 = 4 := rfl; omega
                have o8' : (oq : Int) < 4 := by omega
                have cM := hT9.vols.cell (ar4_get r9.vols o8)
                have HN : Hid ({ r9 with has := upZ r9.has t (r9.vols oq) } = replay p (L.take (k + 1))) := Lib.hid (by rw [← HST.out]; unfold endW; rw [if_neg (show ¬ (7 : Int) = 1 by decide), if_neg (show ¬ (7 : Int) = 2 by decide), if_pos rfl]; simp only [Int.toNat_natCast])
                have hT11 := (hT9.setHas ht6 (r9.vols oq)).to HN.out
                have hb11 := hb9.setCell (show M ≤ (⟨M + 2, t, none⟩ : Addr).block by simp) (.int .i64 (r9.vols oq))
                clear hKK hoM HN hT9 hb9 hX9
                go_wp2
                go_roundw
                case rel => exact ⟨k + 1, by omega, by go_num, hT11, hb11⟩
                case measure => (simp [intOf]; try omega)
              · have o8 : oq < 4 := by have : manyOf 8 = 4 := rfl; omega
                have o8' : (oq : Int) < 4 := by omega
                have cM := hT9.vols.cell (ar4_get r9.vols o8)
                have fM := hT9.vols.free oq
                have HN : Hid ({ r9 with vols := upZ r9.vols oq (r9.has t) } = replay p (L.take (k + 1))) := Lib.hid (by rw [← HST.out]; unfold endW; rw [if_neg (show ¬ (8 : Int) = 1 by decide), if_neg (show ¬ (8 : Int) = 2 by decide), if_neg (show ¬ (8 : Int) = 7 by decide), if_pos rfl]; simp only [Int.toNat_natCast])
                have hT11 := ((hT9.setVols o8 (r9.has t)).to HN.out).below (Below.refl _ _).drew
                have hb11 := (hb9.setCell (show M ≤ (⟨M + 1, oq, none⟩ : Addr).block by simp) (.int .i64 (r9.has t))).drew
                clear hKK hoM HN hT9 hb9 hX9
                go_upto_region 36 with fail
                go_still_tail 6, (by kernel_rfl)
                change wpList _ _ _ _ _ w9.drew
                go_wp2
                go_roundw
                case rel => exact ⟨k + 1, by omega, by go_num, hT11, hb11⟩
                case measure => (simp [intOf]; try omega)
              · have r1 : (K == 1) = false := beq_eq_false_iff_ne.2 n1
                have r2 : (K == 2) = false := beq_eq_false_iff_ne.2 n2
                have r7 : (K == 7) = false := beq_eq_false_iff_ne.2 n7
                have r8 : (K == 8) = false := beq_eq_false_iff_ne.2 n8
                have HN : Hid (r9 = replay p (L.take (k + 1))) := Lib.hid (by rw [← HST.out]; unfold endW; rw [if_neg n1, if_neg n2, if_neg n7, if_neg n8])
                have hT11 := hT9.to HN.out
                clear hKK hoM HN hT9 hX9 n1 n2 n7 n8
                go_wp2
                go_roundw
                case rel => exact ⟨k + 1, by omega, by go_num, hT11, hb9⟩
                case measure => (simp [intOf]; try omega)
      · obtain rfl : k = L.length := by omega
        rw [List.take_length] at hT
        have hrb := replay_small HO.out HR.out L.length (Nat.le_refl _)
        rw [List.take_length] at hrb
        have HEQ8 := Lib.hid (eql_ar8 (f := (replay p L).mem) (fun i _ => by have := hrb.mem i; unfold I64; omega))
        have HEQ4 := Lib.hid (eql_ar4 (f := (replay p L).vols) (fun i _ => by have := hrb.vols i; unfold I64; omega))
        have hZ9 := hZ6.below hbw3 hZ6.lt
        have hb9 := hb6.trans (hbw3.mono hb6.size)
        have hMm := HM8.out
        have hVv := HV4.out
        have hE8 := HEQ8.out
        have hE4 := HEQ4.out
        clear hrb HEQ8 HEQ4 hZ6 hbw hbw3 hL6 hP6
        have hTm := hT.mem
        have hTv := hT.vols
        clear hT
        generalize (replay p L).mem = fm at *
        generalize (replay p L).vols = fv at *
        have y0 : wr.cell? ⟨w2.heap.size, 0, none⟩ = some (.int .i64 (fm 0)) := hZ9.cell (hMm 0 (by omega))
        have y1 : wr.cell? ⟨w2.heap.size, 1, none⟩ = some (.int .i64 (fm 1)) := hZ9.cell (hMm 1 (by omega))
        have y2 : wr.cell? ⟨w2.heap.size, 2, none⟩ = some (.int .i64 (fm 2)) := hZ9.cell (hMm 2 (by omega))
        have y3 : wr.cell? ⟨w2.heap.size, 3, none⟩ = some (.int .i64 (fm 3)) := hZ9.cell (hMm 3 (by omega))
        have y4 : wr.cell? ⟨w2.heap.size, 4, none⟩ = some (.int .i64 (fm 4)) := hZ9.cell (hMm 4 (by omega))
        have y5 : wr.cell? ⟨w2.heap.size, 5, none⟩ = some (.int .i64 (fm 5)) := hZ9.cell (hMm 5 (by omega))
        have y6 : wr.cell? ⟨w2.heap.size, 6, none⟩ = some (.int .i64 (fm 6)) := hZ9.cell (hMm 6 (by omega))
        have y7 : wr.cell? ⟨w2.heap.size, 7, none⟩ = some (.int .i64 (fm 7)) := hZ9.cell (hMm 7 (by omega))
        have v0 : wr.cell? ⟨w2.heap.size, 8, none⟩ = some (.int .i64 (fv 0)) := hZ9.cell (hVv 0 (by omega))
        have v1 : wr.cell? ⟨w2.heap.size, 9, none⟩ = some (.int .i64 (fv 1)) := hZ9.cell (hVv 1 (by omega))
        have v2 : wr.cell? ⟨w2.heap.size, 10, none⟩ = some (.int .i64 (fv 2)) := hZ9.cell (hVv 2 (by omega))
        have v3 : wr.cell? ⟨w2.heap.size, 11, none⟩ = some (.int .i64 (fv 3)) := hZ9.cell (hVv 3 (by omega))
        have z0 : wr.cell? ⟨M, 0, none⟩ = some (.int .i64 (fm 0)) := hTm.cell rfl
        have z1 : wr.cell? ⟨M, 1, none⟩ = some (.int .i64 (fm 1)) := hTm.cell rfl
        have z2 : wr.cell? ⟨M, 2, none⟩ = some (.int .i64 (fm 2)) := hTm.cell rfl
        have z3 : wr.cell? ⟨M, 3, none⟩ = some (.int .i64 (fm 3)) := hTm.cell rfl
        have z4 : wr.cell? ⟨M, 4, none⟩ = some (.int .i64 (fm 4)) := hTm.cell rfl
        have z5 : wr.cell? ⟨M, 5, none⟩ = some (.int .i64 (fm 5)) := hTm.cell rfl
        have z6 : wr.cell? ⟨M, 6, none⟩ = some (.int .i64 (fm 6)) := hTm.cell rfl
        have z7 : wr.cell? ⟨M, 7, none⟩ = some (.int .i64 (fm 7)) := hTm.cell rfl
        have q0 : wr.cell? ⟨M + 1, 0, none⟩ = some (.int .i64 (fv 0)) := hTv.cell rfl
        have q1 : wr.cell? ⟨M + 1, 1, none⟩ = some (.int .i64 (fv 1)) := hTv.cell rfl
        have q2 : wr.cell? ⟨M + 1, 2, none⟩ = some (.int .i64 (fv 2)) := hTv.cell rfl
        have q3 : wr.cell? ⟨M + 1, 3, none⟩ = some (.int .i64 (fv 3)) := hTv.cell rfl
        clear hMm hVv hTm hTv hZ9
        go_wp2
        go_ret
        exact ⟨rfl, hb9⟩
  · have r1 : (X == 0) = false := beq_eq_false_iff_ne.2 he
    have r2 : (X != 0) = true := by simp [bne, r1]
    clear HFC he
    go_wp2_with (first
      | (refine wpList_store_row rfl endT _ _ rfl w4.heap.size Y rfl rfl endT _ ((Has.new w4 (endC PS.zero false false) endT)).out (by rw [HS.out]; rfl) (by rw [HS.out, endC_size]) H1.out ?_
         generalize hWx : World.setRow _ _ _ = W5
         have hZ5 : Has W5 w4.heap.size Y endT := by rw [← hWx]; exact (Has.new w4 (endC PS.zero false false) endT).setRow
         have hk5 : Below w4.heap.size w4 W5 := by rw [← hWx]; exact below_setRow ((Below.refl _ _).alloc (Nat.le_refl _) _) (Nat.le_refl _)
         have hb5 := hb4.trans (hk5.mono hb4.size)
         have hZ1 := hZ4.below hk5 hZ4.lt
         have hL5 := hL4.below (hk5.mono (Nat.le_refl _))
         have hM5 := hM.below (hk5.mono (Nat.le_refl _))
         clear hWx hk5)
      | (refine wpList_yes rfl (fun K hK => ?_); refine wp_load_row endT _ rfl w2.heap.size rfl endT Y (0, 0) _ hZ1.out Try.underlying29 rfl (by rw [HS.out]; rfl) ?_; refine hK _ _ ?_; clear hK K)
      | (refine wpList_yes rfl (fun K hK => ?_); refine wp_load_row endT _ rfl w4.heap.size rfl endT Y (0, 0) _ hZ5.out Try.underlying29 rfl (by rw [HS.out]; rfl) ?_; refine hK _ _ ?_; clear hK K)
      | (go_at_call 17
         refine (HE.out a2 a4 c2 c4 W5 hL5 hM5).mono ?_
         rintro r w6 ⟨rfl, hk6⟩
         have hb6 := hb5.trans (hk6.mono hb5.size)))
    go_ret
    exact ⟨rfl, hb6⟩

/-! The frame of the law TopReplay, by program. -/
set_option maxRecDepth 100000 in
theorem topReplay_lifted (os : Os) (started : os.Started) (H : Type) (enc : TypeId × Value → H) :
    ReturnsInHanded {} Try.checked os 3 .any (Rows.topReplaySpec.pre6 enc Try.prog Try.f3 Rows.topReplayRow.domain false) (Rows.topReplaySpec.post enc Try.prog Try.f3 false true false false) := by
  refine returnsInHanded_of_change_shaped (C := Try.checked) frame_own started (by kernel_rfl) Try.func3
    (ChangeSpec.witness6 (enc := enc) (C := Try.checked) false ⟨#[], #[.slice none 0 0, .slice none 0 0], []⟩ 8 (by kernel_rfl) (by kernel_rfl) (by kernel_rfl) (by kernel_rfl)) ?_
  intro W base args ds gs before hval0 hW hcnd hsz hshaped hroom
  clear hcnd hshaped
  have hval : ∀ (j : Nat) t v, Try.f3.params[j]? = some t → args[j]? = some v → Value.okWide Try.prog W .any base t v := hval0
  have hW' := hW
  obtain ⟨p, q, hA0, hV, rfl, hfz, hnd⟩ := hW
  have hA : DataW.TrodAll enc Try.prog W 0 (fun _ => true) true Try.f3.params.toList args.toList ds p := hA0
  rw [Try.params3] at hA hval
  obtain ⟨v0, vs0, d0, ds0, p0, q0, hargs, rfl, rfl, h0, r0⟩ := trodAll_cons hA
  obtain ⟨v1, vs1, d1, ds1, p1, q1, rfl, rfl, rfl, h1, r1⟩ := trodAll_cons r0
  obtain ⟨rfl, rfl, rfl⟩ := trodAll_nil r1
  obtain rfl : args = #[v0, v1] := by cases args; simp_all
  obtain ⟨rfl, rfl⟩ := trodVars_none hV
  have k0 := h0
  have lt0 : ∀ x ∈ p0, x.block < W.heap.size := by obtain ⟨m, hm⟩ := k0; exact DataW.trod_lt m _ _ _ hm
  obtain ⟨a0, z0, c0, rfl, w0⟩ := open_prog (hval 0 22 v0 rfl rfl) h0 (fun n hn => of_decide_eq_true (List.all_eq_true.1 hsz _ (DataW.weights_mem_each (j := 0) rfl rfl n hn)))
  have k1 := h1
  have lt1 : ∀ x ∈ p1, x.block < W.heap.size := by obtain ⟨m, hm⟩ := k1; exact DataW.trod_lt m _ _ _ hm
  obtain ⟨a1, z1, c1, rfl, w1⟩ := open_ints (hval 1 23 v1 rfl rfl) h1 (fun els sp hd => sized_slice hsz (j := 1) rfl (by rw [hd]; rfl) Try.underlying23)
  clear hA0 hval0
  refine (topReplay_walk a0 z0 c0 a1 z1 c1 W w0 w1).mono fun e W' ⟨he, bel⟩ => ?_
  subst he
  exact ⟨_, rfl, _, _, _, [], _, [], hW', trodAll_mk1 (shut_bool Try.underlying4 _), (trodAll_cons_mk (Below.trod frame_laid (by kernel_rfl) (of_decide_eq_true (by kernel_rfl)) k0 bel lt0) (trodAll_cons_mk (Below.trod frame_laid (by kernel_rfl) (of_decide_eq_true (by kernel_rfl)) k1 bel lt1) trodAll_mk0)), rfl, bel.frame _, fun h => by cases h⟩

theorem topReplay_over : Rows.topReplayRow.holds Try.pinned (OpenSpec.ofChange Rows.topReplaySpec) :=
  OpenClaim.holds_of_wide 3 Try.f3 rfl rfl rfl rfl rfl rfl rfl ⟨rfl, rfl, rfl, rfl, rfl⟩ rfl rfl rfl rfl rfl (by kernel_rfl) Try.func3 (by kernel_rfl)
    (of_decide_eq_true (by kernel_rfl)) (by unfold Func.isWrapper; first | (rw [if_pos (by decide +kernel)]; kernel_rfl) | (rw [if_neg (by decide +kernel)]; exact ⟨rfl, rfl⟩))
    (fun os started H enc _ => topReplay_lifted os started H enc)

/-- The statement. -/
theorem topReplay_holds : Rows.TopReplaySaid := topReplay_over

end Go.Proofs.Ytoohconipcleiaa

/- RingRank: there are ranks exactly if there is no ring, and each pair leads to a higher rank. -/
import Derived.Test.YtjpopjjjnaapnaaRows
import Derived.Test.YtjpopjjjnaapnaaRgR
import Derived.Test.YtjpopjjjnaapnaaRgE
import Derived.Test.YtjpopjjjnaapnaaOpenP
namespace Go.Proofs.Ytjpopjjjnaapnaa
open Go.ChangeShapes Go.WideShapes Go.ChangeAt Go.RowKit

theorem ringOf_n (p : List (Int × Int)) (n : Nat) (hn : p.length = n) (a : Option Addr) (c : Nat) (w : World) (h : PrS w a p) (hp : okPr p) :
    Calls Try.prog 17 #[.slice a n c] w (RingPost (ringP (edgeP p)) w) := by
  subst hn; exact ringOf_ok p a c w h hp
theorem rank_n (p : List (Int × Int)) (n : Nat) (hn : p.length = n) (a : Option Addr) (c : Nat) (w : World) (h : PrS w a p) (hp : okPr p) :
    Calls Try.prog 21 #[.slice a n c] w (RankPost (edgeP p) w) := by
  subst hn; exact rank_ok p a c w h hp
/-- Has rank k its reason among the pairs? -/
def isF (o : Nat → Int) (k : Nat) (p : List (Int × Int)) : Bool := decide (o k = 0) || p.any fun x => decide (x.2 = (k : Int)) && decide (o x.1.toNat = o k - 1)
theorem isF_snoc (o : Nat → Int) (k : Nat) (p : List (Int × Int)) (x : Int × Int) : isF o k (p ++ [x]) = (isF o k p || (decide (x.2 = (k : Int)) && decide (o x.1.toNat = o k - 1))) := by
  simp [isF, Bool.or_assoc]
theorem isF_rank {p : List (Int × Int)} (h : ringP (edgeP p) = []) {k : Nat} (hk : k < 5) : isF (rankR (edgeP p) 5) k p = true := by
  rcases rank_of h hk with h1 | ⟨a, ha, hE, h2⟩
  · simp [isF, h1]
  · simp only [edgeP, hasB, decide_eq_true_eq] at hE
    unfold isF
    rw [Bool.or_eq_true, List.any_eq_true]
    exact .inr ⟨_, hE, by simp [h2]⟩
set_option maxRecDepth 100000 in
set_option maxHeartbeats 8000000 in
theorem ringRank_walk (a : Option Addr) (z : List (Int × Int)) (c : Nat) (w : World) (h : PrS w a z ∧ z.length * 16 ≤ 140737488351232) :
    Calls Try.prog 5 #[.slice a z.length c] w fun e w' => e = .returned (.bool true) ∧ Below w.heap.size w w' := by
  obtain ⟨h1, h2⟩ := h
  have hbig := h1.big
  go_enter Try.func5, Try.ntmps5
  go_wp2_with fail
  refine (ringed_any _).mono ?_
  rintro r w1 ⟨rfl, hb⟩
  go_wp2_with fail
  refine (locks_any z _ c _ (h1.below hb) h2).mono ?_
  rintro r w2 ⟨a2, c2, rfl, hP, hc2, hk⟩
  replace hb := hb.trans (hk.mono hb.size)
  clear hk h1
  have hl : (z.map lockP).length = z.length := List.length_map _
  have hok := lockP_ok z
  generalize z.map lockP = p at *
  have HL := Lib.hid hl
  have HO := Lib.hid hok
  have HUP := Lib.hid (fun (h : ringP (edgeP p) = []) (x : Int × Int) (hx : x ∈ p) => show rankR (edgeP p) 5 x.1.toNat < rankR (edgeP p) 5 x.2.toNat by
    obtain ⟨g1, g2, g3, g4⟩ := hok x hx
    exact rank_up h (by omega) (by omega) (by
      simp only [edgeP, hasB, decide_eq_true_eq]
      rw [Int.toNat_of_nonneg g1, Int.toNat_of_nonneg g3]
      exact hx))
  have HIS := Lib.hid (fun (h : ringP (edgeP p) = []) (k : Nat) (hk : k < 5) => isF_rank h hk)
  have HU := Lib.hid (uptoR_rank (edgeP p) 5)
  clear hl hok
  go_wp2_with fail
  refine (ringOf_n p z.length HL.out _ _ _ hP HO.out).mono ?_
  rintro r w4 ⟨a4, c4, rfl, hI4, hk⟩
  replace hb := hb.trans (hk.mono hb.size)
  have hP2 := hP.below hk
  clear hk hP
  go_wp2_with fail
  refine (rank_n p z.length HL.out _ _ _ hP2 HO.out).mono ?_
  rintro r w5 ⟨hk, hpost⟩
  replace hb := hb.trans (hk.mono hb.size)
  replace hP2 := hP2.below hk
  clear hk hI4
  rcases hpost with ⟨hne, rfl⟩ | ⟨he, g, rfl, hO⟩
  · have t1 : 0 < (ringP (edgeP p)).length := List.length_pos_iff.2 hne
    generalize (ringP (edgeP p)).length = y at *
    clear hne HUP HIS HU
    go_wp2
    go_ret
    exact ⟨rfl, hb⟩
  · have HU1 := Lib.hid (HUP.out he)
    have HI1 := Lib.hid (HIS.out he)
    have hl0 : (ringP (edgeP p)).length = 0 := by rw [he]; rfl
    generalize (ringP (edgeP p)).length = y at *
    subst hl0
    clear he HUP HIS
    generalize rankR (edgeP p) 5 = o at *
    go_wp2
    have hI : Below w5.heap.size w5 w5 := Below.refl _ _
    go_loopw [55] (fun i wr => ∃ k : Nat, k ≤ z.length ∧ i = .int .i64 k ∧ Below w5.heap.size w5 wr) (fun i _ => z.length - (intOf i).toNat)
    case atStart => exact ⟨0, Nat.zero_le _, rfl, hI⟩
    case round =>
      clear hI
      obtain ⟨k, hk, rfl, hk5⟩ := hrel
      by_cases hlt : k < z.length
      · have hlp : k < p.length := by rw [HL.out]; exact hlt
        obtain ⟨b, f, rfl, d0, d1⟩ := (hP2.below hk5).at hlp
        have hup := HU1.out _ (List.getElem_mem hlp)
        obtain ⟨g1, g2, g3, g4⟩ := HO.out _ (List.getElem_mem hlp)
        have hO2 := hO.below hk5 hO.lt
        generalize p[k] = x at *
        obtain ⟨A, B⟩ := x
        simp only at d0 d1 hup g1 g2 g3 g4
        obtain ⟨A, rfl⟩ := Int.eq_ofNat_of_zero_le g1
        obtain ⟨B, rfl⟩ := Int.eq_ofNat_of_zero_le g3
        rw [Int.toNat_natCast, Int.toNat_natCast] at hup
        have hX := Has.new wr (prC ((A : Int), (B : Int))) 31
        have hO3 := hO2.alloc (.cells (prC ((A : Int), (B : Int))) 31)
        have hb3 := hk5.alloc hk5.size (.cells (prC ((A : Int), (B : Int))) 31)
        clear hO2
        go_upto_region 13 with fail
        clear d0 d1
        generalize wr.alloc (.cells (prC ((A : Int), (B : Int))) 31) = w6 at *
        obtain ⟨x0, x1⟩ : w6.cell? ⟨wr.heap.size, 0, none⟩ = some (.int .i64 (A : Int)) ∧ w6.cell? ⟨wr.heap.size, 1, none⟩ = some (.int .i64 (B : Int)) := ⟨hX.cell rfl, hX.cell rfl⟩
        have ca := hO3.cell (rowI_get 5 o (k := A) (by omega))
        have cb := hO3.cell (rowI_get 5 o (k := B) (by omega))
        generalize o A = u at *
        generalize o B = v at *
        have hd : decide (u ≥ v) = false := decide_eq_false (by omega)
        go_region
        all_goals
          clear x0 x1 ca cb hX hO3
          go_wp2
          go_roundw
          case rel => exact ⟨k + 1, by omega, by go_num, hb3.drew⟩
          case measure => (simp [intOf]; try omega)
      · obtain rfl : k = z.length := by omega
        have hO2 := hO.below hk5 hO.lt
        replace hP2 := hP2.below hk5
        have hb2 := hb.trans (hk5.mono hb.size)
        have HP2 := Lib.hid hP2
        clear hk5 hO hb hP2
        have hI := Below.refl wr.heap.size wr
        generalize wr = w7 at *
        go_wp2
        go_loopw [73] (fun i wr => ∃ k : Nat, k ≤ 5 ∧ i = .int .i64 k ∧ Below w7.heap.size w7 wr) (fun i _ => 5 - (intOf i).toNat)
        case atStart => exact ⟨0, Nat.zero_le _, rfl, hI⟩
        case round =>
          clear hI
          obtain ⟨k, hk, rfl, hk7⟩ := hrel
          by_cases hlt : k < 5
          · have hkd : decide ((k : Int) < 5) = true := decide_eq_true (by omega)
            have hO3 := hO2.below hk7 hO2.lt
            have ck := hO3.cell (rowI_get 5 o hlt)
            have HIK := Lib.hid (HI1.out k hlt)
            obtain ⟨u0, u1⟩ := HU.out k hlt
            have hwu := IntWalk.i64_in (o k - 1) (by omega)
            obtain ⟨N, hN⟩ : ∃ N, o k = N := ⟨_, rfl⟩
            rw [hN] at ck u0 u1 hwu
            have HN := Lib.hid hN
            obtain ⟨q0, hq0⟩ : ∃ q, (N == (0 : Int)) = q := ⟨_, rfl⟩
            have HS := Lib.hid (show isF o k (p.take 0) = q0 by rw [List.take_zero, ← hq0, ← hN, Bool.eq_iff_iff]; simp [isF])
            clear hN
            go_upto_region 21 with fail
            clear ck
            clear hq0
            go_loopw [82, 11] (fun i q wr => ∃ j : Nat, j ≤ z.length ∧ i = .int .i64 j ∧ q = .bool (isF o k (p.take j)) ∧ Below w7.heap.size w7 wr) (fun i _ _ => z.length - (intOf i).toNat)
            case atStart => exact ⟨0, Nat.zero_le _, rfl, by rw [HS.out], hk7⟩
            case round =>
              clear hk7 HS hO3
              obtain ⟨j, hj, rfl, rfl, hj7⟩ := hrel
              by_cases hjl : j < z.length
              · have hlp : j < p.length := by rw [HL.out]; exact hjl
                obtain ⟨b, f, rfl, d0, d1⟩ := (HP2.out.below hj7).at hlp
                obtain ⟨g1, g2, g3, g4⟩ := HO.out _ (List.getElem_mem hlp)
                have hO4 := hO2.below hj7 hO2.lt
                have hx := isF_snoc o k (p.take j) p[j]
                rw [show p.take j ++ [p[j]] = p.take (j + 1) by rw [List.take_add_one, List.getElem?_eq_getElem hlp]; rfl] at hx
                generalize p[j] = x at *
                obtain ⟨A, B⟩ := x
                simp only at d0 d1 g1 g2 g3 g4 hx
                obtain ⟨A, rfl⟩ := Int.eq_ofNat_of_zero_le g1
                obtain ⟨B, rfl⟩ := Int.eq_ofNat_of_zero_le g3
                rw [Int.toNat_natCast] at hx
                have hX := Has.new wr (prC ((A : Int), (B : Int))) 31
                have hO5 := hO4.alloc (.cells (prC ((A : Int), (B : Int))) 31)
                have hb3 := hj7.alloc hj7.size (.cells (prC ((A : Int), (B : Int))) 31)
                clear hO4
                have HX := Lib.hid hx
                clear hx
                generalize isF o k (p.take j) = q1 at *
                go_upto_region 23 with fail
                clear d0 d1
                generalize wr.alloc (.cells (prC ((A : Int), (B : Int))) 31) = w6 at *
                obtain ⟨x0, x1⟩ : w6.cell? ⟨wr.heap.size, 0, none⟩ = some (.int .i64 (A : Int)) ∧ w6.cell? ⟨wr.heap.size, 1, none⟩ = some (.int .i64 (B : Int)) := ⟨hX.cell rfl, hX.cell rfl⟩
                have ca := hO5.cell (rowI_get 5 o (k := A) (by omega))
                rw [HN.out] at HX
                obtain ⟨r1, hr1⟩ : ∃ r, ((B : Int) == (k : Int)) = r := ⟨_, rfl⟩
                rw [show decide ((B : Int) = (k : Int)) = r1 by rw [← hr1]; rfl] at HX
                generalize o A = u at *
                obtain ⟨r2, hr2⟩ : ∃ r, (u == N - 1) = r := ⟨_, rfl⟩
                rw [show decide (u = N - 1) = r2 by rw [← hr2]; rfl] at HX
                cases q1
                · cases r1
                  · have HQ := Lib.hid (show isF o k (p.take (j + 1)) = false by rw [HX.out]; rfl)
                    clear HX hr2
                    go_wp2
                    go_roundw
                    case rel => exact ⟨j + 1, by omega, by go_num, by rw [HQ.out], hb3⟩
                    case measure => (simp [intOf]; try omega)
                  · have HQ := Lib.hid (show isF o k (p.take (j + 1)) = r2 by rw [HX.out]; rfl)
                    clear HX
                    go_wp2
                    go_roundw
                    case rel => exact ⟨j + 1, by omega, by go_num, by rw [HQ.out], hb3⟩
                    case measure => (simp [intOf]; try omega)
                · have HQ := Lib.hid (show isF o k (p.take (j + 1)) = true by rw [HX.out]; rfl)
                  clear HX hr2 hr1
                  go_wp2
                  go_roundw
                  case rel => exact ⟨j + 1, by omega, by go_num, by rw [HQ.out], hb3⟩
                  case measure => (simp [intOf]; try omega)
              · obtain rfl : j = z.length := by omega
                have HT := Lib.hid (show isF o k (p.take z.length) = true by rw [← HL.out, List.take_length]; exact HIK.out)
                rw [HT.out]
                go_wp2
                go_roundw
                case rel => exact ⟨k + 1, by omega, by go_num, hj7⟩
                case measure => (simp [intOf]; try omega)
          · obtain rfl : k = 5 := by omega
            go_wp2
            go_ret
            exact ⟨rfl, hb2.trans (hk7.mono hb2.size)⟩
/-! The frame of the law RingRank, by program. -/
set_option maxRecDepth 100000 in
theorem ringRank_lifted (os : Os) (started : os.Started) (H : Type) (enc : TypeId × Value → H) :
    ReturnsInHanded {} Try.checked os 5 .any (Rows.ringRankSpec.pre6 enc Try.prog Try.f5 Rows.ringRankRow.domain false) (Rows.ringRankSpec.post enc Try.prog Try.f5 false true false false) := by
  refine returnsInHanded_of_change_shaped (C := Try.checked) frame_own started (by kernel_rfl) Try.func5
    (ChangeSpec.witness6 (enc := enc) (C := Try.checked) false ⟨#[], #[.slice none 0 0], []⟩ 8 (by kernel_rfl) (by kernel_rfl) (by kernel_rfl) (by kernel_rfl)) ?_
  intro W base args ds gs before hval0 hW hcnd hsz hshaped hroom
  clear hcnd hshaped
  have hval : ∀ (j : Nat) t v, Try.f5.params[j]? = some t → args[j]? = some v → Value.okWide Try.prog W .any base t v := hval0
  have hW' := hW
  obtain ⟨p, q, hA0, hV, rfl, hfz, hnd⟩ := hW
  have hA : DataW.TrodAll enc Try.prog W 0 (fun _ => true) true Try.f5.params.toList args.toList ds p := hA0
  rw [Try.params5] at hA hval
  obtain ⟨v0, vs0, d0, ds0, p0, q0, hargs, rfl, rfl, h0, r0⟩ := trodAll_cons hA
  obtain ⟨rfl, rfl, rfl⟩ := trodAll_nil r0
  obtain rfl : args = #[v0] := by cases args; simp_all
  obtain ⟨rfl, rfl⟩ := trodVars_none hV
  have k0 := h0
  have lt0 : ∀ x ∈ p0, x.block < W.heap.size := by obtain ⟨m, hm⟩ := k0; exact DataW.trod_lt m _ _ _ hm
  obtain ⟨a0, z0, c0, rfl, w0⟩ := open_prs (hval 0 22 v0 rfl rfl) h0 (fun els sp hd => sized_slice hsz (j := 0) rfl (by rw [hd]; rfl) Try.underlying22)
  clear hA0 hval0
  refine (ringRank_walk a0 z0 c0 W w0).mono fun e W' ⟨he, bel⟩ => ?_
  subst he
  exact ⟨_, rfl, _, _, _, [], _, [], hW', trodAll_mk1 (shut_bool Try.underlying4 _), (trodAll_cons_mk (Below.trod frame_laid (by kernel_rfl) (of_decide_eq_true (by kernel_rfl)) k0 bel lt0) trodAll_mk0), rfl, bel.frame _, fun h => by cases h⟩

theorem ringRank_over : Rows.ringRankRow.holds Try.pinned (OpenSpec.ofChange Rows.ringRankSpec) :=
  OpenClaim.holds_of_wide 5 Try.f5 rfl rfl rfl rfl rfl rfl rfl ⟨rfl, rfl, rfl, rfl, rfl⟩ rfl rfl rfl rfl rfl (by kernel_rfl) Try.func5 (by kernel_rfl)
    (of_decide_eq_true (by kernel_rfl)) (by unfold Func.isWrapper; first | (rw [if_pos (by decide +kernel)]; kernel_rfl) | (rw [if_neg (by decide +kernel)]; exact ⟨rfl, rfl⟩))
    (fun os started H enc _ => ringRank_lifted os started H enc)

/-- The statement. -/
theorem ringRank_holds : Rows.RingRankSaid := ringRank_over

end Go.Proofs.Ytjpopjjjnaapnaa

/- SwapOrder: a swap does not change happens-before: for every trace and every number. -/
import Derived.Test.YtjpopjjjnaapnaaRows
import Derived.Test.YtjpopjjjnaapnaaSwpC
import Derived.Test.YtjpopjjjnaapnaaSwpE
import Derived.Test.YtjpopjjjnaapnaaOpenE
import Derived.Deep.RegionLaw
import Derived.Deep.RegionHeld3
namespace Go.Proofs.Ytjpopjjjnaapnaa
open Go.ChangeShapes Go.WideShapes Go.ChangeAt Go.RowKit

theorem has_swp {l : List Ev} {i : Nat} (hi : i + 1 < l.length) (hA : apartB (l[i]'(by omega)) l[i + 1] = true) : ∀ p ∈ befL l, ∃ a b : Nat, p.1 = a ∧ p.2 = b ∧ hasB (befL (sw l i)) ((sg i a : Nat), (sg i b : Nat)) = true := by
  intro p hp
  obtain ⟨a, b, rfl, _⟩ := mem_befL.1 hp
  have := bef_sw hi hA hp
  exact ⟨a, b, rfl, rfl, hasB_iff.2 (by simpa [sgP] using this)⟩
set_option maxRecDepth 100000 in
set_option maxHeartbeats 4000000 in
theorem swapOrder_no (a : Option Addr) (z : List Ev) (c : Nat) (n : Int) (w : World) (h : EvS w a z) (hs : swOk z n = false) :
    Calls Try.prog 11 #[.slice a z.length c, .int .i64 n] w fun e w' => e = .returned (.bool true) ∧ Below w.heap.size w w' := by
  have hN := Has.new w #[.int .i64 n] 3
  have hb := (Below.refl w.heap.size w).alloc (Nat.le_refl _) (.cells #[.int .i64 n] 3)
  have HS := Lib.hid hs
  clear hs
  go_enter Try.func11, Try.ntmps11
  go_wp2_with fail
  generalize w.alloc (.cells #[.int .i64 n] 3) = w0 at *
  refine (swapped_any _).mono ?_
  rintro r w1 ⟨rfl, hk⟩
  replace hN := hN.below hk hN.lt
  replace hb := hb.trans (hk.mono hb.size)
  clear hk
  have d0 : w1.cell? ⟨w.heap.size, 0, none⟩ = some (.int .i64 n) := hN.cell rfl
  go_wp2_with fail
  refine (swap_no z a c n _ (h.below hb) HS.out).mono ?_
  rintro r w3 ⟨e, he, rfl, hk3⟩
  have he2 : (e != 0) = true := by simpa using he
  replace hb := hb.trans (hk3.mono hb.size)
  clear d0
  go_wp2
  go_ret
  exact ⟨rfl, hb⟩
set_option maxRecDepth 100000 in
set_option maxHeartbeats 8000000 in
theorem swapOrder_ok (a : Option Addr) (z : List Ev) (c k : Nat) (w : World) (h : EvS w a z) (hk : k + 1 < z.length) (hp : (played z).2.2 = 0) (hA : apartB (z[k]'(by omega)) z[k + 1] = true) :
    Calls Try.prog 11 #[.slice a z.length c, .int .i64 k] w fun e w' => e = .returned (.bool true) ∧ Below w.heap.size w w' := by
  have hl80 := (played_evs hp).1
  have hmf : ∀ (fn : Fn) (first cap : Array Value) (w : World), (Instr.makeFunc fn first cap).run Try.prog w = .ok (.func fn first cap) w := fun _ _ _ _ => rfl
  obtain ⟨hp2, _⟩ := played_sw hk hA hp
  have hll := befL_len z hl80
  have hlm := befL_sw_len hk hA
  have K1 := Lib.hid fun W (hW : EvS W a z) => swap_ok z a c k W hW hp hk hA
  have K2 := Lib.hid fun W (hW : EvS W a z) => before_ok z a c W hW hp
  have K3 := Lib.hid fun W (a : Option Addr) (c : Nat) (hW : EvS W a (sw z k)) => before_ok (sw z k) a c W hW hp2
  have HH := Lib.hid (has_swp hk hA)
  have hk80 : k < 1000 := by omega
  have hz80 := hl80
  have hN := Has.new w #[.int .i64 (k : Int)] 3
  have hb := (Below.refl w.heap.size w).alloc (Nat.le_refl _) (.cells #[.int .i64 (k : Int)] 3)
  clear hp hA hp2
  go_enter Try.func11, Try.ntmps11
  go_wp2_with fail
  generalize w.alloc (.cells #[.int .i64 (k : Int)] 3) = w0 at *
  refine (swapped_any _).mono ?_
  rintro r w1 ⟨rfl, hk1⟩
  replace hN := hN.below hk1 hN.lt
  replace hb := hb.trans (hk1.mono hb.size)
  clear hk1
  have d0 : w1.cell? ⟨w.heap.size, 0, none⟩ = some (.int .i64 (k : Int)) := hN.cell rfl
  go_wp2_with fail
  refine (K1.out _ (h.below hb)).mono ?_
  rintro r w2 ⟨a1, c1, rfl, hM, _, hk2⟩
  generalize sw z k = m at *
  replace hN := hN.below hk2 hN.lt
  replace hb := hb.trans (hk2.mono hb.size)
  clear hk2 K1 d0
  go_wp2_with fail
  refine (K2.out _ (h.below hb)).mono ?_
  rintro r w3 ⟨v, rfl, hown, hk3⟩
  have hex : ∃ a2 c2, v = .slice a2 (befL z).length c2 ∧ PrS w3 a2 (befL z) := prS_own hown (by omega)
  obtain ⟨a2, c2, rfl, hP⟩ := hex
  replace hN := hN.below hk3 hN.lt
  replace hb := hb.trans (hk3.mono hb.size)
  replace hM := hM.below hk3
  clear hk3 K2 hown
  go_wp2_with fail
  refine (K3.out _ _ _ hM).mono ?_
  rintro r w4 ⟨v, rfl, hown, hk4⟩
  have hex : ∃ a2 c2, v = .slice a2 (befL m).length c2 ∧ PrS w4 a2 (befL m) := prS_own hown (by omega)
  obtain ⟨a3, c3, rfl, hQ⟩ := hex
  replace hN := hN.below hk4 hN.lt
  replace hb := hb.trans (hk4.mono hb.size)
  replace hP := hP.below hk4
  clear hk4 K3 hown hM h
  have hne : (((befL z).length : Int) != ((befL m).length : Int)) = false := by rw [hlm]; simp
  generalize befL z = L at *
  generalize befL m = Q at *
  clear hlm
  have hb4 := Below.refl w4.heap.size w4
  go_wp2
  go_loopw [50] (fun i wr => ∃ j : Nat, j ≤ L.length ∧ i = .int .i64 j ∧ Below w4.heap.size w4 wr) (fun i _ => L.length - (intOf i).toNat)
  case atStart => exact ⟨0, Nat.zero_le _, rfl, hb4⟩
  case round =>
    clear hb4 hne
    obtain ⟨j, hj, rfl, hb4⟩ := hrel
    by_cases hlt : j < L.length
    · obtain ⟨g, o, rfl, d0, d1⟩ := (hP.below hb4).at hlt
      obtain ⟨A, B, ha, hb', hh⟩ := HH.out _ (List.getElem_mem hlt)
      rw [ha] at d0
      rw [hb'] at d1
      have hN2 := (hN.below hb4 hN.lt).alloc (.cells #[.int .i64 (A : Int), .int .i64 (B : Int)] 31)
      have hX := Has.new wr #[.int .i64 (A : Int), .int .i64 (B : Int)] 31
      have hb5 := hb4.alloc hb4.size (.cells #[.int .i64 (A : Int), .int .i64 (B : Int)] 31)
      have HHH := Lib.hid hh
      clear ha hb' hh
      go_upto_region 14 with fail
      clear d0 d1
      generalize wr.alloc (.cells #[.int .i64 (A : Int), .int .i64 (B : Int)] 31) = w5 at *
      have n0 : w5.cell? ⟨w.heap.size, 0, none⟩ = some (.int .i64 (k : Int)) := hN2.cell rfl
      obtain ⟨x0, x1⟩ : w5.cell? ⟨wr.heap.size, 0, none⟩ = some (.int .i64 (A : Int)) ∧ w5.cell? ⟨wr.heap.size, 1, none⟩ = some (.int .i64 (B : Int)) := ⟨hX.cell rfl, hX.cell rfl⟩
      have hQ5 := (hQ.below hb5).below (Below.refl _ _).drew
      have hb6 := hb5.drew
      have hca := hasPr_any Q ((sg k A : Nat), (sg k B : Nat)) a3 c3 _ hQ5
      rw [HHH.out] at hca
      have HCA := Lib.hid hca
      clear hca
      go_region_law (first
        | (go_simp; go_at_call 32; refine (sgo_any k _ _ _ hk80 (by simpa using n0)).mono ?_; rintro r w6 ⟨rfl, rfl⟩)
        | (go_simp; go_at_call 18; refine HCA.out.mono ?_; rintro r w8 ⟨rfl, hk8⟩))
      all_goals
        have hb8 := hb6.trans (hk8.mono hb6.size)
        clear n0 x0 x1 hX hN2 hb5 HCA hQ5
        go_wp2
        go_roundw
        case rel => exact ⟨j + 1, by omega, by go_num, hb8⟩
        case measure => (simp [intOf]; try omega)
    · obtain rfl : j = L.length := by omega
      go_wp2
      go_ret
      exact ⟨rfl, hb.trans (hb4.mono hb.size)⟩
theorem swapOrder_walk (a : Option Addr) (z : List Ev) (c : Nat) (n : Int) (w : World) (hf : EvS w a z ∧ z.length ≤ c ∧ z.length * 24 ≤ 140737488351232 ∧ ∀ e ∈ z, I64 e.k ∧ I64 e.t ∧ I64 e.o) (_ : I64 n) :
    Calls Try.prog 11 #[.slice a z.length c, .int .i64 n] w fun e w' => e = .returned (.bool true) ∧ Below w.heap.size w w' := by
  cases hs : swOk z n
  · exact swapOrder_no a z c n w hf.1 hs
  · obtain ⟨k, hk, rfl, hp, hA⟩ := swOk_at hs
    exact swapOrder_ok a z c k w hf.1 hk hp hA
/-! The frame of the law SwapOrder, by program. -/
set_option maxRecDepth 100000 in
theorem swapOrder_lifted (os : Os) (started : os.Started) (H : Type) (enc : TypeId × Value → H) :
    ReturnsInHanded {} Try.checked os 11 .any (Rows.swapOrderSpec.pre6 enc Try.prog Try.f11 Rows.swapOrderRow.domain false) (Rows.swapOrderSpec.post enc Try.prog Try.f11 false true false false) := by
  refine returnsInHanded_of_change_shaped (C := Try.checked) frame_own started (by kernel_rfl) Try.func11
    (ChangeSpec.witness6 (enc := enc) (C := Try.checked) false ⟨#[], #[.slice none 0 0, .int .i64 0], []⟩ 8 (by kernel_rfl) (by kernel_rfl) (by kernel_rfl) (by kernel_rfl)) ?_
  intro W base args ds gs before hval0 hW hcnd hsz hshaped hroom
  clear hcnd hshaped
  have hval : ∀ (j : Nat) t v, Try.f11.params[j]? = some t → args[j]? = some v → Value.okWide Try.prog W .any base t v := hval0
  have hW' := hW
  obtain ⟨p, q, hA0, hV, rfl, hfz, hnd⟩ := hW
  have hA : DataW.TrodAll enc Try.prog W 0 (fun _ => true) true Try.f11.params.toList args.toList ds p := hA0
  rw [Try.params11] at hA hval
  obtain ⟨v0, vs0, d0, ds0, p0, q0, hargs, rfl, rfl, h0, r0⟩ := trodAll_cons hA
  obtain ⟨v1, vs1, d1, ds1, p1, q1, rfl, rfl, rfl, h1, r1⟩ := trodAll_cons r0
  obtain ⟨rfl, rfl, rfl⟩ := trodAll_nil r1
  obtain rfl : args = #[v0, v1] := by cases args; simp_all
  obtain ⟨rfl, rfl⟩ := trodVars_none hV
  have k0 := h0
  have lt0 : ∀ x ∈ p0, x.block < W.heap.size := by obtain ⟨m, hm⟩ := k0; exact DataW.trod_lt m _ _ _ hm
  obtain ⟨a0, z0, c0, rfl, w0⟩ := open_evs (hval 0 37 v0 rfl rfl) h0 (fun els sp hd => sized_slice hsz (j := 0) rfl (by rw [hd]; rfl) Try.underlying37)
  have k1 := h1
  have lt1 : ∀ x ∈ p1, x.block < W.heap.size := by obtain ⟨m, hm⟩ := k1; exact DataW.trod_lt m _ _ _ hm
  obtain ⟨a1, rfl, rfl, rfl, w1⟩ := open_int Try.underlying3 (hval 1 3 v1 rfl rfl) h1
  clear hA0 hval0
  refine (swapOrder_walk a0 z0 c0 a1 W w0 (wf_i64 w1)).mono fun e W' ⟨he, bel⟩ => ?_
  subst he
  exact ⟨_, rfl, _, _, _, [], _, [], hW', trodAll_mk1 (shut_bool Try.underlying4 _), (trodAll_cons_mk (Below.trod frame_laid (by kernel_rfl) (of_decide_eq_true (by kernel_rfl)) k0 bel lt0) (trodAll_cons_mk (Below.trod frame_laid (by kernel_rfl) (of_decide_eq_true (by kernel_rfl)) k1 bel lt1) trodAll_mk0)), rfl, bel.frame _, fun h => by cases h⟩

theorem swapOrder_over : Rows.swapOrderRow.holds Try.pinned (OpenSpec.ofChange Rows.swapOrderSpec) :=
  OpenClaim.holds_of_wide 11 Try.f11 rfl rfl rfl rfl rfl rfl rfl ⟨rfl, rfl, rfl, rfl, rfl⟩ rfl rfl rfl rfl rfl (by kernel_rfl) Try.func11 (by kernel_rfl)
    (of_decide_eq_true (by kernel_rfl)) (by unfold Func.isWrapper; first | (rw [if_pos (by decide +kernel)]; kernel_rfl) | (rw [if_neg (by decide +kernel)]; exact ⟨rfl, rfl⟩))
    (fun os started H enc _ => swapOrder_lifted os started H enc)

/-- The statement. -/
theorem swapOrder_holds : Rows.SwapOrderSaid := swapOrder_over

end Go.Proofs.Ytjpopjjjnaapnaa

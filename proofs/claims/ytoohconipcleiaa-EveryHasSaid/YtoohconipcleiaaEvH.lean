/- Whether an end lies in a slice, as the laws ask it. -/
import Derived.Test.YtoohconipcleiaaEvE
import Derived.Deep.MidRow
namespace Go.Proofs.Ytoohconipcleiaa
open Go.RowKit

theorem eqE_symm (x y : EnD) : eqE x y = eqE y x := by
  rw [Bool.eq_iff_iff, eqE_iff, eqE_iff]
  exact ⟨Eq.symm, Eq.symm⟩
set_option maxRecDepth 100000 in
set_option maxHeartbeats 4000000 in
theorem hasE_any (out : List EnD) (e : EnD) (a : Option Addr) (c : Nat) (w : World) (h : EnS w a out) (hn : ∀ x ∈ out, NumOk x.1) (he : NumOk e.1) :
    Calls Try.prog 26 #[.slice a out.length c, .agg (enE e)] w fun r w' => r = .returned (.bool (inE out e)) ∧ Below w.heap.size w w' := by
  have hbig := h.big
  have hsz := enE_size e
  have HE := Lib.hid (fun k (hk : k < out.length) (w1 : World) => eql_enE he (hn _ (List.getElem_mem hk)) w1)
  have HQ := Lib.hid (fun x => (eqE_iff (x := e) (y := x)))
  have hz20 := endC_size PS.zero false false
  obtain ⟨Y, hY⟩ : ∃ Y, enE e = Y := ⟨_, rfl⟩
  have HY := Lib.hid hY
  rw [hY] at hsz HE ⊢
  have hI := Below.refl w.heap.size w
  clear hY hn he
  go_enter Try.func26, Try.ntmps26
  go_upto_region 1 with fail
  generalize hW : World.alloc _ _ = W
  have hS : Has W w.heap.size Y endT := by rw [← hW]; exact Has.new w _ _
  have hk : Below w.heap.size w W := by rw [← hW]; exact hI.alloc (Nat.le_refl _) _
  clear hW hI
  go_wp2
  go_loopw [9] (fun i wr => ∃ k : Nat, k ≤ out.length ∧ i = .int .i64 k ∧ Hid (∀ j (h : j < out.length), j < k → enE out[j] ≠ Y) ∧ Has wr w.heap.size Y endT ∧ Below w.heap.size w wr) (fun i _ => out.length - (intOf i).toNat)
  case atStart => exact ⟨0, Nat.zero_le _, rfl, Lib.hid (fun j _ h => absurd h (Nat.not_lt_zero _)), hS, hk⟩
  case round =>
    clear hS hk
    obtain ⟨k, hk, rfl, HN, hS, hb⟩ := hrel
    by_cases hlt : k < out.length
    · obtain ⟨b, o, rfl, hr⟩ := h.at hlt
      have heq := HE.out k hlt
      have hq := HQ.out out[k]
      have hZ := enE_size out[k]
      have hZ1 := enE_one out[k]
      obtain ⟨q, hqe⟩ : ∃ q, eqE e out[k] = q := ⟨_, rfl⟩
      rw [hqe] at heq hq
      rw [HY.out] at hq
      have hne : Hid (q = false → enE out[k] ≠ Y) := Lib.hid fun h0 e1 => by rw [h0] at hq; exact absurd (hq.2 e1.symm) (by decide)
      have hyes : Hid (q = true → inE out e = true) := Lib.hid fun h0 => inE_iff.2 ⟨out[k], List.getElem_mem hlt, by rw [HY.out]; exact (hq.1 h0).symm⟩
      have hne2 : Hid (∀ j (h : j < out.length), j < k + 1 → enE out[j] ≠ Y ∨ j = k) := Lib.hid fun j h1 h2 => by
        by_cases e1 : j = k
        · exact .inr e1
        · exact .inl (HN.out j h1 (by omega))
      clear hqe hq
      obtain ⟨Z, hZe⟩ : ∃ Z, enE out[k] = Z := ⟨_, rfl⟩
      have HZ := Lib.hid hZe
      rw [hZe] at heq hr hne hZ hZ1
      clear hZe
      have k0 : (0 : Int) ≤ k := by omega
      have k1 : (k : Int) < out.length := by omega
      have hr2 : wr.rangeAt b (o + k * 20) Z.toList := fun j v hv => by
        have h2 := hr j v hv
        exact (hb.cell (World.block_lt_of_cell? w _ h2)).trans h2
      go_upto_region 4 with (first
        | (refine wpList_load_mid rfl endT _ rfl b (o + k * 20) rfl Z.toList _ hr2 Try.underlying29 rfl (by rw [Array.length_toList, hZ]; rfl) ?_; rw [Array.toArray_toList])
        | (refine wpList_store_row rfl endT _ _ rfl wr.heap.size Z rfl rfl endT _ (Has.new wr (endC PS.zero false false) endT).out (by rw [hZ]; rfl) (by rw [hZ, hz20]) hZ1 ?_))
      generalize hWx : World.setRow _ _ _ = W2
      have hN2 : Has W2 wr.heap.size Z endT := by rw [← hWx]; exact (Has.new wr (endC PS.zero false false) endT).setRow
      have hb2 : Below wr.heap.size wr W2 := by rw [← hWx]; exact below_setRow ((Below.refl _ _).alloc (Nat.le_refl _) _) (Nat.le_refl _)
      have hS1 := hS.below hb2 hS.lt
      have hb1 := hb.trans (hb2.mono hb.size)
      clear hWx hb2 hr hr2 hS hb
      cases q
      · go_wp2_with (first
          | (refine wpList_load_row rfl endT _ rfl w.heap.size rfl endT Y (0, 0) _ hS1.out Try.underlying29 rfl (by rw [hsz]; rfl) ?_)
          | (refine wpList_load_row rfl endT _ rfl wr.heap.size rfl endT Z (0, 0) _ hN2.out Try.underlying29 rfl (by rw [hZ]; rfl) ?_))
        go_roundw
        case rel => exact ⟨k + 1, by omega, by go_num, Lib.hid (fun j h1 h2 => (hne2.out j h1 h2).elim id fun e1 => by subst e1; rw [HZ.out]; exact hne.out rfl), hS1, hb1⟩
        case measure => (simp [intOf]; try omega)
      · have hin : Hid (inE out e = true) := Lib.hid (hyes.out rfl)
        clear hyes hne hne2 HN
        go_wp2_with (first
          | (refine wpList_load_row rfl endT _ rfl w.heap.size rfl endT Y (0, 0) _ hS1.out Try.underlying29 rfl (by rw [hsz]; rfl) ?_)
          | (refine wpList_load_row rfl endT _ rfl wr.heap.size rfl endT Z (0, 0) _ hN2.out Try.underlying29 rfl (by rw [hZ]; rfl) ?_))
        go_ret
        exact ⟨by rw [hin.out]; rfl, hb1⟩
    · obtain rfl : k = out.length := by omega
      have HR : Hid (inE out e = false) := Lib.hid (by
        rw [Bool.eq_false_iff]
        intro h0
        obtain ⟨x, hx, e1⟩ := inE_iff.1 h0
        obtain ⟨j, hj, rfl⟩ := List.mem_iff_getElem.1 hx
        rw [HY.out] at e1
        exact HN.out j hj hj e1)
      go_wp2
      go_ret
      exact ⟨by rw [HR.out]; rfl, hb⟩
end Go.Proofs.Ytoohconipcleiaa

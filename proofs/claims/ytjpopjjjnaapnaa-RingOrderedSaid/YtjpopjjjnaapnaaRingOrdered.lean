/- RingOrdered: if locks are acquired in increasing order only, there is no ring. -/
import Derived.Test.YtjpopjjjnaapnaaRows
import Derived.Test.YtjpopjjjnaapnaaGrA
import Derived.Test.YtjpopjjjnaapnaaRgE
import Derived.Test.YtjpopjjjnaapnaaRgP
import Derived.Test.YtjpopjjjnaapnaaHeld
import Derived.Test.YtjpopjjjnaapnaaOpenE
import Derived.Deep.RegionHeld3
namespace Go.Proofs.Ytjpopjjjnaapnaa
open Go.ChangeShapes Go.WideShapes Go.ChangeAt Go.RowKit

/-- Pairs that rise make no ring. -/
theorem rise_none {E : Nat → Nat → Bool} (h : ∀ a b, E a b = true → a < b) : ringP E = [] := by
  by_cases he : ringP E = []
  · exact he
  · obtain ⟨m, f, h1, _⟩ := ringP_val he
    have hle : ∀ i, i < m → f 0 + i ≤ f i := by
      intro i
      induction i with
      | zero => intro _; omega
      | succ i ih =>
        intro hi
        have h2 := h _ _ (h1.edge i (by omega))
        rw [Nat.mod_eq_of_lt hi] at h2
        have := ih (by omega)
        omega
    have hp := h1.pos
    have h3 := h _ _ (h1.edge (m - 1) (by omega))
    rw [show m - 1 + 1 = m by omega, Nat.mod_self] at h3
    have := hle (m - 1) (by omega)
    omega
theorem setN_ge {own : Nat → Bool} {j : Nat} (hj : own j = true) : ∀ {n : Nat}, j < n → 2 ^ j ≤ setN own n
  | 0, h => by omega
  | n + 1, h => by
    simp only [setN]
    by_cases e : j = n
    · subst e
      rw [if_pos hj]
      omega
    · have := setN_ge hj (show j < n by omega)
      omega
theorem step_rise {s : St} {e : Ev} {O : Nat} (ho : e.o = O) (h : setN (ownB s e.t) 5 / 2 ^ O = 0) : ∀ x ∈ grStep s e, x.1 < x.2 := by
  intro x hx
  unfold grStep at hx
  split at hx
  · obtain ⟨j, h1, h2, rfl⟩ := mem_grPart.1 hx
    have h3 := setN_ge (own := ownB s e.t) (j := j) (by simp [ownB, h2]) h1
    have h4 : setN (ownB s e.t) 5 < 2 ^ O := by
      rcases Nat.div_eq_zero_iff.1 h with h5 | h5
      · exact absurd h5 (Nat.ne_of_gt (Nat.two_pow_pos O))
      · exact h5
    have h5 : j < O := by
      rcases Nat.lt_or_ge j O with h6 | h6
      · exact h6
      · have := Nat.pow_le_pow_right (show 0 < 2 by omega) h6
        omega
    simp only
    rw [ho]
    omega
  · simp at hx
theorem held_m (l : List Ev) (n : Nat) (hn : l.length = n) (a : Option Addr) (c : Nat) (t : Int) (w : World) (h : EvS w a l) :
    Calls Try.prog 25 #[.slice a n c, .int .i64 t] w fun r w' => r = .returned (.tuple #[.int .i64 (heldV l t).1, .int .i64 (heldV l t).2]) ∧ Below w.heap.size w w' := by
  subst hn; exact held_any l a c t w h
theorem ringOf_n (p : List (Int × Int)) (n : Nat) (hn : p.length = n) (a : Option Addr) (c : Nat) (w : World) (h : PrS w a p) (hp : okPr p) :
    Calls Try.prog 17 #[.slice a n c] w (RingPost (ringP (edgeP p)) w) := by
  subst hn; exact ringOf_ok p a c w h hp
theorem held_at {z : List Ev} (h : (played z).2.2 = 0) {k : Nat} (hk : k < z.length) : heldV (z.take k) (evAt z k).t = (((setN (ownB (stAt z k) (evAt z k).t) 5 : Nat) : Int), 0) := by
  obtain ⟨t0, t6, _⟩ := ev_at h hk
  have hm : mayB z = true := by unfold mayB; simpa using h
  have hp : (played (z.take k)).2.2 = 0 := by
    obtain ⟨h1, h2⟩ := mayB_iff.1 (mayB_take k hm)
    rw [played_small h1]; exact h2
  have h1 := (ok_at hp).2
  rw [show (z.take k).length = k by simp; omega, stAt_take z (Nat.le_refl k)] at h1
  unfold heldV
  rw [if_neg (by rw [hp]; simp), if_pos ⟨t0, t6⟩, h1]
set_option maxRecDepth 100000 in
set_option maxHeartbeats 8000000 in
theorem ringOrdered_walk (a : Option Addr) (z : List Ev) (c : Nat) (w : World) (h : EvS w a z ∧ z.length ≤ c ∧ z.length * 24 ≤ 140737488351232 ∧ ∀ e ∈ z, I64 e.k ∧ I64 e.t ∧ I64 e.o) :
    Calls Try.prog 8 #[.slice a z.length c] w fun e w' => e = .returned (.bool true) ∧ Below w.heap.size w w' := by
  obtain ⟨h1, hc, h2, _⟩ := h
  have hbig := h1.big
  go_enter Try.func8, Try.ntmps8
  go_wp2_with fail
  refine (ringed_any _).mono ?_
  rintro r w1 ⟨rfl, hb⟩
  replace h1 := h1.below hb
  by_cases he : (played z).2.2 = 0
  · have HA := Lib.hid (fun k (hk : k < z.length) => held_at he hk)
    have HEV := Lib.hid (fun k (hk : k < z.length) => ev_at he hk)
    go_wp2_with fail
    refine (graph_ok z _ _ _ h1 he).mono ?_
    rintro r w2 ⟨a2, c2, rfl, hP, _, hk⟩
    replace h1 := h1.below hk
    replace hb := hb.trans (hk.mono hb.size)
    clear hk he
    have HOK := Lib.hid (grOut_ok z)
    have HG := Lib.hid (fun (x : Int × Int) (hx : x ∈ grOut z) => (show x ∈ grS z z.length by obtain ⟨_, _, _, _, _, h⟩ := mem_grAll.1 hx; exact h))
    have hl2 := grOut_len z
    generalize grOut z = P at *
    have hI := Below.refl w2.heap.size w2
    go_wp2
    go_loopw [25] (fun i wr => ∃ k : Nat, k ≤ z.length ∧ i = .int .i64 k ∧ Hid (∀ x ∈ grS z k, x.1 < x.2) ∧ Below w2.heap.size w2 wr) (fun i _ => z.length - (intOf i).toNat)
    case atStart => exact ⟨0, Nat.zero_le _, rfl, Lib.hid (fun x hx => by simp [grS] at hx), hI⟩
    case round =>
      clear hI
      obtain ⟨k, hk, rfl, HR, hb1⟩ := hrel
      by_cases hlt : k < z.length
      · have hT5 := (h1.below hb1).take k
        obtain ⟨b, o, rfl, d0, d1, d2⟩ := (h1.below hb1).at hlt
        obtain ⟨t0, t6, o0, oM⟩ := HEV.out k hlt
        have hha := HA.out k hlt
        have hS : grS z (k + 1) = grS z k ++ grStep (stAt z k) (evAt z k) := rfl
        have hr := @step_rise (stAt z k) (evAt z k)
        rw [evAt_lt hlt] at hS t0 t6 o0 oM hha hr
        have hlen : (z.take k).length = k := by simp; omega
        have HLEN := Lib.hid hlen
        have hkc : (k : Int) ≤ c := by omega
        have hkl : (k : Int) ≤ z.length := by omega
        generalize z[k] = e at *
        generalize stAt z k = s at *
        obtain ⟨K, T, O⟩ := e
        simp only at d0 d1 d2 t0 t6 o0 oM hha hr
        obtain ⟨O, rfl⟩ := Int.eq_ofNat_of_zero_le o0
        have HS := Lib.hid hS
        have HHA := Lib.hid hha
        have HRI := Lib.hid (hr rfl)
        have hN := Has.new wr (evC ⟨K, T, (O : Int)⟩) 43
        have hb5 := hb1.alloc hb1.size (.cells (evC ⟨K, T, (O : Int)⟩) 43)
        replace hT5 := hT5.below ((Below.refl wr.heap.size wr).alloc (Nat.le_refl _) (.cells (evC ⟨K, T, (O : Int)⟩) 43))
        clear hS hha hr hlen hb1
        go_upto_region 9 with fail
        clear d0 d1 d2
        generalize wr.alloc (.cells (evC ⟨K, T, (O : Int)⟩) 43) = w5 at *
        have x0 : w5.cell? ⟨wr.heap.size, 0, none⟩ = some (.int .i64 K) := hN.cell rfl
        by_cases hK : K = 3
        · subst hK
          have hO5 : O < 5 := by have : manyOf 3 = 5 := rfl; omega
          have x1 : w5.cell? ⟨wr.heap.size, 1, none⟩ = some (.int .i64 T) := hN.cell rfl
          have hN6 := hN.drew
          have hd5 := (Below.refl w5.heap.size w5).drew
          replace hT5 := hT5.below hd5
          clear oM
          go_upto_region 10 with fail
          go_region_held3 (fun W => (Has W wr.heap.size (evC ⟨3, T, (O : Int)⟩) 43 ∧ Below w5.heap.size w5 W) ∧ W.cell? ⟨wr.heap.size, 1, none⟩ = some (.int .i64 T))
            (first | exact ⟨⟨hN6, hd5⟩, hN6.cell rfl⟩ | exact ⟨⟨hN7, hd7⟩, hN7.cell rfl⟩)
            (first | (go_at_call 25; refine (held_m (z.take k) k HLEN.out _ _ _ _ hT5).mono ?_; rintro r w6 ⟨rfl, hk6⟩; have hd7 := hd5.trans (hk6.mono hd5.size); have hN7 := hN6.below hk6 hN6.lt))
          all_goals
            rw [HHA.out]
            have x2 : w6.cell? ⟨wr.heap.size, 2, none⟩ = some (.int .i64 (O : Int)) := hN7.cell rfl
            have hb7 := hb5.trans (hd7.mono hb5.size)
            clear HHA hT5 hN6 hd5 x0 x1 hk6
            have hX := setN_lt (ownB s T) 5
            generalize setN (ownB s T) 5 = X at *
            have hX2 : X < 32 := hX
            have i0 : (0 : Int) ≤ O := by omega
            have hb8 := hb.trans (hb7.mono hb.size)
            clear hX
            by_cases hq : X / 2 ^ O = 0
            · have hqi : ((X : Int) / 2 ^ O) = 0 := by
                have := congrArg (fun n : Nat => (n : Int)) hq
                simpa using this
              have hq2 : (((X : Int) / 2 ^ O) != 0) = false := by rw [hqi]; rfl
              have HR2 := Lib.hid (show ∀ x ∈ grS z (k + 1), x.1 < x.2 by
                rw [HS.out]
                intro x hx
                rcases List.mem_append.1 hx with h | h
                · exact HR.out x h
                · exact HRI.out hq x h)
              clear HR HS HRI hq hqi hb8
              go_wp2
              go_roundw
              case rel => exact ⟨k + 1, by omega, by go_num, HR2, hb7⟩
              case measure => (simp [intOf]; try omega)
            · have hq2 : (((X : Int) / 2 ^ O) != 0) = true := by
                rw [bne_iff_ne]
                intro e
                apply hq
                have h3 : ((X / 2 ^ O : Nat) : Int) = 0 := by simpa using e
                exact_mod_cast h3
              clear HR HS HRI hq hb7
              go_wp2
              go_ret
              exact ⟨rfl, hb8⟩
        · have k3 : (K != 3) = true := by simpa using hK
          have HR2 := Lib.hid (show ∀ x ∈ grS z (k + 1), x.1 < x.2 by
            rw [HS.out]
            simp only [grStep, hK, if_false, List.append_nil]
            exact HR.out)
          clear HR HS HRI HHA oM hT5
          go_wp2
          go_roundw
          case rel => exact ⟨k + 1, by omega, by go_num, HR2, hb5⟩
          case measure => (simp [intOf]; try omega)
      · obtain rfl : k = z.length := by omega
        have HE := Lib.hid (show ringP (edgeP P) = [] from rise_none fun a b hab => by
          simp only [edgeP, hasB, decide_eq_true_eq] at hab
          have := HR.out _ (HG.out _ hab)
          simp only at this
          omega)
        replace hP := hP.below hb1
        have hb3 := hb.trans (hb1.mono hb.size)
        clear HR HG hb1 hb
        go_wp2_with fail
        refine (ringOf_n P _ rfl _ _ _ hP HOK.out).mono ?_
        rintro r w4 ⟨a4, c4, rfl, hI4, _, hk⟩
        have hb4 := hb3.trans (hk.mono hb3.size)
        rw [HE.out]
        clear hI4 hk hb3 hP
        go_wp2
        go_ret
        exact ⟨rfl, hb4⟩
  · have he2 : ((played z).2.2 != 0) = true := by simpa using he
    go_wp2_with fail
    refine (graph_err z _ _ _ h1 he).mono ?_
    rintro r w2 ⟨rfl, hk⟩
    replace hb := hb.trans (hk.mono hb.size)
    clear hk he
    generalize (played z).2.2 = E at *
    go_wp2
    go_ret
    exact ⟨rfl, hb⟩
/-! The frame of the law RingOrdered, by program. -/
set_option maxRecDepth 100000 in
theorem ringOrdered_lifted (os : Os) (started : os.Started) (H : Type) (enc : TypeId × Value → H) :
    ReturnsInHanded {} Try.checked os 8 .any (Rows.ringOrderedSpec.pre6 enc Try.prog Try.f8 Rows.ringOrderedRow.domain false) (Rows.ringOrderedSpec.post enc Try.prog Try.f8 false true false false) := by
  refine returnsInHanded_of_change_shaped (C := Try.checked) frame_own started (by kernel_rfl) Try.func8
    (ChangeSpec.witness6 (enc := enc) (C := Try.checked) false ⟨#[], #[.slice none 0 0], []⟩ 8 (by kernel_rfl) (by kernel_rfl) (by kernel_rfl) (by kernel_rfl)) ?_
  intro W base args ds gs before hval0 hW hcnd hsz hshaped hroom
  clear hcnd hshaped
  have hval : ∀ (j : Nat) t v, Try.f8.params[j]? = some t → args[j]? = some v → Value.okWide Try.prog W .any base t v := hval0
  have hW' := hW
  obtain ⟨p, q, hA0, hV, rfl, hfz, hnd⟩ := hW
  have hA : DataW.TrodAll enc Try.prog W 0 (fun _ => true) true Try.f8.params.toList args.toList ds p := hA0
  rw [Try.params8] at hA hval
  obtain ⟨v0, vs0, d0, ds0, p0, q0, hargs, rfl, rfl, h0, r0⟩ := trodAll_cons hA
  obtain ⟨rfl, rfl, rfl⟩ := trodAll_nil r0
  obtain rfl : args = #[v0] := by cases args; simp_all
  obtain ⟨rfl, rfl⟩ := trodVars_none hV
  have k0 := h0
  have lt0 : ∀ x ∈ p0, x.block < W.heap.size := by obtain ⟨m, hm⟩ := k0; exact DataW.trod_lt m _ _ _ hm
  obtain ⟨a0, z0, c0, rfl, w0⟩ := open_evs (hval 0 37 v0 rfl rfl) h0 (fun els sp hd => sized_slice hsz (j := 0) rfl (by rw [hd]; rfl) Try.underlying37)
  clear hA0 hval0
  refine (ringOrdered_walk a0 z0 c0 W w0).mono fun e W' ⟨he, bel⟩ => ?_
  subst he
  exact ⟨_, rfl, _, _, _, [], _, [], hW', trodAll_mk1 (shut_bool Try.underlying4 _), (trodAll_cons_mk (Below.trod frame_laid (by kernel_rfl) (of_decide_eq_true (by kernel_rfl)) k0 bel lt0) trodAll_mk0), rfl, bel.frame _, fun h => by cases h⟩

theorem ringOrdered_over : Rows.ringOrderedRow.holds Try.pinned (OpenSpec.ofChange Rows.ringOrderedSpec) :=
  OpenClaim.holds_of_wide 8 Try.f8 rfl rfl rfl rfl rfl rfl rfl ⟨rfl, rfl, rfl, rfl, rfl⟩ rfl rfl rfl rfl rfl (by kernel_rfl) Try.func8 (by kernel_rfl)
    (of_decide_eq_true (by kernel_rfl)) (by unfold Func.isWrapper; first | (rw [if_pos (by decide +kernel)]; kernel_rfl) | (rw [if_neg (by decide +kernel)]; exact ⟨rfl, rfl⟩))
    (fun os started H enc _ => ringOrdered_lifted os started H enc)

/-- The statement. -/
theorem ringOrdered_holds : Rows.RingOrderedSaid := ringOrdered_over

end Go.Proofs.Ytjpopjjjnaapnaa

/- EveryFree: a program without locks, signals and races has exactly one end: for every program. -/
import Derived.Test.YtoohconipcleiaaRows
import Derived.Test.YtoohconipcleiaaMY
import Derived.Test.YtoohconipcleiaaEvR
import Derived.Test.YtoohconipcleiaaNG
import Derived.Test.YtoohconipcleiaaMI
import Derived.Deep.DeepCutAuto
namespace Go.Proofs.Ytoohconipcleiaa
open Go.ChangeShapes Go.WideShapes Go.ChangeAt Go.RowKit

def PlainL (z : List Ev) (k : Nat) : Prop := ∀ i (h : i < z.length), i < k → z[i].k ≠ 4 ∧ z[i].k ≠ 5 ∧ z[i].k ≠ 8 ∧ z[i].k ≠ 9
def FreeL (p : List (List Ev)) (k : Nat) : Prop := ∀ i (h : i < p.length), i < k → PlainL p[i] p[i].length
theorem freeP_of {p : List (List Ev)} (h : FreeL p p.length) : FreeP p := by
  intro z hz e he
  obtain ⟨i, hi, rfl⟩ := List.mem_iff_getElem.1 hz
  obtain ⟨j, hj, rfl⟩ := List.mem_iff_getElem.1 he
  exact h i hi hi j hj hj
set_option maxRecDepth 100000 in
set_option maxHeartbeats 8000000 in
theorem everyFree_walk (a : Option Addr) (p : List (List Ev)) (c : Nat) (w : World) (hp : PgS w a p ∧ (p.length ≤ c ∧ p.length * 24 ≤ 140737488351232) ∧ ∀ z ∈ p, ∀ e ∈ z, I64 e.k ∧ I64 e.t ∧ I64 e.o) :
    Calls Try.prog 9 #[.slice a p.length c] w fun e w' => e = .returned (.bool true) ∧ Below w.heap.size w w' := by
  have h := hp.1
  have hpl := h.big
  clear hp
  go_enter Try.func9, Try.ntmps9
  go_wp2_with fail
  refine (everied_any _).mono ?_
  rintro r w1 ⟨rfl, hb1⟩
  go_wp2
  go_loopw [16] (fun i wr => ∃ k : Nat, k ≤ p.length ∧ i = .int .i64 k ∧ FreeL p k ∧ Below w.heap.size w wr) (fun i _ => p.length - (intOf i).toNat)
  case atStart => exact ⟨0, Nat.zero_le _, rfl, fun i _ h => absurd h (Nat.not_lt_zero _), hb1⟩
  case round =>
    clear hb1
    obtain ⟨k, hk, rfl, hF, hb⟩ := hrel
    by_cases hlt : k < p.length
    · obtain ⟨b, o, a', c', rfl, d0, hE⟩ := (h.below hb).at hlt
      have k0 : (0 : Int) ≤ k := by omega
      have k1 : (k : Int) < p.length := by omega
      obtain ⟨z, hz⟩ : ∃ z, p[k] = z := ⟨_, rfl⟩
      have HF : Hid (PlainL z z.length → FreeL p (k + 1)) := Lib.hid fun h1 i hi hik => by
        rcases Nat.lt_or_ge i k with c | c
        · exact hF i hi c
        · obtain rfl : i = k := by omega
          rw [hz]; exact h1
      rw [hz] at d0 hE
      have hzl := hE.big
      clear hF hz
      obtain ⟨wo, rfl⟩ : ∃ wo : World, wo = wr := ⟨_, rfl⟩
      go_wp2
      go_loopw [22] (fun i wr => ∃ j : Nat, j ≤ z.length ∧ i = .int .i64 j ∧ PlainL z j ∧ Below wo.heap.size wo wr) (fun i _ => z.length - (intOf i).toNat)
      case atStart => exact ⟨0, Nat.zero_le _, rfl, fun i _ h => absurd h (Nat.not_lt_zero _), Below.refl _ _⟩
      case round =>
        obtain ⟨j, hj, rfl, hP, hq⟩ := hrel
        by_cases hlj : j < z.length
        · obtain ⟨b2, o2, rfl, g0, g1, g2⟩ := (hE.below hq).at hlj
          have j0 : (0 : Int) ≤ j := by omega
          have j1 : (j : Int) < z.length := by omega
          obtain ⟨x, hx⟩ : ∃ x, z[j] = x := ⟨_, rfl⟩
          have HP : Hid (x.k ≠ 4 ∧ x.k ≠ 5 ∧ x.k ≠ 8 ∧ x.k ≠ 9 → PlainL z (j + 1)) := Lib.hid fun h1 i hi hik => by
            rcases Nat.lt_or_ge i j with c | c
            · exact hP i hi c
            · obtain rfl : i = j := by omega
              rw [hx]; exact h1
          rw [hx] at g0 g1 g2
          clear hP hx d0
          have hT := Has.new wr (evC x) 40
          have hbT := hq.alloc hq.size (.cells (evC x) 40)
          go_upto_region 9 with fail
          clear g0 g1 g2
          have e0 : (wr.alloc (.cells (evC x) 40)).cell? ⟨wr.heap.size, 0, none⟩ = some (.int .i64 x.k) := hT.cell rfl
          generalize wr.alloc (.cells (evC x) 40) = w3 at *
          clear hT hq
          have hbr := hb.trans (hbT.mono hb.size)
          obtain ⟨q4, h4⟩ : ∃ q, (x.k == 4) = q := ⟨_, rfl⟩
          obtain ⟨q5, h5⟩ : ∃ q, (x.k == 5) = q := ⟨_, rfl⟩
          obtain ⟨q8, h8⟩ : ∃ q, (x.k == 8) = q := ⟨_, rfl⟩
          obtain ⟨q9, h9⟩ : ∃ q, (x.k == 9) = q := ⟨_, rfl⟩
          have hno : q4 = false → q5 = false → q8 = false → q9 = false → PlainL z (j + 1) := fun a4 a5 a8 a9 => HP.out (by
            rw [a4] at h4; rw [a5] at h5; rw [a8] at h8; rw [a9] at h9
            exact ⟨beq_eq_false_iff_ne.1 h4, beq_eq_false_iff_ne.1 h5, beq_eq_false_iff_ne.1 h8, beq_eq_false_iff_ne.1 h9⟩)
          have HN := Lib.hid hno
          clear hno HP
          cases q4
          · cases q5
            · cases q8
              · cases q9
                · go_wp2
                  go_roundw
                  case rel => exact ⟨j + 1, by omega, by go_num, HN.out rfl rfl rfl rfl, hbT⟩
                  case measure => (simp [intOf]; try omega)
                · go_wp2
                  go_ret
                  exact ⟨rfl, hbr⟩
              · go_wp2
                go_ret
                exact ⟨rfl, hbr⟩
            · go_wp2
              go_ret
              exact ⟨rfl, hbr⟩
          · go_wp2
            go_ret
            exact ⟨rfl, hbr⟩
        · obtain rfl : j = z.length := by omega
          have hF := HF.out hP
          have hbr := hb.trans (hq.mono hb.size)
          clear hP HF d0
          go_wp2
          go_roundw
          case rel => exact ⟨k + 1, by omega, by go_num, hF, hbr⟩
          case measure => (simp [intOf]; try omega)
    · obtain rfl : k = p.length := by omega
      have HF := Lib.hid (freeP_of hF)
      have hends := fun (w3 : World) (h3 : Below wr.heap.size wr w3) => ends_any p a c w3 ((h.below hb).below h3)
      clear hF
      go_wp2_with fail
      refine (races_any p a c wr (h.below hb)).mono ?_
      rintro r w2 ⟨hb2, hR⟩
      have hk2 := hb.trans (hb2.mono hb.size)
      have hen := hends w2 hb2
      have HR := Lib.hid hR
      clear hends hb2 hb
      have hR := HR.out
      clear HR
      rcases hR with ⟨h0, rfl⟩ | ⟨hch, ⟨way, aw, cw, hW, hcw, rfl, hIw⟩ | ⟨hno, rfl⟩⟩
      · have e1 : (chkE p != 0) = true := bne_iff_ne.2 h0
        have e2 : (chkE p == 0) = false := beq_eq_false_iff_ne.2 h0
        have e3 : decide (chkE p = 0) = false := decide_eq_false h0
        have H0 := Lib.hid h0
        clear h0
        go_wp2_with fail
        refine hen.mono ?_
        rintro r w3 ⟨hb3, hE⟩
        have hk3 := hk2.trans (hb3.mono hk2.size)
        rcases hE with ⟨_, rfl⟩ | ⟨hce, _⟩
        · clear hen HF
          generalize chkE p = C at *
          go_wp2
          go_ret
          exact ⟨rfl, hk3⟩
        · exact absurd hce H0.out
      · go_wp2_with fail
        refine hen.mono ?_
        rintro r w3 ⟨hb3, hE⟩
        have hk3 := hk2.trans (hb3.mono hk2.size)
        rcases hE with ⟨hne, _⟩ | ⟨_, all, aE, cE, hA, rfl, hES, hnum⟩
        · exact absurd hch hne
        · clear hen HF hW hIw hcw hch hA hES hnum hb3 hk2
          go_wp2
          go_ret
          exact ⟨rfl, hk3⟩
      · go_wp2_with fail
        refine hen.mono ?_
        rintro r w3 ⟨hb3, hE⟩
        have hk3 := hk2.trans (hb3.mono hk2.size)
        rcases hE with ⟨hne, _⟩ | ⟨_, all, aE, cE, hA, rfl, hES, hnum⟩
        · exact absurd hch hne
        · obtain ⟨s, q, _, _, hall⟩ := meet_all (meet_free hA.ok HF.out hno) hA
          have hl : all.length = 1 := by rw [hall]; rfl
          clear hen HF hno hch hA hES hnum hb3 hk2 hall
          rw [hl]
          go_wp2
          go_ret
          exact ⟨rfl, hk3⟩
/-! The frame of the law EveryFree, by program. -/
set_option maxRecDepth 100000 in
theorem everyFree_lifted (os : Os) (started : os.Started) (H : Type) (enc : TypeId × Value → H) :
    ReturnsInHanded {} Try.checked os 9 .any (Rows.everyFreeSpec.pre6 enc Try.prog Try.f9 Rows.everyFreeRow.domain false) (Rows.everyFreeSpec.post enc Try.prog Try.f9 false true false false) := by
  refine returnsInHanded_of_change_shaped (C := Try.checked) frame_own started (by kernel_rfl) Try.func9
    (ChangeSpec.witness6 (enc := enc) (C := Try.checked) false ⟨#[], #[.slice none 0 0], []⟩ 8 (by kernel_rfl) (by kernel_rfl) (by kernel_rfl) (by kernel_rfl)) ?_
  intro W base args ds gs before hval0 hW hcnd hsz hshaped hroom
  clear hcnd hshaped
  have hval : ∀ (j : Nat) t v, Try.f9.params[j]? = some t → args[j]? = some v → Value.okWide Try.prog W .any base t v := hval0
  have hW' := hW
  obtain ⟨p, q, hA0, hV, rfl, hfz, hnd⟩ := hW
  have hA : DataW.TrodAll enc Try.prog W 0 (fun _ => true) true Try.f9.params.toList args.toList ds p := hA0
  rw [Try.params9] at hA hval
  obtain ⟨v0, vs0, d0, ds0, p0, q0, hargs, rfl, rfl, h0, r0⟩ := trodAll_cons hA
  obtain ⟨rfl, rfl, rfl⟩ := trodAll_nil r0
  obtain rfl : args = #[v0] := by cases args; simp_all
  obtain ⟨rfl, rfl⟩ := trodVars_none hV
  have k0 := h0
  have lt0 : ∀ x ∈ p0, x.block < W.heap.size := by obtain ⟨m, hm⟩ := k0; exact DataW.trod_lt m _ _ _ hm
  obtain ⟨a0, z0, c0, rfl, w0⟩ := open_prog (hval 0 22 v0 rfl rfl) h0 (fun n hn => of_decide_eq_true (List.all_eq_true.1 hsz _ (DataW.weights_mem_each (j := 0) rfl rfl n hn)))
  clear hA0 hval0
  refine (everyFree_walk a0 z0 c0 W w0).mono fun e W' ⟨he, bel⟩ => ?_
  subst he
  exact ⟨_, rfl, _, _, _, [], _, [], hW', trodAll_mk1 (shut_bool Try.underlying4 _), (trodAll_cons_mk (Below.trod frame_laid (by kernel_rfl) (of_decide_eq_true (by kernel_rfl)) k0 bel lt0) trodAll_mk0), rfl, bel.frame _, fun h => by cases h⟩

theorem everyFree_over : Rows.everyFreeRow.holds Try.pinned (OpenSpec.ofChange Rows.everyFreeSpec) :=
  OpenClaim.holds_of_wide 9 Try.f9 rfl rfl rfl rfl rfl rfl rfl ⟨rfl, rfl, rfl, rfl, rfl⟩ rfl rfl rfl rfl rfl (by kernel_rfl) Try.func9 (by kernel_rfl)
    (of_decide_eq_true (by kernel_rfl)) (by unfold Func.isWrapper; first | (rw [if_pos (by decide +kernel)]; kernel_rfl) | (rw [if_neg (by decide +kernel)]; exact ⟨rfl, rfl⟩))
    (fun os started H enc _ => everyFree_lifted os started H enc)

/-- The statement. -/
theorem everyFree_holds : Rows.EveryFreeSaid := everyFree_over

end Go.Proofs.Ytoohconipcleiaa

/- ProgSums: the additions of one thread are stored as their sum at each point: for every slice of ints. -/
import Derived.Test.YthfeakfakjecoaaRows
import Derived.Test.YthfeakfakjecoaaPgI
import Derived.Test.YthfeakfakjecoaaPgW
import Derived.Test.YthfeakfakjecoaaOne
import Derived.Test.YthfeakfakjecoaaEq8
import Derived.Test.YthfeakfakjecoaaRest
import Derived.Test.YthfeakfakjecoaaStp
import Derived.OneCell
import Derived.Test.YthfeakfakjecoaaOpenE
import Derived.Test.YthfeakfakjecoaaOpenI
namespace Go.Proofs.Ythfeakfakjecoaa
open Go.ChangeShapes Go.WideShapes Go.ChangeAt Go.RowKit

theorem infoOp : (Try.prog.info? 42).map (fun i => (i.zero, i.size, i.bytes)) = some (some (evV ⟨0, 0, 0⟩), 3, 24) := by kernel_rfl
/-- The numbers that are added. -/
def addN (l : List Int) : List Int := l.map fun n => n % 2001 - 1000
theorem addN_get (l : List Int) {k : Nat} (h : k < l.length) : (addN l).getD k 0 = l[k] % 2001 - 1000 := by
  unfold addN
  rw [List.getD_eq_getElem?_getD, List.getElem?_map, List.getElem?_eq_getElem h]
  rfl
theorem addN_small (l : List Int) : SmallL (addN l) := fun k => by
  unfold addN
  rw [List.getD_eq_getElem?_getD, List.getElem?_map]
  cases l[k]? with
  | none => simp
  | some n =>
    simp only [Option.map_some, Option.getD_some]
    have := Int.emod_nonneg n (show (2001 : Int) ≠ 0 by omega)
    have := Int.emod_lt_of_pos n (show (0 : Int) < 2001 by omega)
    omega
theorem wantK_I64 {ns : List Int} (h : SmallL ns) {k : Nat} (hk : k ≤ 6) (i : Nat) : I64 (wantK ns k i) := by
  unfold wantK I64
  split
  · have := sumK_le h (i + 1); omega
  · omega

set_option maxRecDepth 100000 in
set_option maxHeartbeats 8000000 in
theorem progSums_walk (ap : Option Addr) (l0 : List Int) (cp : Nat) (w : World) (hl : IntS w ap l0 ∧ l0.length ≤ cp ∧ l0.length * 8 ≤ 140737488351232 ∧ ∀ n ∈ l0, I64 n) :
    Calls Try.prog 6 #[.slice ap l0.length cp] w fun e w' => e = .returned (.bool true) ∧ Below w.heap.size w w' := by
  have hq := hl.1
  have hbig := hq.big
  have hlc := hl.2.1
  have HI0 := Lib.hid hl.2.2.2
  clear hl
  obtain ⟨i0, hi, hz0, hz1, hz2⟩ := info_parts infoOp
  -- the slice, at most six
  obtain ⟨l, hlE⟩ : ∃ l, l = l0.take 6 := ⟨_, rfl⟩
  have hq6 : IntS w ap l := by rw [hlE]; exact hq.takeN 6
  have h6 : l.length ≤ 6 := by rw [hlE]; simp; omega
  have HI : Hid (∀ n ∈ l, I64 n) := Lib.hid (fun n hn => HI0.out n (by rw [hlE] at hn; exact List.mem_of_mem_take hn))
  go_enter Try.func6, Try.ntmps6
  go_wp2_with fail
  refine (ran_any _).mono ?_
  rintro r w1 ⟨rfl, hb1⟩
  have hq1 := hq6.below hb1
  go_upto_if 15 with fail
  go_cut [0] (fun v wz => (∃ c, v = .slice ap l.length c) ∧ wz = w1)
  case first =>
    by_cases s : l0.length ≤ 6
    · have g1 : decide ((l0.length : Int) > 6) = false := decide_eq_false (by omega)
      have g2 : decide (6 < l0.length) = false := decide_eq_false (by omega)
      have HL := Lib.hid (show l.length = l0.length by rw [hlE, List.take_of_length_le s])
      clear hlE
      go_wp2
      go_meet
      exact ⟨⟨cp, by rw [HL.out]⟩, rfl⟩
    · have g1 : decide ((l0.length : Int) > 6) = true := decide_eq_true (by omega)
      have g2 : decide (6 < l0.length) = true := decide_eq_true (by omega)
      have HL := Lib.hid (show l.length = 6 by rw [hlE]; simp; omega)
      clear hlE
      have c6 : (6 : Int) ≤ cp := by omega
      go_wp2
      go_meet
      exact ⟨⟨cp, by rw [HL.out]⟩, rfl⟩
  case rest =>
    obtain ⟨⟨c, rfl⟩, hwc⟩ := hcut
    subst hwc
    obtain ⟨ns, hns⟩ : ∃ ns, addN l = ns := ⟨_, rfl⟩
    have hsm := addN_small l
    have hget := fun k (h : k < l.length) => addN_get l h
    rw [hns] at hsm hget
    have HSM := Lib.hid hsm
    have HGET := Lib.hid hget
    have hb4 := hb1.alloc hb1.size (.cells (ar8 fun _ => 0) 26)
    have hW4 : Has (wc.alloc (.cells (ar8 fun _ => 0) 26)) wc.heap.size (ar8 (wantK ns 0)) 26 := (Has.new wc _ _).to (ar8_congr fun i _ => by simp [wantK])
    have hs1 := hb1.size
    clear hns hsm hget hq1 HI0 hq hbig hlc hlE
    go_wp2
    obtain ⟨Wb, hWb⟩ : ∃ Wb, wc.heap.size = Wb := ⟨_, rfl⟩
    rw [hWb] at hW4 hs1 ⊢
    go_loopw [3, 5, 20] (fun v s i wr => ∃ k : Nat, k ≤ l.length ∧ i = .int .i64 k ∧ s = .int .i64 (sumK ns k) ∧ wr.ownsRow w.heap.size 42 3 v (2 * k) (evL (opsK ns k)) ∧ Has wr Wb (ar8 (wantK ns k)) 26 ∧ Below w.heap.size w wr) (fun _ _ i _ => l.length - (intOf i).toNat)
    case atStart => exact ⟨0, Nat.zero_le _, rfl, rfl, World.ownsRow_nil _ _ _ _, hW4, hb4⟩
    case round =>
      clear hW4 hb4 hWb hb1
      obtain ⟨k, hk, rfl, rfl, hown, hW, hb⟩ := hrel
      by_cases hlt : k < l.length
      · obtain ⟨b, o, rfl, d0⟩ := (hq6.below hb).at hlt
        have hg := HGET.out k hlt
        have hI := HI.out _ (List.getElem_mem hlt)
        have hsk := sumK_le HSM.out k
        have hss : sumK ns (k + 1) = sumK ns k + ns.getD k 0 := rfl
        generalize l[k] = x at *
        have q0 := Int.emod_nonneg x (show (2001 : Int) ≠ 0 by omega)
        have q1 := Int.emod_lt_of_pos x (show (0 : Int) < 2001 by omega)
        have k0 : (0 : Int) ≤ k := by omega
        have k1 : (k : Int) < l.length := by omega
        have k8 : (k : Int) < 8 := by omega
        have HG := Lib.hid hg
        have HSS := Lib.hid hss
        clear hg hss
        go_wp2_with fail
        refine (rest_any x 2001 _ (by omega) (by omega)).mono ?_
        rintro r wq ⟨rfl, hw⟩
        rw [hw]
        clear hw
        generalize x % 2001 = y at *
        generalize sumK ns k = S at *
        have b0 : -6000 ≤ S := by omega
        have b1 : S ≤ 6000 := by omega
        clear hsk
        have HE : Hid (evL (opsK ns (k + 1)) = evL (opsK ns k) ++ evL [⟨3, 0, y - 1000⟩, ⟨2, (k : Int), 0⟩]) := Lib.hid (by rw [opsK_succ, HG.out, evL_append])
        have hT := Has.new wr (evL [⟨3, 0, y - 1000⟩, ⟨2, (k : Int), 0⟩]).toArray 42
        have hbA := hb.alloc hb.size (.cells (evL [⟨3, 0, y - 1000⟩, ⟨2, (k : Int), 0⟩]).toArray 42)
        have hWA := hW.alloc (.cells (evL [⟨3, 0, y - 1000⟩, ⟨2, (k : Int), 0⟩]).toArray 42)
        have hOA := hown.alloc (.cells (evL [⟨3, 0, y - 1000⟩, ⟨2, (k : Int), 0⟩]).toArray 42)
        have hne := hWA.not_own hOA (by decide)
        go_wp2_with (at_builtin; refine app_list _ rfl (.tmp 31) (.tmp 36) 40 rfl Try.underlying40 hi hz0 hz1 hz2 rfl (by decide) rfl hOA rfl (m := 2) (news := evL [⟨3, 0, y - 1000⟩, ⟨2, (k : Int), 0⟩]) ⟨rfl, .inr ⟨_, rfl, fun j u hu => hT.cell_add (by simpa using hu)⟩⟩ (evL_one _) ?c3 ?c4 ?c5 ?_)
        case c3 => unfold maxLen; omega
        case c4 => omega
        case c5 => have := hbA.size; simpa using this
        intro v6 w9 hAp
        have hb9 := hAp.below hOA hbA (by have := hbA.size; simpa using this)
        have hW9 := hWA.grown hAp.grown hne
        have hne9 : v6.ownBlock ≠ some Wb := fun e => (hW9.not_own hAp.own (by decide)) e.symm
        have hO9 : w9.ownsRow w.heap.size 42 3 v6 (2 * (k + 1)) (evL (opsK ns (k + 1))) := by rw [HE.out]; exact hAp.own
        have f9 := hW9.free k
        have x9 := hW9.cell (ar8_get (wantK ns k) (show k < 8 by omega))
        have HWK : Hid ((ar8 (wantK ns k)).setIfInBounds k (.int .i64 (S + (y - 1000))) = ar8 (wantK ns (k + 1))) := Lib.hid (by
          rw [ar8_set _ (by omega)]
          refine ar8_congr fun i _ => ?_
          rw [wantK_succ, HSS.out, HG.out])
        clear hAp hOA hWA hbA hT hne hown hW hb d0 HE
        go_wp2
        go_roundw
        case rel => exact ⟨k + 1, by omega, by go_num, by rw [HSS.out, HG.out], ownsRow_setCell_other hO9 hne9 _, (hW9.setCell k _).to HWK.out, hb9.setCell hs1 _⟩
        case measure => (simp [intOf]; try omega)
      · obtain rfl : k = l.length := by omega
        obtain ⟨a3, c3, hv3, hE3, _⟩ := evS_own (l := opsK ns l.length) (by rw [opsK_len]; exact hown) (by rw [opsK_len]; omega)
        subst hv3
        obtain ⟨z, hz⟩ : ∃ z, opsK ns l.length = z := ⟨_, rfl⟩
        have hzl : z.length = 2 * l.length := by rw [← hz, opsK_len]
        obtain ⟨s1, s2, s3, s4, s5⟩ := sums_end HSM.out h6
        have hwI := fun i => wantK_I64 HSM.out h6 i
        rw [hz] at hE3 s1 s2 s3 s4 s5
        rw [← hzl] at s1 s2 s3 s4 s5
        rw [hz]
        have hz12 : z.length ≤ 12 := by omega
        have hmk := make_zeros z.length hz12
        have hP : PgS ((wr.alloc (.cells #[.slice a3 z.length c3] 40)).alloc (.cells (zI z.length) 3)) (some ⟨wr.heap.size, 0, none⟩) [z] :=
          pgS_one (c := c3) (T := 40) ((Has.new wr _ _).alloc _) (hE3.below (((Below.refl _ _).alloc (Nat.le_refl _) _).alloc (by simp) _))
        have hQ : IntS ((wr.alloc (.cells #[.slice a3 z.length c3] 40)).alloc (.cells (zI z.length) 3)) (some ⟨wr.heap.size + 1, 0, none⟩) (List.replicate z.length 0) :=
          zI_ints ((Has.new (wr.alloc _) _ _).at (by simp)) (by omega)
        have hb5 : Below w.heap.size w ((wr.alloc (.cells #[.slice a3 z.length c3] 40)).alloc (.cells (zI z.length) 3)) := (hb.alloc hb.size _).alloc (by have := hb.size; simp; omega) _
        have hW5 := (hW.alloc (.cells #[.slice a3 z.length c3] 40)).alloc (.cells (zI z.length) 3)
        generalize sumK ns l.length = S at *
        have HWI := Lib.hid hwI
        generalize wantK ns l.length = wf at *
        have Hs1 := Lib.hid s1
        have Hs2 := Lib.hid s2
        have Hs3 := Lib.hid s3
        have Hs4 := Lib.hid s4
        have Hs5 := Lib.hid s5
        have HZ := Lib.hid hzl
        clear hz hzl s1 s2 s3 s4 s5 hwI hW hb hE3 hown
        go_wp2_with fail
        refine (run_one z z.length rfl _ _ 1 z.length _ hP hQ).mono ?_
        rintro r w2 ⟨a2, c2, _, rfl, _, hk5⟩
        rw [List.length_replicate]
        have hb6 := hb5.trans (hk5.mono hb5.size)
        have hW6 := hW5.below hk5 hW5.lt
        have HS := Lib.hid (endR_size [z] (List.replicate z.length 0))
        have H1 := Lib.hid (endR_one [z] (List.replicate z.length 0))
        rw [Hs1.out]
        have hln : ((evR [z] (List.replicate z.length 0)).length : Int) = l.length := by rw [Hs2.out]
        generalize endR [z] (List.replicate z.length 0) = Y at *
        generalize evR [z] (List.replicate z.length 0) = L at *
        have heq := eql_ar8 (f := wf) (fun i _ => HWI.out i)
        have g1 : ((L.length : Int) == l.length) = true := beq_iff_eq.2 hln
        have g2 : (L.length == l.length) = true := beq_iff_eq.2 (by omega)
        clear hln hP hQ hb5 hk5 hW5 hmk
        go_wp2_with (refine wpList_store_row rfl endT _ _ rfl w2.heap.size Y rfl rfl endT _ ((Has.new w2 (endC PS.zero false false) endT)).out (by rw [HS.out]; rfl) (by rw [HS.out, endC_size]) H1.out ?_
                     generalize hWx : World.setRow _ _ _ = W3
                     have hZ3 : Has W3 w2.heap.size Y endT := by rw [← hWx]; exact (Has.new w2 (endC PS.zero false false) endT).setRow
                     have hk3 : Below w2.heap.size w2 W3 := by rw [← hWx]; exact below_setRow ((Below.refl _ _).alloc (Nat.le_refl _) _) (Nat.le_refl _)
                     have hb3 := hb6.trans (hk3.mono hb6.size)
                     have hW3 := hW6.below hk3 hW6.lt
                     have y0 := hZ3.cell (Hs3.out 0 (by omega))
                     have y1 := hZ3.cell (Hs3.out 1 (by omega))
                     have y2 := hZ3.cell (Hs3.out 2 (by omega))
                     have y3 := hZ3.cell (Hs3.out 3 (by omega))
                     have y4 := hZ3.cell (Hs3.out 4 (by omega))
                     have y5 := hZ3.cell (Hs3.out 5 (by omega))
                     have y6 := hZ3.cell (Hs3.out 6 (by omega))
                     have y7 := hZ3.cell (Hs3.out 7 (by omega))
                     have y12 := hZ3.cell Hs4.out
                     have y18 := hZ3.cell Hs5.out
                     have z0 : W3.cell? ⟨Wb, 0, none⟩ = some (.int .i64 (wf 0)) := hW3.cell rfl
                     have z1 : W3.cell? ⟨Wb, 1, none⟩ = some (.int .i64 (wf 1)) := hW3.cell rfl
                     have z2 : W3.cell? ⟨Wb, 2, none⟩ = some (.int .i64 (wf 2)) := hW3.cell rfl
                     have z3 : W3.cell? ⟨Wb, 3, none⟩ = some (.int .i64 (wf 3)) := hW3.cell rfl
                     have z4 : W3.cell? ⟨Wb, 4, none⟩ = some (.int .i64 (wf 4)) := hW3.cell rfl
                     have z5 : W3.cell? ⟨Wb, 5, none⟩ = some (.int .i64 (wf 5)) := hW3.cell rfl
                     have z6 : W3.cell? ⟨Wb, 6, none⟩ = some (.int .i64 (wf 6)) := hW3.cell rfl
                     have z7 : W3.cell? ⟨Wb, 7, none⟩ = some (.int .i64 (wf 7)) := hW3.cell rfl
                     clear hWx hk3 hb6 hW6)
        go_ret
        exact ⟨rfl, hb3⟩

/-! The frame of the law ProgSums, by program. -/
set_option maxRecDepth 100000 in
theorem progSums_lifted (os : Os) (started : os.Started) (H : Type) (enc : TypeId × Value → H) :
    ReturnsInHanded {} Try.checked os 6 .any (Rows.progSumsSpec.pre6 enc Try.prog Try.f6 Rows.progSumsRow.domain false) (Rows.progSumsSpec.post enc Try.prog Try.f6 false true false false) := by
  refine returnsInHanded_of_change_shaped (C := Try.checked) frame_own started (by kernel_rfl) Try.func6
    (ChangeSpec.witness6 (enc := enc) (C := Try.checked) false ⟨#[], #[.slice none 0 0], []⟩ 8 (by kernel_rfl) (by kernel_rfl) (by kernel_rfl) (by kernel_rfl)) ?_
  intro W base args ds gs before hval0 hW hcnd hsz hshaped hroom
  clear hcnd hshaped
  have hval : ∀ (j : Nat) t v, Try.f6.params[j]? = some t → args[j]? = some v → Value.okWide Try.prog W .any base t v := hval0
  have hW' := hW
  obtain ⟨p, q, hA0, hV, rfl, hfz, hnd⟩ := hW
  have hA : DataW.TrodAll enc Try.prog W 0 (fun _ => true) true Try.f6.params.toList args.toList ds p := hA0
  rw [Try.params6] at hA hval
  obtain ⟨v0, vs0, d0, ds0, p0, q0, hargs, rfl, rfl, h0, r0⟩ := trodAll_cons hA
  obtain ⟨rfl, rfl, rfl⟩ := trodAll_nil r0
  obtain rfl : args = #[v0] := by cases args; simp_all
  obtain ⟨rfl, rfl⟩ := trodVars_none hV
  have k0 := h0
  have lt0 : ∀ x ∈ p0, x.block < W.heap.size := by obtain ⟨m, hm⟩ := k0; exact DataW.trod_lt m _ _ _ hm
  obtain ⟨a0, z0, c0, rfl, w0⟩ := open_ints (hval 0 23 v0 rfl rfl) h0 (fun els sp hd => sized_slice hsz (j := 0) rfl (by rw [hd]; rfl) Try.underlying23)
  clear hA0 hval0
  refine (progSums_walk a0 z0 c0 W w0).mono fun e W' ⟨he, bel⟩ => ?_
  subst he
  exact ⟨_, rfl, _, _, _, [], _, [], hW', trodAll_mk1 (shut_bool Try.underlying4 _), (trodAll_cons_mk (Below.trod frame_laid (by kernel_rfl) (of_decide_eq_true (by kernel_rfl)) k0 bel lt0) trodAll_mk0), rfl, bel.frame _, fun h => by cases h⟩

theorem progSums_over : Rows.progSumsRow.holds Try.pinned (OpenSpec.ofChange Rows.progSumsSpec) :=
  OpenClaim.holds_of_wide 6 Try.f6 rfl rfl rfl rfl rfl rfl rfl ⟨rfl, rfl, rfl, rfl, rfl⟩ rfl rfl rfl rfl rfl (by kernel_rfl) Try.func6 (by kernel_rfl)
    (of_decide_eq_true (by kernel_rfl)) (by unfold Func.isWrapper; first | (rw [if_pos (by decide +kernel)]; kernel_rfl) | (rw [if_neg (by decide +kernel)]; exact ⟨rfl, rfl⟩))
    (fun os started H enc _ => progSums_lifted os started H enc)

/-- The statement. -/
theorem progSums_holds : Rows.ProgSumsSaid := progSums_over

end Go.Proofs.Ythfeakfakjecoaa

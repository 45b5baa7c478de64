/- RingTrue: a ring consists of pairs of different locks, and the pairs turned round have one as long. -/
import Derived.Test.YtjpopjjjnaapnaaRows
import Derived.Test.YtjpopjjjnaapnaaRgP
import Derived.Test.YtjpopjjjnaapnaaRgE
import Derived.Test.YtjpopjjjnaapnaaHasP
import Derived.Test.YtjpopjjjnaapnaaHasI
import Derived.Test.YtjpopjjjnaapnaaOpenP
namespace Go.Proofs.Ytjpopjjjnaapnaa
open Go.ChangeShapes Go.WideShapes Go.ChangeAt Go.RowKit

theorem ringOf_n (p : List (Int × Int)) (n : Nat) (hn : p.length = n) (a : Option Addr) (c : Nat) (w : World) (h : PrS w a p) (hp : okPr p) :
    Calls Try.prog 17 #[.slice a n c] w (RingPost (ringP (edgeP p)) w) := by
  subst hn; exact ringOf_ok p a c w h hp
theorem hasPr_n (p : List (Int × Int)) (n : Nat) (hn : p.length = n) (x y : Int) (a : Option Addr) (c : Nat) (w : World) (h : PrS w a p) :
    Calls Try.prog 18 #[.slice a n c, .agg #[.int .i64 x, .int .i64 y]] w fun e w' => e = .returned (.bool (hasB p (x, y))) ∧ Below w.heap.size w w' := by
  subst hn; exact hasPr_any p (x, y) a c w h
theorem hasInt_n (l : List Int) (n : Nat) (hn : l.length = n) (x : Int) (a : Option Addr) (c : Nat) (w : World) (h : IntS w a l) :
    Calls Try.prog 19 #[.slice a n c, .int .i64 x] w fun e w' => e = .returned (.bool (hasB l x)) ∧ w' = w := by
  subst hn; exact hasInt_any l x a c w h
/-- What a ring's place i says. -/
structure RgAt (p : List (Int × Int)) (L : List Int) (i : Nat) (k nx k0 : Int) : Prop where
  here : L[i]? = some k
  next : L[(i + 1) % L.length]? = some nx
  first : L[0]? = some k0
  edge : hasB p (k, nx) = true
  once : hasB (L.take i) k = false
  least : ¬ k < k0
theorem lst_get {m i : Nat} (f : Nat → Nat) (hi : i < m) : (lst m f)[i]? = some (f i : Int) := by
  simp [lst, hi]
theorem ring_at {p : List (Int × Int)} {i : Nat} (hi : i < (ringP (edgeP p)).length) : ∃ k nx k0, RgAt p (ringP (edgeP p)) i k nx k0 := by
  have hne : ringP (edgeP p) ≠ [] := fun e => by rw [e] at hi; simp at hi
  obtain ⟨m, f, h1, h2, h3, _⟩ := ringP_val hne
  rw [h2] at hi ⊢
  rw [lst_len] at hi
  have hm := Nat.mod_lt (i + 1) h1.pos
  refine ⟨f i, f ((i + 1) % m), f 0, lst_get f hi, by rw [lst_len]; exact lst_get f hm, lst_get f h1.pos, h1.edge i hi, ?_, by have := h3 i hi; omega⟩
  have ht : (lst m f).take i = lst i f := by
    unfold lst
    rw [← List.map_take, List.take_range, Nat.min_eq_left (by omega)]
  rw [ht, Bool.eq_false_iff]
  intro e
  obtain ⟨j, hj, e⟩ := lst_has.1 e
  have := h1.inj j i (by omega) hi e
  omega
theorem ring_back (E : Nat → Nat → Bool) : (ringP fun a b => E b a).length = (ringP E).length := by
  by_cases h : ringP E = []
  · by_cases h' : (ringP fun a b => E b a) = []
    · rw [h, h']
    · obtain ⟨m, f, h1, _⟩ := ringP_val h'
      exact absurd h (ringP_ne h1.back)
  · obtain ⟨m, f, h1, h2, _, h4⟩ := ringP_val h
    obtain ⟨m', f', g1, g2, _, g4⟩ := ringP_val (ringP_ne h1.back)
    have e1 := h4 _ _ g1.back
    have e2 := g4 _ _ h1.back
    rw [h2, g2, lst_len, lst_len]
    omega
def backP (x : Int × Int) : Int × Int := (x.2, x.1)
theorem edge_back (p : List (Int × Int)) : edgeP (p.map backP) = fun a b => edgeP p b a := by
  funext a b
  unfold edgeP hasB
  rw [Bool.eq_iff_iff]
  simp only [decide_eq_true_eq, List.mem_map, backP, Prod.mk.injEq]
  constructor
  · rintro ⟨⟨x, y⟩, h, rfl, rfl⟩; exact h
  · intro h; exact ⟨_, h, rfl, rfl⟩
theorem back_ok {p : List (Int × Int)} (h : okPr p) : okPr (p.map backP) := by
  intro x hx
  obtain ⟨y, hy, rfl⟩ := List.mem_map.1 hx
  obtain ⟨h1, h2, h3, h4⟩ := h y hy
  exact ⟨h3, h4, h1, h2⟩
theorem IntS.take {w : World} {a : Option Addr} {l : List Int} (h : IntS w a l) (n : Nat) : IntS w a (l.take n) := by
  refine ⟨by have := h.big; simp; omega, ?_⟩
  rcases h.ok with h0 | ⟨b, o, ha, hc⟩
  · left; simp [h0]
  · right
    refine ⟨b, o, ha, fun i hi => ?_⟩
    rw [List.getElem_take]
    exact hc i (by simp at hi; omega)
theorem IntS.get {w : World} {b o : Nat} {l : List Int} (h : IntS w (some ⟨b, o, none⟩) l) {i : Nat} {x : Int} (hi : l[i]? = some x) : w.cell? ⟨b, o + i, none⟩ = some (.int .i64 x) := by
  obtain ⟨h1, h2⟩ := List.getElem?_eq_some_iff.1 hi
  obtain ⟨b', o', e, d⟩ := h.at h1
  cases e
  rw [d, h2]
set_option maxRecDepth 100000 in
set_option maxHeartbeats 8000000 in
theorem ringTrue_walk (a : Option Addr) (z : List (Int × Int)) (c : Nat) (n : Int) (w : World) (h : PrS w a z ∧ z.length * 16 ≤ 140737488351232) (_ : I64 n) :
    Calls Try.prog 3 #[.slice a z.length c, .int .i64 n] w fun e w' => e = .returned (.bool true) ∧ Below w.heap.size w w' := by
  obtain ⟨i0, hi, hz0, hz1, hz2⟩ := info_parts infoPr
  obtain ⟨h1, h2⟩ := h
  have hbig := h1.big
  go_enter Try.func3, Try.ntmps3
  go_wp2_with fail
  refine (ringed_any _).mono ?_
  rintro r w1 ⟨rfl, hb⟩
  go_wp2_with fail
  refine (locks_any z _ c _ (h1.below hb) h2).mono ?_
  rintro r w2 ⟨a2, c2, rfl, hP, hc2, hk⟩
  replace hb := hb.trans (hk.mono hb.size)
  clear hk h1
  have hl : (z.map lockP).length = z.length := List.length_map _
  have hok := lockP_ok z
  generalize z.map lockP = p at *
  have HL := Lib.hid hl
  have HO := Lib.hid hok
  have HB := Lib.hid (show (ringP (edgeP (p.map backP))).length = (ringP (edgeP p)).length by rw [edge_back]; exact ring_back _)
  have HA := Lib.hid (fun (i : Nat) (hi : i < (ringP (edgeP p)).length) => ring_at hi)
  clear hl hok
  go_wp2_with fail
  refine (ringOf_n p z.length HL.out _ _ _ hP HO.out).mono ?_
  rintro r w4 ⟨a4, c4, rfl, hI4, hc4, hk⟩
  replace hb := hb.trans (hk.mono hb.size)
  have hP2 := hP.below hk
  have hI4b := hI4.big
  clear hk hP
  generalize ringP (edgeP p) = L at *
  go_wp2
  have hI : Below w4.heap.size w4 w4 := Below.refl _ _
  go_loopw [25] (fun i wr => ∃ k : Nat, k ≤ L.length ∧ i = .int .i64 k ∧ Below w4.heap.size w4 wr) (fun i _ => L.length - (intOf i).toNat)
  case atStart => exact ⟨0, Nat.zero_le _, rfl, hI⟩
  case round =>
    clear hI
    obtain ⟨i, hk, rfl, hk4⟩ := hrel
    by_cases hlt : i < L.length
    · have hIr := hI4.below hk4
      have hPr := hP2.below hk4
      obtain ⟨b, o, rfl, dd⟩ := hIr.at hlt
      clear dd
      obtain ⟨k, nx, k0, d⟩ := HA.out i hlt
      have d0 := hIr.get d.here
      have d1 := hIr.get d.next
      have d2 := hIr.get d.first
      rw [Nat.add_zero] at d2
      have HE := Lib.hid d.edge
      have HN := Lib.hid d.once
      have hd := decide_eq_false d.least
      clear d
      have HT := Lib.hid (show (L.take i).length = i by simp; omega)
      have hIt := hIr.take i
      clear hIr
      have hm0 : (0 : Int) ≤ ((i : Int) + 1) % L.length := Int.emod_nonneg _ (by omega)
      have hm1 : ((i : Int) + 1) % L.length < L.length := Int.emod_lt_of_pos _ (by omega)
      have hwi := IntWalk.i64_in ((i : Int) + 1) (by omega)
      have hLne : ((L.length : Int) == 0) = false := beq_eq_false_iff_ne.2 (by omega)
      have hic : (i : Int) ≤ c4 := by omega
      go_wp2_with fail
      refine (hasPr_n p z.length HL.out k nx _ _ _ hPr).mono ?_
      rintro r w5 ⟨rfl, hk5⟩
      rw [HE.out]
      replace hk4 := hk4.trans (hk5.mono hk4.size)
      replace hIt := hIt.below hk5
      replace d2 := (hk5.cell (World.block_lt_of_cell? _ _ d2)).trans d2
      clear d0 d1 hk5 hPr
      go_wp2_with fail
      refine (hasInt_n (L.take i) i HT.out k _ _ _ hIt).mono ?_
      rintro r w6 ⟨rfl, rfl⟩
      rw [HN.out]
      go_wp2
      go_roundw
      case rel => exact ⟨i + 1, by omega, by go_num, hk4⟩
      case measure => (simp [intOf]; try omega)
    · obtain rfl : i = L.length := by omega
      have hb5 := hb.trans (hk4.mono hb.size)
      have hP5 := hP2.below hk4
      clear hk4 hb hP2 hI4 HA
      generalize wr = w5 at *
      go_wp2
      have hI := Below.refl w5.heap.size w5
      go_loopw [9, 60] (fun v i wr => ∃ k : Nat, k ≤ z.length ∧ i = .int .i64 k ∧ wr.ownsRow w5.heap.size 31 2 v k (prL ((p.map backP).take k)) ∧ Below w5.heap.size w5 wr) (fun _ i _ => z.length - (intOf i).toNat)
      case atStart => exact ⟨0, Nat.zero_le _, rfl, World.ownsRow_nil _ _ _ _, hI⟩
      case round =>
        clear hI
        obtain ⟨k, hk, rfl, hown, hk5⟩ := hrel
        by_cases hlt : k < z.length
        · have hlp : k < p.length := by rw [HL.out]; exact hlt
          obtain ⟨g, o, rfl, d0, d1⟩ := (hP5.below hk5).at hlp
          have hx : prL ((p.map backP).take (k + 1)) = prL ((p.map backP).take k) ++ prL [backP p[k]] := by
            rw [List.take_add_one, List.getElem?_eq_getElem (by simpa using hlp), List.getElem_map, prL_append]; rfl
          have HX := Lib.hid hx
          clear hx
          generalize p[k] = x at *
          obtain ⟨A, B⟩ := x
          simp only at d0 d1
          have hX := Has.new wr (prC (A, B)) 31
          have hb2 := hk5.alloc hk5.size (.cells (prC (A, B)) 31)
          have hown2 := hown.alloc (.cells (prC (A, B)) 31)
          clear hk5 hown
          go_upto_region 15 with fail
          clear d0 d1
          generalize wr.alloc (.cells (prC (A, B)) 31) = w6 at *
          obtain ⟨x0, x1⟩ : w6.cell? ⟨wr.heap.size, 0, none⟩ = some (.int .i64 A) ∧ w6.cell? ⟨wr.heap.size, 1, none⟩ = some (.int .i64 B) := ⟨hX.cell rfl, hX.cell rfl⟩
          have hs := hb2.size
          go_wp2_with (at_builtin; refine app_list _ rfl (.tmp 64) (.tmp 70) 22 rfl Try.underlying22 hi hz0 hz1 hz2 rfl (by decide) rfl (hown2.alloc _) rfl (news := prL [backP (A, B)]) ⟨rfl, .inr ⟨_, rfl, fun j u hu => (Has.new w6 (prC (backP (A, B))) 31).cell_add (by simpa [prL] using hu)⟩⟩ (prL_one _) (by unfold maxLen; omega) (by omega) (by simp; omega) ?_)
          intro v' w7 hAp
          have hb6 := hAp.below (hown2.alloc _) (hb2.alloc (by omega) _) (by simp; omega)
          have ho6 := hAp.own
          rw [← HX.out] at ho6
          clear hAp hown2 hb2 hX x0 x1 hs HX
          go_wp2
          go_roundw
          case rel => exact ⟨k + 1, by omega, by go_num, ho6, hb6⟩
          case measure => (simp [intOf]; try omega)
        · obtain rfl : k = z.length := by omega
          have HBO := Lib.hid (back_ok HO.out)
          have HBL := Lib.hid (show (p.map backP).length = z.length by rw [List.length_map]; exact HL.out)
          rw [show (p.map backP).take z.length = p.map backP by rw [← HBL.out, List.take_length], ← HBL.out] at hown
          obtain ⟨a', c', rfl, hPb, _⟩ := prS_ownc hown (by rw [HBL.out]; exact hbig)
          have hb7 := hb5.trans (hk5.mono hb5.size)
          rw [HBL.out]
          clear hown hk5 hb5 hP5
          go_wp2_with fail
          refine (ringOf_n (p.map backP) z.length HBL.out _ _ _ hPb HBO.out).mono ?_
          rintro r w8 ⟨a8, c8, rfl, hI8, _, hk8⟩
          have hb8 := hb7.trans (hk8.mono hb7.size)
          rw [HB.out]
          clear hPb hI8 hk8 hb7
          go_wp2
          go_ret
          exact ⟨rfl, hb8⟩
/-! The frame of the law RingTrue, by program. -/
set_option maxRecDepth 100000 in
theorem ringTrue_lifted (os : Os) (started : os.Started) (H : Type) (enc : TypeId × Value → H) :
    ReturnsInHanded {} Try.checked os 3 .any (Rows.ringTrueSpec.pre6 enc Try.prog Try.f3 Rows.ringTrueRow.domain false) (Rows.ringTrueSpec.post enc Try.prog Try.f3 false true false false) := by
  refine returnsInHanded_of_change_shaped (C := Try.checked) frame_own started (by kernel_rfl) Try.func3
    (ChangeSpec.witness6 (enc := enc) (C := Try.checked) false ⟨#[], #[.slice none 0 0, .int .i64 0], []⟩ 8 (by kernel_rfl) (by kernel_rfl) (by kernel_rfl) (by kernel_rfl)) ?_
  intro W base args ds gs before hval0 hW hcnd hsz hshaped hroom
  clear hcnd hshaped
  have hval : ∀ (j : Nat) t v, Try.f3.params[j]? = some t → args[j]? = some v → Value.okWide Try.prog W .any base t v := hval0
  have hW' := hW
  obtain ⟨p, q, hA0, hV, rfl, hfz, hnd⟩ := hW
  have hA : DataW.TrodAll enc Try.prog W 0 (fun _ => true) true Try.f3.params.toList args.toList ds p := hA0
  rw [Try.params3] at hA hval
  obtain ⟨v0, vs0, d0, ds0, p0, q0, hargs, rfl, rfl, h0, r0⟩ := trodAll_cons hA
  obtain ⟨v1, vs1, d1, ds1, p1, q1, rfl, rfl, rfl, h1, r1⟩ := trodAll_cons r0
  obtain ⟨rfl, rfl, rfl⟩ := trodAll_nil r1
  obtain rfl : args = #[v0, v1] := by cases args; simp_all
  obtain ⟨rfl, rfl⟩ := trodVars_none hV
  have k0 := h0
  have lt0 : ∀ x ∈ p0, x.block < W.heap.size := by obtain ⟨m, hm⟩ := k0; exact DataW.trod_lt m _ _ _ hm
  obtain ⟨a0, z0, c0, rfl, w0⟩ := open_prs (hval 0 22 v0 rfl rfl) h0 (fun els sp hd => sized_slice hsz (j := 0) rfl (by rw [hd]; rfl) Try.underlying22)
  have k1 := h1
  have lt1 : ∀ x ∈ p1, x.block < W.heap.size := by obtain ⟨m, hm⟩ := k1; exact DataW.trod_lt m _ _ _ hm
  obtain ⟨a1, rfl, rfl, rfl, w1⟩ := open_int Try.underlying3 (hval 1 3 v1 rfl rfl) h1
  clear hA0 hval0
  refine (ringTrue_walk a0 z0 c0 a1 W w0 (wf_i64 w1)).mono fun e W' ⟨he, bel⟩ => ?_
  subst he
  exact ⟨_, rfl, _, _, _, [], _, [], hW', trodAll_mk1 (shut_bool Try.underlying4 _), (trodAll_cons_mk (Below.trod frame_laid (by kernel_rfl) (of_decide_eq_true (by kernel_rfl)) k0 bel lt0) (trodAll_cons_mk (Below.trod frame_laid (by kernel_rfl) (of_decide_eq_true (by kernel_rfl)) k1 bel lt1) trodAll_mk0)), rfl, bel.frame _, fun h => by cases h⟩

theorem ringTrue_over : Rows.ringTrueRow.holds Try.pinned (OpenSpec.ofChange Rows.ringTrueSpec) :=
  OpenClaim.holds_of_wide 3 Try.f3 rfl rfl rfl rfl rfl rfl rfl ⟨rfl, rfl, rfl, rfl, rfl⟩ rfl rfl rfl rfl rfl (by kernel_rfl) Try.func3 (by kernel_rfl)
    (of_decide_eq_true (by kernel_rfl)) (by unfold Func.isWrapper; first | (rw [if_pos (by decide +kernel)]; kernel_rfl) | (rw [if_neg (by decide +kernel)]; exact ⟨rfl, rfl⟩))
    (fun os started H enc _ => ringTrue_lifted os started H enc)

/-- The statement. -/
theorem ringTrue_holds : Rows.RingTrueSaid := ringTrue_over

end Go.Proofs.Ytjpopjjjnaapnaa

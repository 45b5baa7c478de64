/- Contract of text.Event at any string. -/
import Derived.Test.YtfjbnhacfficnaaGreatDoorZR
namespace Go.Proofs.YtfjbnhacfficnaaGreatDoor
open Go.RowKit

def EvPost (s : ByteArray) (w : World) (r : Ending) (w' : World) : Prop := ∃ e f, r = .returned (.tuple #[evV e, .int .i64 f]) ∧ EvRes s e f ∧ Below w.heap.size w w'
theorem split_sp (n : Nat) (s : ByteArray) (m : Int) (w : World) (hs : s.size < 4294967281) (hm : w.cell? ⟨3, 0, none⟩ = some (.int .i64 m)) (hn : Lib.countB s ⟨#[32]⟩ + 1 = n) :
    Calls Tryz.prog 53 #[.string s, .string ⟨#[32]⟩] w fun e w' => e = .returned (.slice (some ⟨w.heap.size, 0, none⟩) n n) ∧ w' = w.alloc (.cells ((Lib.splitB ⟨#[32]⟩ 0 (Lib.countB s ⟨#[32]⟩) s).map Value.string).toArray 9) := by
  subst hn
  exact l_strings_Split s ⟨#[32]⟩ m w hs hm (Nat.le_refl _)
set_option maxRecDepth 100000 in
set_option maxHeartbeats 8000000 in
theorem event_any (sx : ByteArray) (hsz : sx.size < 4294967281) (m : Int) (w : World) (hm : w.cell? ⟨3, 0, none⟩ = some (.int .i64 m)) :
    Calls Tryz.prog 29 #[.string sx] w (EvPost sx w) := by
  have hb1 := (Below.refl w.heap.size w).alloc (Nat.le_refl _) (.cells #[.int .i64 0, .int .i64 0, .int .i64 0] 55)
  have hm1 := (hb1.cell (World.block_lt_of_cell? w _ hm)).trans hm
  have hN := Has.new w #[.int .i64 0, .int .i64 0, .int .i64 0] 55
  go_enter Tryz.func29, Tryz.ntmps29
  go_wp2_with fail
  generalize w.alloc (.cells #[.int .i64 0, .int .i64 0, .int .i64 0] 55) = W1 at *
  obtain ⟨n, hn⟩ : ∃ n, Lib.countB sx ⟨#[32]⟩ + 1 = n := ⟨_, rfl⟩
  refine (split_sp n sx m W1 hsz hm1 hn).mono ?_
  rintro r w2 ⟨rfl, rfl⟩
  have hlt1 := hb1.size
  by_cases hc2 : Lib.countB sx ⟨#[32]⟩ = 2
  case neg =>
    have hR := Lib.hid (res_count hc2)
    have hn3 : ¬ (n : Int) = 3 := by omega
    have hn3b : ((n : Int) == 3) = false := beq_eq_false_iff_ne.2 hn3
    have hb2 := hb1.alloc hb1.size (.cells ((Lib.splitB ⟨#[32]⟩ 0 (Lib.countB sx ⟨#[32]⟩) sx).map Value.string).toArray 9)
    have hN2 := hN.alloc (.cells ((Lib.splitB ⟨#[32]⟩ 0 (Lib.countB sx ⟨#[32]⟩) sx).map Value.string).toArray 9)
    generalize W1.alloc (.cells ((Lib.splitB ⟨#[32]⟩ 0 (Lib.countB sx ⟨#[32]⟩) sx).map Value.string).toArray 9) = W2 at *
    clear hm1 hN hc2 hn
    go_wp2_with (refine wpList_store_row rfl 55 _ _ rfl w.heap.size #[.int .i64 0, .int .i64 0, .int .i64 0] rfl rfl 55 _ hN2.out (by kernel_rfl) rfl (by simp [Value.oneCell']) ?_)
    generalize hWx : World.setRow _ _ _ = w10
    have hN10 : Has w10 w.heap.size #[.int .i64 0, .int .i64 0, .int .i64 0] 55 := by rw [← hWx]; exact hN2.setRowW
    have hb10 : Below w.heap.size w w10 := by rw [← hWx]; exact below_setRowW hb2 (Nat.le_refl _)
    have e0 : w10.cell? ⟨w.heap.size, 0, none⟩ = some (.int .i64 0) := hN10.cell rfl
    have e1 : w10.cell? ⟨w.heap.size, 1, none⟩ = some (.int .i64 0) := hN10.cell rfl
    have e2 : w10.cell? ⟨w.heap.size, 2, none⟩ = some (.int .i64 0) := hN10.cell rfl
    go_wp2
    exact bodyPost_ret (v := .tuple #[evV ⟨0, 0, 0⟩, .int .i64 3]) (by simp [results, Tryz.results29, go_sem, e0, e1, e2, evV]) rfl ⟨⟨0, 0, 0⟩, 3, rfl, .inr ⟨hR.out, rfl, rfl⟩, hb10⟩
  obtain rfl : n = 3 := by omega
  obtain ⟨p0, p1, p2, hsp⟩ := three_parts hc2
  rw [hc2, hsp]
  simp only [List.map_cons, List.map_nil]
  have hP := Has.new W1 #[.string p0, .string p1, .string p2] 9
  have hb2 := hb1.alloc hb1.size (.cells #[.string p0, .string p1, .string p2] 9)
  have hN2 := hN.alloc (.cells #[.string p0, .string p1, .string p2] 9)
  clear hm1 hc2 hN hsz hm hn
  generalize W1.alloc (.cells #[.string p0, .string p1, .string p2] 9) = W2 at *
  have d0 : W2.cell? ⟨W1.heap.size, 0, none⟩ = some (.string p0) := hP.cell rfl
  have d1 : W2.cell? ⟨W1.heap.size, 1, none⟩ = some (.string p1) := hP.cell rfl
  have d2 : W2.cell? ⟨W1.heap.size, 2, none⟩ = some (.string p2) := hP.cell rfl
  by_cases hz0 : p0.size = 2
  case neg =>
    have hR := Lib.hid (res_sizes hsp (.inl hz0))
    have hz1 : ((p0.size : Int) == 2) = false := beq_eq_false_iff_ne.2 (by omega)
    have hz2 : ¬ (p0.size : Int) = 2 := by omega
    clear hsp
    go_wp2_with (refine wpList_store_row rfl 55 _ _ rfl w.heap.size #[.int .i64 0, .int .i64 0, .int .i64 0] rfl rfl 55 _ hN2.out (by kernel_rfl) rfl (by simp [Value.oneCell']) ?_)
    generalize hWx : World.setRow _ _ _ = w10
    have hN10 : Has w10 w.heap.size #[.int .i64 0, .int .i64 0, .int .i64 0] 55 := by rw [← hWx]; exact hN2.setRowW
    have hb10 : Below w.heap.size w w10 := by rw [← hWx]; exact below_setRowW hb2 (Nat.le_refl _)
    have e0 : w10.cell? ⟨w.heap.size, 0, none⟩ = some (.int .i64 0) := hN10.cell rfl
    have e1 : w10.cell? ⟨w.heap.size, 1, none⟩ = some (.int .i64 0) := hN10.cell rfl
    have e2 : w10.cell? ⟨w.heap.size, 2, none⟩ = some (.int .i64 0) := hN10.cell rfl
    go_wp2
    exact bodyPost_ret (v := .tuple #[evV ⟨0, 0, 0⟩, .int .i64 3]) (by simp [results, Tryz.results29, go_sem, e0, e1, e2, evV]) rfl ⟨⟨0, 0, 0⟩, 3, rfl, .inr ⟨hR.out, rfl, rfl⟩, hb10⟩
  by_cases hz2 : p2.size = 2
  case neg =>
    have hR := Lib.hid (res_sizes hsp (.inr hz2))
    have hz3 : ((p2.size : Int) == 2) = false := beq_eq_false_iff_ne.2 (by omega)
    have hz4 : ¬ (p2.size : Int) = 2 := by omega
    clear hsp
    go_wp2_with (refine wpList_store_row rfl 55 _ _ rfl w.heap.size #[.int .i64 0, .int .i64 0, .int .i64 0] rfl rfl 55 _ hN2.out (by kernel_rfl) rfl (by simp [Value.oneCell']) ?_)
    generalize hWx : World.setRow _ _ _ = w10
    have hN10 : Has w10 w.heap.size #[.int .i64 0, .int .i64 0, .int .i64 0] 55 := by rw [← hWx]; exact hN2.setRowW
    have hb10 : Below w.heap.size w w10 := by rw [← hWx]; exact below_setRowW hb2 (Nat.le_refl _)
    have e0 : w10.cell? ⟨w.heap.size, 0, none⟩ = some (.int .i64 0) := hN10.cell rfl
    have e1 : w10.cell? ⟨w.heap.size, 1, none⟩ = some (.int .i64 0) := hN10.cell rfl
    have e2 : w10.cell? ⟨w.heap.size, 2, none⟩ = some (.int .i64 0) := hN10.cell rfl
    go_wp2
    exact bodyPost_ret (v := .tuple #[evV ⟨0, 0, 0⟩, .int .i64 3]) (by simp [results, Tryz.results29, go_sem, e0, e1, e2, evV]) rfl ⟨⟨0, 0, 0⟩, 3, rfl, .inr ⟨hR.out, rfl, rfl⟩, hb10⟩
  obtain ⟨a0, a, rfl⟩ := two_bytes hz0
  obtain ⟨b0, b9, rfl⟩ := two_bytes hz2
  clear hz0 hz2
  go_wp2_with fail
  refine (words_any W2).mono ?_
  rintro r w3 ⟨b, rfl, hM, hbW, hk3⟩
  have hP3 := hP.below hk3 hP.lt
  have hN3 := hN2.below hk3 hN2.lt
  have hb3 := hb2.trans (hk3.mono hb2.size)
  have hMl := hM.lt
  clear hP hN2 hb2 hk3 d0 d1 d2 hb1
  replace hsp := Lib.hid hsp
  go_wp2_with (first | (at_range; refine wpList_range_words _ rfl _ rfl b 8 rfl hM ?_; intro w4 cnt0 hrg0 hg0 hs0) | go_in)
  go_frame
  have hb4 := ((Below.refl w3.heap.size w3).grown hg0 (Nat.le_refl _) (fun j hj => by cases hj))
  generalize hr : w3.heap.size = rr at *
  go_loopw [5] (fun _ wr => ∃ left cnt, RangeW wr b rr 8 left cnt ∧ (∀ q ∈ eight, left q = false → ¬ (wordA q = p1 ∧ isEv (tryE q a b9) = true ∧ lineB (tryE q a b9) = sx)) ∧ Below rr w3 wr) (fun _ wr => wr.rangeLeft b rr)
  case atStart => exact ⟨_, _, hrg0, fun q hq h0 => (by rw [List.contains_iff_mem.2 hq] at h0; cases h0), hb4⟩
  case round =>
    clear hrg0 hb4 hg0 hs0 hM
    obtain ⟨left, cnt, hrg, hlK, hb4⟩ := hrel
    go_wp2_with (first | (at_next; refine wpList_next_words _ rfl _ rfl b rr 8 left cnt rfl hrg ?_ ?_) | go_in)
    · intro hno
      have hR := Lib.hid (res_none hsp.out (fun q hq => hlK q hq (hno q)))
      have hb34 : Below w3.heap.size w3 wr := by rw [hr]; exact hb4
      have hNe := hN3.below hb34 hN3.lt
      have hbe := hb3.trans (hb34.mono hb3.size)
      clear hlK hrg hb4 hb34
      go_wp2_with (refine wpList_store_row rfl 55 _ _ rfl w.heap.size #[.int .i64 0, .int .i64 0, .int .i64 0] rfl rfl 55 _ hNe.out (by kernel_rfl) rfl (by simp [Value.oneCell']) ?_)
      generalize hWx : World.setRow _ _ _ = w10
      have hN10 : Has w10 w.heap.size #[.int .i64 0, .int .i64 0, .int .i64 0] 55 := by rw [← hWx]; exact hNe.setRowW
      have hb10 : Below w.heap.size w w10 := by rw [← hWx]; exact below_setRowW hbe (Nat.le_refl _)
      have e0 : w10.cell? ⟨w.heap.size, 0, none⟩ = some (.int .i64 0) := hN10.cell rfl
      have e1 : w10.cell? ⟨w.heap.size, 1, none⟩ = some (.int .i64 0) := hN10.cell rfl
      have e2 : w10.cell? ⟨w.heap.size, 2, none⟩ = some (.int .i64 0) := hN10.cell rfl
      go_wp2
      exact bodyPost_ret (v := .tuple #[evV ⟨0, 0, 0⟩, .int .i64 3]) (by simp [results, Tryz.results29, go_sem, e0, e1, e2, evV]) rfl ⟨⟨0, 0, 0⟩, 3, rfl, .inr ⟨hR.out, rfl, rfl⟩, hb10⟩
    · intro k w5 cnt' hk8 hlk hrg5 hlt5 hg5 hs5 hen
      have hb5 := hb4.grown hg5 (by have := hb4.size; omega) (fun q hq => by cases hq; exact Nat.le_refl _)
      unfold wordV at hen ⊢
      have hNw := Has.new w5 #[.string (wordA k), .string (letA k)] woT
      have hb6 := hb5.alloc (by have := hb5.size; omega) (.cells #[.string (wordA k), .string (letA k)] woT)
      have hrg6 := hrg5.below ((Below.refl _ _).alloc (Nat.le_refl _) (.cells #[.string (wordA k), .string (letA k)] woT))
      go_upto_region 6 with fail
      generalize hw6 : w5.alloc (.cells #[.string (wordA k), .string (letA k)] woT) = w6 at *
      have hb36 : Below w3.heap.size w3 w6 := by rw [hr]; exact hb6
      have hP6 := hP3.below hb36 hP3.lt
      have hN6 := hN3.below hb36 hN3.lt
      have F0 : ∀ w7, Below w6.heap.size w6 w7 → w7.cell? ⟨W1.heap.size, 0, none⟩ = some (.string ⟨#[a0, a]⟩) := fun w7 h7 => (hP6.below h7 hP6.lt).cell rfl
      have F2 : ∀ w7, Below w6.heap.size w6 w7 → w7.cell? ⟨W1.heap.size, 2, none⟩ = some (.string ⟨#[b0, b9]⟩) := fun w7 h7 => (hP6.below h7 hP6.lt).cell rfl
      clear hen hb4 hb5 hrg5
      refine wp_region_fac 15 (fun _ => false) [.one ?a0, .one ?a1, .one ?a2, .one ?a3, .one ?a4, .one ?a5, .one ?a6, .one ?a7, .one ?a8, .one ?a9, .one ?a10, .one ?a11, .one ?a12, .one ?a13, .rel (NewE w6.heap.size)] (by kernel_rfl) (by kernel_rfl) (by kernel_rfl) ?sta ?goa
      case sta =>
        intro F hF v w7 w8 h7 h8
        simp at hF
        subst hF
        exact h7.on h8
      case goa =>
      simp only [List.take_succ_cons, List.take_zero, List.drop_succ_cons, List.drop_zero]
      repeat (with_reducible refine wpFac_one rfl (fun w1 hw1 hd => ?_) (fun a1 ha1 => ?_); (· have eF0 := F0 w1 hw1; have eF2 := F2 w1 hw1; go_simp; first | exact rfl | (refine ⟨atD_some ?_, Below.refl _ _⟩; simp only [List.getElem?_toArray, List.getElem?_cons_succ, List.getElem?_cons_zero]; exact rfl)); simp [Act.put] at ha1; subst ha1)
      with_reducible refine wpFac_rel rfl (fun w1 hw1 hd => ?_) (fun v14 a1 ha1 => ?_)
      · go_simp
        refine ⟨_, atD_some ?_, ⟨_, _, rfl, hw1.size, rfl, Has.new _ _ _⟩, (Below.refl _ _).alloc (Nat.le_refl _) _⟩
        simp only [List.getElem?_toArray, List.getElem?_cons_succ, List.getElem?_cons_zero]
      simp [Act.put] at ha1; subst ha1
      refine wpFac_nil ?_
      intro w7 hw7 hG
      obtain ⟨be, cs, e14, hBe, hs, hE7⟩ : NewE w6.heap.size v14 w7 := hG 14 (by decide) (by kernel_rfl)
      subst e14
      obtain ⟨tn, htn⟩ : ∃ tn : Int, (a.toNat : Int) - 48 = tn := ⟨_, rfl⟩
      obtain ⟨on, hon⟩ : ∃ on : Int, (b9.toNat : Int) - 48 = on := ⟨_, rfl⟩
      have hal := a.toNat_lt
      have hbl := b9.toNat_lt
      have wT : ∀ h, IntKind.i64.wrap (IntKind.i64.wrap ((((⟨#[a0, a]⟩ : ByteArray)[1]'h).toNat : Nat) : Int) - 48) = tn := by
        intro h
        show IntKind.i64.wrap (IntKind.i64.wrap (a.toNat : Int) - 48) = tn
        rw [show IntKind.i64.wrap ((a.toNat : Nat) : Int) = ((a.toNat : Nat) : Int) from IntWalk.i64_in _ (by omega), IntWalk.i64_in _ (by omega)]
        exact htn
      have wO : ∀ h, IntKind.i64.wrap (IntKind.i64.wrap ((((⟨#[b0, b9]⟩ : ByteArray)[1]'h).toNat : Nat) : Int) - 48) = on := by
        intro h
        show IntKind.i64.wrap (IntKind.i64.wrap (b9.toNat : Int) - 48) = on
        rw [show IntKind.i64.wrap ((b9.toNat : Nat) : Int) = ((b9.toNat : Nat) : Int) from IntWalk.i64_in _ (by omega), IntWalk.i64_in _ (by omega)]
        exact hon
      have hte := Lib.hid (show tryE k a b9 = ⟨k, tn, on⟩ by unfold tryE; rw [htn, hon])
      simp only [wT, wO]
      clear F0 F2 wT wO hG htn hon hal hbl
      go_upto_region 7 with (refine wpList_store_row rfl 55 _ _ rfl be #[.int .i64 (k : Int), .int .i64 tn, .int .i64 on] rfl rfl 55 _ hE7.out (by kernel_rfl) (by rw [hs]; rfl) (by simp [Value.oneCell']) ?_)
      generalize hWx : World.setRow _ _ _ = w8
      have hE8 : Has w8 be #[.int .i64 (k : Int), .int .i64 tn, .int .i64 on] 55 := by rw [← hWx]; exact hE7.setRowW
      have hk68 : Below w6.heap.size w6 w8 := by rw [← hWx]; exact below_setRowW hw7 hBe
      have e0 : w8.cell? ⟨be, 0, none⟩ = some (.int .i64 k) := hE8.cell rfl
      have e1 : w8.cell? ⟨be, 1, none⟩ = some (.int .i64 tn) := hE8.cell rfl
      have e2 : w8.cell? ⟨be, 2, none⟩ = some (.int .i64 on) := hE8.cell rfl
      clear hWx hE7 hw7
      go_wp2_with fail
      refine (line_any ⟨k, tn, on⟩ w8).mono ?_
      rintro r w9 ⟨rfl, hk89⟩
      have hk69 := hk68.trans (hk89.mono hk68.size)
      have hE9 := hE8.below hk89 hE8.lt
      have hrg9 := hrg6.below hk69
      have hNw9 := hNw.below hk69 hNw.lt
      have hP9 := hP6.below hk69 hP6.lt
      have hN9 := hN6.below hk69 hN6.lt
      have hb39 := hb36.trans (hk69.mono hb36.size)
      clear e0 e1 e2 hE8 hrg6 hNw hP6 hN6 hk68 hk89 hk69 hb36 hb6
      have a0 : w9.cell? ⟨wr.heap.size, 0, none⟩ = some (.string (wordA k)) := by rw [← hs5]; exact hNw9.cell rfl
      have a1 : w9.cell? ⟨W1.heap.size, 1, none⟩ = some (.string p1) := hP9.cell rfl
      have hnext : (¬ (wordA k = p1 ∧ isEv ⟨k, tn, on⟩ = true ∧ lineB ⟨k, tn, on⟩ = sx)) → ∀ q ∈ eight, (left q && !(q == k)) = false → ¬ (wordA q = p1 ∧ isEv (tryE q a b9) = true ∧ lineB (tryE q a b9) = sx) := by
        intro hno q hq h0
        by_cases hqk : q = k
        · subst hqk
          rw [hte.out]
          exact hno
        · have : (q == k) = false := beq_eq_false_iff_ne.2 hqk
          rw [this] at h0
          exact hlK q hq (by simpa using h0)
      clear hlK
      by_cases hw : wordA k = p1
      case neg =>
        have hnx := Lib.hid (hnext (fun h => hw h.1))
        have hne3 : ((wordA k).toList == p1.toList) = false := by rw [strEqT]; exact decide_eq_false hw
        clear hnext
        generalize (if isEv ⟨k, tn, on⟩ = true then lineB ⟨k, tn, on⟩ else ⟨#[]⟩) = u1
        generalize (if isEv ⟨k, tn, on⟩ = true then (0 : Int) else 1) = u2
        generalize wordA k = wk at *
        go_upto_region 8 with fail
        go_quiet (fail)
        obtain ⟨wd, hwd⟩ : ∃ wd, w9.drewN nq = wd := ⟨_, rfl⟩
        have hq : Quiet w9 wd := ⟨nq, hwd⟩
        have hbd := hb39.trans (hq.below _)
        have hrgd := hrg9.below (hq.below _)
        rw [hwd]
        clear hwd hq a0 a1 hb39 hNw9 hP9 hrg9
        go_wp2
        go_roundw
        case rel => exact ⟨_, _, hrgd, hnx.out, by rw [← hr]; exact hbd⟩
        case measure => rw [hrgd.left_eq, hrg.left_eq]; exact hlt5
      obtain rfl : p1 = wordA k := hw.symm
      cases hE : isEv ⟨k, tn, on⟩
      case false =>
        have hnx := Lib.hid (hnext (fun h => by rw [hE] at h; cases h.2.1))
        clear hnext
        rw [if_neg (by simp), if_neg (by simp)]
        go_upto_region 8 with fail
        go_quiet (fail)
        obtain ⟨wd, hwd⟩ : ∃ wd, w9.drewN nq = wd := ⟨_, rfl⟩
        have hq : Quiet w9 wd := ⟨nq, hwd⟩
        have hbd := hb39.trans (hq.below _)
        have hrgd := hrg9.below (hq.below _)
        rw [hwd]
        clear hwd hq a0 a1 hb39 hNw9 hP9 hrg9
        go_wp2
        go_roundw
        case rel => exact ⟨_, _, hrgd, hnx.out, by rw [← hr]; exact hbd⟩
        case measure => rw [hrgd.left_eq, hrg.left_eq]; exact hlt5
      rw [if_pos rfl, if_pos rfl]
      by_cases hls : lineB ⟨k, tn, on⟩ = sx
      case neg =>
        have hnx := Lib.hid (hnext (fun h => hls h.2.2))
        have hne3 : ((lineB ⟨k, tn, on⟩).toList == sx.toList) = false := by rw [strEqT]; exact decide_eq_false hls
        clear hnext
        generalize lineB ⟨k, tn, on⟩ = u1 at *
        go_upto_region 8 with fail
        go_quiet (fail)
        obtain ⟨wd, hwd⟩ : ∃ wd, w9.drewN nq = wd := ⟨_, rfl⟩
        have hq : Quiet w9 wd := ⟨nq, hwd⟩
        have hbd := hb39.trans (hq.below _)
        have hrgd := hrg9.below (hq.below _)
        rw [hwd]
        clear hwd hq a0 a1 hb39 hNw9 hP9 hrg9
        go_wp2
        go_roundw
        case rel => exact ⟨_, _, hrgd, hnx.out, by rw [← hr]; exact hbd⟩
        case measure => rw [hrgd.left_eq, hrg.left_eq]; exact hlt5
      have hres := Lib.hid (show EvRes sx ⟨k, tn, on⟩ 0 from .inl ⟨hE, hls, rfl⟩)
      rw [hls]
      clear hnext hls hE
      go_upto_region 8 with fail
      go_quiet (fail)
      obtain ⟨wd, hwd⟩ : ∃ wd, w9.drewN nq = wd := ⟨_, rfl⟩
      have hq : Quiet w9 wd := ⟨nq, hwd⟩
      have hEd := hE9.quiet hq
      have hNd := hN9.quiet hq
      have hbd := hb39.trans (hq.below _)
      rw [hwd]
      clear hwd hq a0 a1 hE9 hN9 hb39 hNw9 hP9 hrg9
      have e0 : wd.cell? ⟨be, 0, none⟩ = some (.int .i64 k) := hEd.cell rfl
      have e1 : wd.cell? ⟨be, 1, none⟩ = some (.int .i64 tn) := hEd.cell rfl
      have e2 : wd.cell? ⟨be, 2, none⟩ = some (.int .i64 on) := hEd.cell rfl
      go_wp2_with (refine wpList_store_row rfl 55 _ _ rfl w.heap.size #[.int .i64 (k : Int), .int .i64 tn, .int .i64 on] rfl rfl 55 _ hNd.out (by kernel_rfl) rfl (by simp [Value.oneCell']) ?_)
      generalize hWx : World.setRow _ _ _ = w10
      have hN10 : Has w10 w.heap.size #[.int .i64 (k : Int), .int .i64 tn, .int .i64 on] 55 := by rw [← hWx]; exact hNd.setRowW
      have hb10 : Below w.heap.size w w10 := by rw [← hWx]; exact below_setRowW (hb3.trans (hbd.mono hb3.size)) (Nat.le_refl _)
      clear e0 e1 e2 hWx
      have e0 : w10.cell? ⟨w.heap.size, 0, none⟩ = some (.int .i64 k) := hN10.cell rfl
      have e1 : w10.cell? ⟨w.heap.size, 1, none⟩ = some (.int .i64 tn) := hN10.cell rfl
      have e2 : w10.cell? ⟨w.heap.size, 2, none⟩ = some (.int .i64 on) := hN10.cell rfl
      go_wp2
      exact bodyPost_ret (v := .tuple #[evV ⟨k, tn, on⟩, .int .i64 0]) (by simp [results, Tryz.results29, go_sem, e0, e1, e2, evV]) rfl ⟨_, 0, rfl, hres.out, hb10⟩
end Go.Proofs.YtfjbnhacfficnaaGreatDoor

/- Graph: contract. -/
import Derived.Test.YthfeakfakjecoaaGrP
import Derived.Test.YthfeakfakjecoaaEqE0
import Derived.Test.YthfeakfakjecoaaRowI
import Derived.Test.YthfeakfakjecoaaRgE
import Derived.Deep.DeepCutAuto
namespace Go.Proofs.Ythfeakfakjecoaa
open Go.RowKit Go.Maps

theorem idx5i (f : Nat → Int) {k : Nat} (hk : k < 5) (w : World) : (Instr.index 75 (.agg #[.int .i64 (f 0), .int .i64 (f 1), .int .i64 (f 2), .int .i64 (f 3), .int .i64 (f 4)]) (.int .i64 (k : Int))).run Try.prog w = .ok (.int .i64 (f k)) w := by
  rcases (by omega : k = 0 ∨ k = 1 ∨ k = 2 ∨ k = 3 ∨ k = 4) with rfl | rfl | rfl | rfl | rfl <;> kernel_rfl
theorem MapP.kept' {w w' : World} {b n : Nat} {L : List (Int × Int)} (h : MapP w b n L) (k : Below w.heap.size w w') : MapP w' b n L :=
  World.ownsMap.kept h (row := none) ⟨k.os, k.tape, k.output, k.size, fun i hi _ => k.block i hi⟩ (by simp)
theorem MapP.setCell {w : World} {b n : Nat} {L : List (Int × Int)} (h : MapP w b n L) (g i : Nat) (v : Value) (hne : b ≠ g) : MapP (w.setCell ⟨g, i, none⟩ v) b n L :=
  World.ownsMap.kept h (row := some g) ⟨rfl, rfl, rfl, by simp, fun j _ hj => Below.heap_setCell _ _ _ _ (by intro e; exact hj (by rw [e]))⟩ (by simpa using hne)
theorem nxt_else {s : St} {e : Ev} (h3 : e.k ≠ 3) (h4 : e.k ≠ 4) : (nxt s e).owner = s.owner := by
  unfold nxt
  rw [if_neg h3, if_neg h4]
  split
  · rfl
  · split <;> rfl
abbrev zo5 : Array Value := #[.int .i64 0, .int .i64 0, .int .i64 0, .int .i64 0, .int .i64 0]
/-- Pairs, or none. -/
def GraphPost (L : List (Int × Int)) (w : World) (r : Ending) (w' : World) : Prop := ∃ a c, r = .returned (.tuple #[.slice a L.length c, .int .i64 0]) ∧ PrS w' a L ∧ L.length ≤ c ∧ Below w.heap.size w w'
set_option maxRecDepth 100000 in
theorem graph_err (l : List Ev) (a : Option Addr) (c : Nat) (w : World) (h : EvS w a l) (he : (played l).2.2 ≠ 0) :
    Calls Try.prog 19 #[.slice a l.length c] w fun r w' => r = .returned (.tuple #[.slice none 0 0, .int .i64 (played l).2.2]) ∧ Below w.heap.size w w' := by
  have he2 : ((played l).2.2 != 0) = true := by simpa using he
  go_enter Try.func19, Try.ntmps19
  go_wp2_with fail
  refine (check_any l a c _ h).mono ?_
  rintro r w1 ⟨rfl, hb⟩
  clear he
  go_wp2
  go_ret2
  exact ⟨rfl, hb⟩
set_option maxRecDepth 100000 in
set_option maxHeartbeats 8000000 in
theorem graph_ok (l : List Ev) (a : Option Addr) (c : Nat) (w : World) (h : EvS w a l) (he : (played l).2.2 = 0) :
    Calls Try.prog 19 #[.slice a l.length c] w (GraphPost (grOut l) w) := by
  obtain ⟨hl80, _⟩ := played_evs he
  obtain ⟨i0, hi, hz0, hz1, hz2⟩ := info_parts infoPr
  have HEV := Lib.hid (fun i (hi : i < l.length) => ev_at he hi)
  have HI64 := Lib.hid (fun n (hn : n ≤ l.length) => grS_i64 he hn)
  have hmm := @run_makeMap Try.prog
  have hcm := check_any l a c _ h
  rw [he] at hcm
  clear he
  go_enter Try.func19, Try.ntmps19
  go_wp2_with fail
  refine hcm.mono ?_
  clear hcm
  rintro r w1 ⟨rfl, hb⟩
  have h1 := h.below hb
  have hM := (MapP.made w1).alloc (.cells zo5 75)
  have hO : Has ((w1.alloc (.map #[] 0)).alloc (.cells zo5 75)) (w1.heap.size + 1) (rowI 5 (stAt l 0).owner) 75 := ((Has.new (w1.alloc (.map #[] 0)) zo5 75).at (by simp)).to rfl
  have hb1 := ((Below.refl w1.heap.size w1).alloc (Nat.le_refl _) (.map #[] 0)).alloc (by simp) (.cells zo5 75)
  clear h
  go_wp2
  go_loopw [27] (fun i wr => ∃ k : Nat, k ≤ l.length ∧ i = .int .i64 k ∧ MapP wr w1.heap.size (grS l k).length (grS l k) ∧ Has wr (w1.heap.size + 1) (rowI 5 (stAt l k).owner) 75 ∧ Below w1.heap.size w1 wr) (fun i _ => l.length - (intOf i).toNat)
  case atStart => exact ⟨0, Nat.zero_le _, rfl, hM, hO, hb1⟩
  case round =>
    clear hM hO hb1 hmm
    obtain ⟨k, hk, rfl, hM, hO, hb1⟩ := hrel
    by_cases hlt : k < l.length
    · obtain ⟨b, o, rfl, d0, d1, d2⟩ := (h1.below hb1).at hlt
      obtain ⟨t0, t6, o0, oM⟩ := HEV.out k hlt
      have hN : stAt l (k + 1) = nxt (stAt l k) (evAt l k) := stFrom_succ St.first l k hlt
      have hS : grS l (k + 1) = grS l k ++ grStep (stAt l k) (evAt l k) := rfl
      have hi64 := HI64.out (k + 1) hlt
      rw [evAt_lt hlt] at hN hS t0 t6 o0 oM
      rw [hS] at hi64
      have hSl := grS_len l k
      generalize l[k] = e at *
      have hMx := hM.alloc (.cells (evC e) 37)
      have hOx := hO.alloc (.cells (evC e) 37)
      have hbx := hb1.alloc hb1.size (.cells (evC e) 37)
      have hX := Has.new wr (evC e) 37
      have hol := hOx.lt
      have hxb : w1.heap.size + 1 < wr.heap.size := hO.lt
      have hob : w1.heap.size ≠ w1.heap.size + 1 := by omega
      have hobx : wr.heap.size ≠ w1.heap.size + 1 := by omega
      have hmx : wr.heap.size ≠ w1.heap.size := by omega
      have HN := Lib.hid hN
      have HS := Lib.hid hS
      have HI := Lib.hid hi64
      clear hN hS hi64 hM hO hb1
      generalize grS l k = S at *
      generalize stAt l k = s at *
      obtain ⟨K, T, O⟩ := e
      simp only at d0 d1 d2 t0 t6 o0 oM
      obtain ⟨O, rfl⟩ := Int.eq_ofNat_of_zero_le o0
      have tw : IntKind.i64.wrap (T + 1) = T + 1 := IntWalk.i64_in _ (by omega)
      by_cases hK3 : K = 3
      · subst hK3
        have hO5 : O < 5 := by have : manyOf 3 = 5 := rfl; omega
        have HS2 := Lib.hid (show grS l (k + 1) = S ++ grPart s.owner T O 5 from HS.out)
        have HO2 := Lib.hid (show (rowI 5 s.owner).setIfInBounds O (.int .i64 (T + 1)) = rowI 5 (stAt l (k + 1)).owner by
          rw [rowI_set, HN.out]
          rfl)
        have HI2 := Lib.hid (show ∀ x ∈ S ++ grPart s.owner T O 5, I64P x from HI.out)
        clear HS HN HI oM
        go_upto_region 11 with fail
        clear d0 d1 d2
        generalize wr.alloc (.cells (evC ⟨3, T, O⟩) 37) = w5 at *
        obtain ⟨x0, x1, x2⟩ : w5.cell? ⟨wr.heap.size, 0, none⟩ = some (.int .i64 3) ∧ w5.cell? ⟨wr.heap.size, 1, none⟩ = some (.int .i64 T) ∧ w5.cell? ⟨wr.heap.size, 2, none⟩ = some (.int .i64 (O : Int)) := ⟨hX.cell rfl, hX.cell rfl, hX.cell rfl⟩
        obtain ⟨c0, c1, c2, c3, c4⟩ : _ ∧ _ ∧ _ ∧ _ ∧ _ := ⟨hOx.cell (rowI_get 5 s.owner (k := 0) (by omega)), hOx.cell (rowI_get 5 s.owner (k := 1) (by omega)), hOx.cell (rowI_get 5 s.owner (k := 2) (by omega)), hOx.cell (rowI_get 5 s.owner (k := 3) (by omega)), hOx.cell (rowI_get 5 s.owner (k := 4) (by omega))⟩
        have hMx0 : MapP w5 w1.heap.size (S ++ grPart s.owner T O 0).length (S ++ grPart s.owner T O 0) := by
          rw [show grPart s.owner T O 0 = [] from rfl, List.append_nil]; exact hMx
        clear hMx
        have HIX := Lib.hid (fun k (hk : k < 5) (W : World) => idx5i s.owner hk W)
        go_wp2
        clear c0 c1 c2 c3 c4 x0 x1 x2
        generalize #[Value.int .i64 (s.owner 0), Value.int .i64 (s.owner 1), Value.int .i64 (s.owner 2), Value.int .i64 (s.owner 3), Value.int .i64 (s.owner 4)] = ownV at *
        generalize wr.heap.size = xb at *
        go_loopw [36] (fun i wv => ∃ j : Nat, j ≤ 5 ∧ i = .int .i64 j ∧ MapP wv w1.heap.size (S ++ grPart s.owner T O j).length (S ++ grPart s.owner T O j) ∧ Has wv (w1.heap.size + 1) (rowI 5 s.owner) 75 ∧ Has wv xb (evC ⟨3, T, O⟩) 37 ∧ Below w1.heap.size w1 wv) (fun i _ => 5 - (intOf i).toNat)
        case atStart => exact ⟨0, Nat.zero_le _, rfl, hMx0, hOx, hX, hbx⟩
        case round =>
          clear hMx0 hOx hX hbx
          obtain ⟨j, hj, rfl, hM, hO, hX, hb1⟩ := hrel
          by_cases hj5 : j < 5
          · have hjd : decide ((j : Int) < 5) = true := decide_eq_true (by omega)
            have hix := HIX.out j hj5
            obtain ⟨x1, x2⟩ : wr.cell? ⟨xb, 1, none⟩ = some (.int .i64 T) ∧ wr.cell? ⟨xb, 2, none⟩ = some (.int .i64 (O : Int)) := ⟨hX.cell rfl, hX.cell rfl⟩
            have hpl := grPart_len s.owner T O j
            obtain ⟨A, hA⟩ : ∃ A, s.owner j = A := ⟨_, rfl⟩
            rw [hA] at hix
            obtain ⟨q, hq⟩ : ∃ q, (A == T + 1) = q := ⟨_, rfl⟩
            cases q
            · have HP := Lib.hid (show grPart s.owner T O (j + 1) = grPart s.owner T O j from grPart_no (by rw [hA]; exact hq))
              clear hA
              go_wp2
              go_roundw
              case rel => exact ⟨j + 1, by omega, by go_num, by rw [HP.out]; exact hM, hO, hX, hb1⟩
              case measure => (simp [intOf]; try omega)
            · have HP := Lib.hid (show S ++ grPart s.owner T O (j + 1) = S ++ grPart s.owner T O j ++ [((j : Int), (O : Int))] by rw [grPart_yes (by rw [hA]; exact hq), List.append_assoc])
              have hpI : I64P ((j : Int), (O : Int)) := ⟨⟨by simp only; omega, by simp only; omega⟩, ⟨by simp only; omega, by simp only; omega⟩⟩
              have HL := Lib.hid (show (S ++ grPart s.owner T O j).length < maxLen by unfold maxLen; rw [List.length_append]; omega)
              generalize S ++ grPart s.owner T O j = S2 at *
              clear hA hpl
              go_wp2_with (first | (at_mapUpdate; refine wpList_mapUpdate_own _ rfl _ _ _ 85 rfl 52 4 pr_keyed Try.underlying85 _ w1.heap.size S2.length (prD S2) rfl hM HL.out _ _ (prKey ((j : Int), (O : Int))) rfl rfl (keyOf_pr ((j : Int), (O : Int)) hpI.1 hpI.2) (.lit (.bool true)) [] (plainElem_bool Try.underlying4 true) ?_; intro w3 hM3 hg3) | go_in)
              have hO3 := hO.grown hg3 (by simp)
              have hX3 := hX.grown hg3 (by simpa using hmx)
              have hb3 := hb1.grown hg3 hb1.size (fun j hj => by cases hj; exact Nat.le_refl _)
              go_roundw
              case rel => exact ⟨j + 1, by omega, by go_num, by rw [HP.out, List.length_append, MapP, prD_snoc]; exact hM3, hO3, hX3, hb3⟩
              case measure => (simp [intOf]; try omega)
          · obtain rfl : j = 5 := by omega
            obtain ⟨x1, x2⟩ : wr.cell? ⟨xb, 1, none⟩ = some (.int .i64 T) ∧ wr.cell? ⟨xb, 2, none⟩ = some (.int .i64 (O : Int)) := ⟨hX.cell rfl, hX.cell rfl⟩
            have hf := hO.free O
            have hg := hO.cell (rowI_get 5 s.owner hO5)
            have i0 : (0 : Int) ≤ O := by omega
            have i5 : (O : Int) < 5 := by omega
            have hO3 := (hO.setCell O (.int .i64 (T + 1))).to HO2.out
            have hM3 := MapP.setCell hM (w1.heap.size + 1) O (.int .i64 (T + 1)) hob
            have hb3 := hb1.setCell (show w1.heap.size ≤ (⟨w1.heap.size + 1, O, none⟩ : Addr).block by simp) (.int .i64 (T + 1))
            clear hO hM hb1 hX
            go_wp2
            go_roundw
            case rel => exact ⟨k + 1, by omega, by go_num, by rw [HS2.out]; exact hM3, hO3, hb3⟩
            case measure => (simp [intOf]; try omega)
      · by_cases hK4 : K = 4
        · subst hK4
          have hO5 : O < 5 := by have : manyOf 4 = 5 := rfl; omega
          have HS2 := Lib.hid (show grS l (k + 1) = S by rw [HS.out]; simp [grStep])
          have HO2 := Lib.hid (show (rowI 5 s.owner).setIfInBounds O (.int .i64 0) = rowI 5 (stAt l (k + 1)).owner by
            rw [rowI_set, HN.out]
            rfl)
          clear HS HN HI oM
          go_upto_region 9 with fail
          clear d0 d1 d2
          generalize wr.alloc (.cells (evC ⟨4, T, O⟩) 37) = w5 at *
          obtain ⟨x0, x1, x2⟩ : w5.cell? ⟨wr.heap.size, 0, none⟩ = some (.int .i64 4) ∧ w5.cell? ⟨wr.heap.size, 1, none⟩ = some (.int .i64 T) ∧ w5.cell? ⟨wr.heap.size, 2, none⟩ = some (.int .i64 (O : Int)) := ⟨hX.cell rfl, hX.cell rfl, hX.cell rfl⟩
          have hf := hOx.free O
          have hg := hOx.cell (rowI_get 5 s.owner hO5)
          have i0 : (0 : Int) ≤ O := by omega
          have i5 : (O : Int) < 5 := by omega
          have hO3 := (hOx.setCell O (.int .i64 0)).to HO2.out
          have hM3 := MapP.setCell hMx (w1.heap.size + 1) O (.int .i64 0) hob
          have hb3 := hbx.setCell (show w1.heap.size ≤ (⟨w1.heap.size + 1, O, none⟩ : Addr).block by simp) (.int .i64 0)
          go_wp2
          go_roundw
          case rel => exact ⟨k + 1, by omega, by go_num, by rw [HS2.out]; exact hM3, hO3, hb3⟩
          case measure => (simp [intOf]; try omega)
        · have k3 : (K == 3) = false := beq_eq_false_iff_ne.2 hK3
          have k4 : (K == 4) = false := beq_eq_false_iff_ne.2 hK4
          have HS2 := Lib.hid (show grS l (k + 1) = S by rw [HS.out]; simp [grStep, hK3])
          have HO2 := Lib.hid (show rowI 5 s.owner = rowI 5 (stAt l (k + 1)).owner by rw [HN.out, nxt_else hK3 hK4])
          clear HS HN HI oM hK3 hK4
          go_upto_region 9 with fail
          clear d0 d1 d2
          generalize wr.alloc (.cells (evC ⟨K, T, O⟩) 37) = w5 at *
          have x0 : w5.cell? ⟨wr.heap.size, 0, none⟩ = some (.int .i64 K) := hX.cell rfl
          have hO3 := hOx.to HO2.out
          go_wp2
          go_roundw
          case rel => exact ⟨k + 1, by omega, by go_num, by rw [HS2.out]; exact hMx, hO3, hbx⟩
          case measure => (simp [intOf]; try omega)
    · obtain rfl : k = l.length := by omega
      have hM5 := MapP.kept' hM (Below.refl _ _)
      have HS := Lib.hid (HI64.out l.length (Nat.le_refl _))
      have hb5 := hb.trans (hb1.mono hb.size)
      have hmb : w1.heap.size < wr.heap.size := hM.lt
      have HG := Lib.hid (show grOut l = grAll (grS l l.length) 5 from rfl)
      clear hM hO hb1 hb
      generalize grOut l = G at *
      generalize grS l l.length = S at *
      generalize wr = w5 at *
      have hbB := Below.refl w5.heap.size w5
      go_wp2
      go_loopw [12, 63] (fun v i wr => ∃ A : Nat, A ≤ 5 ∧ i = .int .i64 A ∧ wr.ownsRow w5.heap.size 52 2 v (grAll S A).length (prL (grAll S A)) ∧ Below w5.heap.size w5 wr) (fun _ i _ => 5 - (intOf i).toNat)
      case atStart => exact ⟨0, Nat.zero_le _, rfl, World.ownsRow_nil _ _ _ _, hbB⟩
      case round =>
        clear hbB
        obtain ⟨A, hA, rfl, hown, hbB⟩ := hrel
        by_cases hA5 : A < 5
        · have hAd : decide ((A : Int) < 5) = true := decide_eq_true (by omega)
          have HA1 := Lib.hid (grAll_succ S A)
          have hal := grAll_len S A
          have hown0 : wr.ownsRow w5.heap.size 52 2 u12 (grAll S A ++ grRow S A 0).length (prL (grAll S A ++ grRow S A 0)) := by
            rw [show grRow S A 0 = [] from rfl, List.append_nil]; exact hown
          clear hown
          generalize grAll S A = GA at *
          go_wp2
          go_loopw [12, 66] (fun v i wr => ∃ B : Nat, B ≤ 5 ∧ i = .int .i64 B ∧ wr.ownsRow w5.heap.size 52 2 v (GA ++ grRow S A B).length (prL (GA ++ grRow S A B)) ∧ Below w5.heap.size w5 wr) (fun _ i _ => 5 - (intOf i).toNat)
          case atStart => exact ⟨0, Nat.zero_le _, rfl, hown0, hbB⟩
          case round =>
            clear hown0 hbB
            obtain ⟨B, hB, rfl, hown, hbB⟩ := hrel
            by_cases hB5 : B < 5
            · have hBd : decide ((B : Int) < 5) = true := decide_eq_true (by omega)
              have hrl := grRow_len S A B
              have hX := Has.new wr (prC ((A : Int), (B : Int))) 52
              have hb3 := hbB.alloc hbB.size (.cells (prC ((A : Int), (B : Int))) 52)
              have hM3 := MapP.kept' hM5 hb3
              have hown3 := hown.alloc (.cells (prC ((A : Int), (B : Int))) 52)
              obtain ⟨q, hq⟩ : ∃ q, inB S ((A : Int), (B : Int)) = q := ⟨_, rfl⟩
              have hlk : (Instr.lookup 85 (.map (some w1.heap.size)) (.agg #[.int .i64 (A : Int), .int .i64 (B : Int)]) false).run Try.prog (wr.alloc (.cells (prC ((A : Int), (B : Int))) 52)) = .ok (.bool q) (wr.alloc (.cells (prC ((A : Int), (B : Int))) 52)) := by
                rw [← hq]
                exact hM3.look HS.out ((A : Int), (B : Int)) ⟨⟨by simp only; omega, by simp only; omega⟩, ⟨by simp only; omega, by simp only; omega⟩⟩
              have hs := hb3.size
              clear hown hbB hM3
              go_upto_region 29 with fail
              generalize wr.alloc (.cells (prC ((A : Int), (B : Int))) 52) = w6 at *
              obtain ⟨x0, x1⟩ : w6.cell? ⟨wr.heap.size, 0, none⟩ = some (.int .i64 (A : Int)) ∧ w6.cell? ⟨wr.heap.size, 1, none⟩ = some (.int .i64 (B : Int)) := ⟨hX.cell rfl, hX.cell rfl⟩
              cases q
              · have HR := Lib.hid (grRow_no hq)
                clear hq
                go_wp2
                go_roundw
                case rel => exact ⟨B + 1, by omega, by go_num, by rw [HR.out]; exact hown3, hb3⟩
                case measure => (simp [intOf]; try omega)
              · have HR := Lib.hid (show GA ++ grRow S A (B + 1) = GA ++ grRow S A B ++ [((A : Int), (B : Int))] by rw [grRow_yes hq, List.append_assoc])
                have HL := Lib.hid (show (GA ++ grRow S A B).length ≤ 60 by rw [List.length_append]; omega)
                clear hq hrl
                generalize GA ++ grRow S A B = G2 at *
                go_wp2_with (at_builtin; refine app_list _ rfl (.tmp 75) (.tmp 77) 47 rfl Try.underlying47 hi hz0 hz1 hz2 rfl (by decide) rfl (hown3.alloc _) rfl (news := prL [((A : Int), (B : Int))]) ⟨rfl, .inr ⟨_, rfl, fun j u hu => (Has.new w6 (prC ((A : Int), (B : Int))) 52).cell_add (by simpa [prL] using hu)⟩⟩ (prL_one _) (by have := HL.out; unfold maxLen; omega) (by have := HL.out; omega) (by simp; omega) ?_)
                intro v' w7 hAp
                have hb6 := hAp.below (hown3.alloc _) (hb3.alloc (by omega) _) (by simp; omega)
                have ho6 := hAp.own
                rw [← prL_append] at ho6
                clear hAp hown3 hb3 hX x0 x1 hs hlk
                go_wp2
                go_roundw
                case rel => exact ⟨B + 1, by omega, by go_num, by rw [HR.out, List.length_append]; exact ho6, hb6⟩
                case measure => (simp [intOf]; try omega)
            · obtain rfl : B = 5 := by omega
              rw [← HA1.out] at hown
              go_wp2
              go_roundw
              case rel => exact ⟨A + 1, by omega, by go_num, hown, hbB⟩
              case measure => (simp [intOf]; try omega)
        · obtain rfl : A = 5 := by omega
          have hal := grAll_len S 5
          rw [← HG.out] at hown hal
          obtain ⟨a', c', rfl, hP, hc, _⟩ := prS_ownc hown (by omega)
          have hb8 := hb5.trans (hbB.mono hb5.size)
          clear hown hbB hb5
          go_wp2
          go_ret2
          exact ⟨_, _, rfl, hP, hc, hb8⟩
end Go.Proofs.Ythfeakfakjecoaa

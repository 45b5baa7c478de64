/- Contracts of what a desk tells races and flags with, and of 'told' at each of its lists. Printed by a program (gen_dk.py). -/
import Derived.Test.YtfjbnhacfficnaaGreatDoorDkA
import Derived.Test.YtfjbnhacfficnaaGreatDoorZD
namespace Go.Proofs.YtfjbnhacfficnaaGreatDoor
open Go.RowKit

/-- A race, a flag, the place of a flag, as text. -/
def rcB (x : Rc) : ByteArray := itB x.a ++ ⟨#[45]⟩ ++ itB x.b
def flB (x : Ev) : ByteArray := itB x.k ++ ⟨#[58]⟩ ++ itB x.o
def wrB (x : Ev) : ByteArray := itB x.k
theorem rcB_size (x : Rc) : (rcB x).size ≤ 1000 := by
  unfold rcB
  rw [ByteArray.size_append, ByteArray.size_append]
  have h1 := itB_size x.a
  have h2 := itB_size x.b
  have h3 : (⟨#[45]⟩ : ByteArray).size = 1 := rfl
  omega
theorem flB_size (x : Ev) : (flB x).size ≤ 1000 := by
  unfold flB
  rw [ByteArray.size_append, ByteArray.size_append]
  have h1 := itB_size x.k
  have h2 := itB_size x.o
  have h3 : (⟨#[58]⟩ : ByteArray).size = 1 := rfl
  omega
theorem wrB_size (x : Ev) : (wrB x).size ≤ 1000 := by
  have h1 := itB_size x.k
  unfold wrB
  omega
theorem itB_size' (x : Int) : (itB x).size ≤ 1000 := by
  have h1 := itB_size x
  omega
theorem raceB_any (x : Rc) (h1 : I99 x.a) (h2 : I99 x.b) (w : World) :
    Calls Tryz.prog 36 #[rcV x] w fun r w' => r = .returned (.string (rcB x)) ∧ Below w.heap.size w w' := by
  have hN := Has.new w (rcC x) 71
  have hb := (Below.refl w.heap.size w).alloc (Nat.le_refl _) (.cells (rcC x) 71)
  have i1 := itoa_small _ h1
  have i2 := itoa_small _ h2
  have z1 := itB_size x.a
  have z2 := itB_size x.b
  go_enter Tryz.func36, Tryz.ntmps36
  go_upto_region 1 with fail
  generalize w.alloc (.cells (rcC x) 71) = w3 at *
  have F1 : ∀ w4, Below w3.heap.size w3 w4 → w4.cell? ⟨w.heap.size, 0, none⟩ = some (.int .i64 x.a) := fun w4 h4 => (hN.below h4 hN.lt).cell rfl
  have F2 : ∀ w4, Below w3.heap.size w3 w4 → w4.cell? ⟨w.heap.size, 1, none⟩ = some (.int .i64 x.b) := fun w4 h4 => (hN.below h4 hN.lt).cell rfl
  clear hN
  obtain ⟨A, hA⟩ : ∃ A, itB x.a = A := ⟨_, rfl⟩
  obtain ⟨B, hB⟩ : ∃ B, itB x.b = B := ⟨_, rfl⟩
  have HT : Hid (rcB x = A ++ ⟨#[45]⟩ ++ B) := Lib.hid (by rw [← hA, ← hB]; rfl)
  rw [hA] at i1 z1
  rw [hB] at i2 z2
  clear hA hB
  refine wp_region_fac 8 (fun _ => false) [.one ?a0, .one ?a1, .one (.string A), .one ?a3, .one ?a4, .one ?a5, .one (.string B), .one ?a7] (by kernel_rfl) (by kernel_rfl) (by kernel_rfl) (by intro F hF; simp at hF) ?goa
  case goa =>
  simp only [List.take_succ_cons, List.take_zero, List.drop_succ_cons, List.drop_zero]
  repeat (with_reducible refine wpFac_one rfl (fun w1 hw1 hd => ?_) (fun a1 ha1 => ?_); (· have eF1 := F1 w1 hw1; have eF2 := F2 w1 hw1; go_simp; first | exact rfl | (refine ⟨atD_some ?_, Below.refl _ _⟩; simp only [List.getElem?_toArray, List.getElem?_cons_succ, List.getElem?_cons_zero]; exact rfl)); simp [Act.put] at ha1; subst ha1)
  with_reducible refine wpFac_one rfl (fun w1 hw1 hd => ?_) (fun a1 ha1 => ?_)
  · go_simp
    refine (i1 w1).mono ?_
    rintro r w2 ⟨rfl, rfl⟩
    exact ⟨atD_some (by simp), Below.refl _ _⟩
  simp [Act.put] at ha1; subst ha1
  with_reducible refine wpFac_one rfl (fun w1 hw1 hd => ?_) (fun a1 ha1 => ?_)
  · go_simp
    rw [if_neg (by omega)]
    go_simp
    refine ⟨atD_some ?_, Below.refl _ _⟩
    simp only [List.getElem?_toArray, List.getElem?_cons_succ, List.getElem?_cons_zero]
    exact rfl
  simp [Act.put] at ha1; subst ha1
  repeat (with_reducible refine wpFac_one rfl (fun w1 hw1 hd => ?_) (fun a1 ha1 => ?_); (· have eF1 := F1 w1 hw1; have eF2 := F2 w1 hw1; go_simp; first | exact rfl | (refine ⟨atD_some ?_, Below.refl _ _⟩; simp only [List.getElem?_toArray, List.getElem?_cons_succ, List.getElem?_cons_zero]; exact rfl)); simp [Act.put] at ha1; subst ha1)
  with_reducible refine wpFac_one rfl (fun w1 hw1 hd => ?_) (fun a1 ha1 => ?_)
  · go_simp
    refine (i2 w1).mono ?_
    rintro r w2 ⟨rfl, rfl⟩
    exact ⟨atD_some (by simp), Below.refl _ _⟩
  simp [Act.put] at ha1; subst ha1
  with_reducible refine wpFac_one rfl (fun w1 hw1 hd => ?_) (fun a1 ha1 => ?_)
  · go_simp
    rw [if_neg (by omega)]
    go_simp
    refine ⟨atD_some ?_, Below.refl _ _⟩
    simp only [List.getElem?_toArray, List.getElem?_cons_succ, List.getElem?_cons_zero]
    exact rfl
  simp [Act.put] at ha1; subst ha1
  refine wpFac_nil ?_
  intro w4 hw4 _
  have hk4 := hb.trans (hw4.mono hb.size)
  clear F1 F2 hw4 i1 i2
  go_wp2
  go_ret
  exact ⟨congrArg (fun t => Ending.returned (.string t)) HT.out.symm, hk4⟩
theorem flagB_any (x : Ev) (h1 : I99 x.k) (h2 : I99 x.o) (w : World) :
    Calls Tryz.prog 39 #[evV x] w fun r w' => r = .returned (.string (flB x)) ∧ Below w.heap.size w w' := by
  have hN := Has.new w (evC x) 78
  have hb := (Below.refl w.heap.size w).alloc (Nat.le_refl _) (.cells (evC x) 78)
  have i1 := itoa_small _ h1
  have i2 := itoa_small _ h2
  have z1 := itB_size x.k
  have z2 := itB_size x.o
  go_enter Tryz.func39, Tryz.ntmps39
  go_upto_region 1 with fail
  generalize w.alloc (.cells (evC x) 78) = w3 at *
  have F1 : ∀ w4, Below w3.heap.size w3 w4 → w4.cell? ⟨w.heap.size, 0, none⟩ = some (.int .i64 x.k) := fun w4 h4 => (hN.below h4 hN.lt).cell rfl
  have F2 : ∀ w4, Below w3.heap.size w3 w4 → w4.cell? ⟨w.heap.size, 2, none⟩ = some (.int .i64 x.o) := fun w4 h4 => (hN.below h4 hN.lt).cell rfl
  clear hN
  obtain ⟨A, hA⟩ : ∃ A, itB x.k = A := ⟨_, rfl⟩
  obtain ⟨B, hB⟩ : ∃ B, itB x.o = B := ⟨_, rfl⟩
  have HT : Hid (flB x = A ++ ⟨#[58]⟩ ++ B) := Lib.hid (by rw [← hA, ← hB]; rfl)
  rw [hA] at i1 z1
  rw [hB] at i2 z2
  clear hA hB
  refine wp_region_fac 8 (fun _ => false) [.one ?a0, .one ?a1, .one (.string A), .one ?a3, .one ?a4, .one ?a5, .one (.string B), .one ?a7] (by kernel_rfl) (by kernel_rfl) (by kernel_rfl) (by intro F hF; simp at hF) ?goa
  case goa =>
  simp only [List.take_succ_cons, List.take_zero, List.drop_succ_cons, List.drop_zero]
  repeat (with_reducible refine wpFac_one rfl (fun w1 hw1 hd => ?_) (fun a1 ha1 => ?_); (· have eF1 := F1 w1 hw1; have eF2 := F2 w1 hw1; go_simp; first | exact rfl | (refine ⟨atD_some ?_, Below.refl _ _⟩; simp only [List.getElem?_toArray, List.getElem?_cons_succ, List.getElem?_cons_zero]; exact rfl)); simp [Act.put] at ha1; subst ha1)
  with_reducible refine wpFac_one rfl (fun w1 hw1 hd => ?_) (fun a1 ha1 => ?_)
  · go_simp
    refine (i1 w1).mono ?_
    rintro r w2 ⟨rfl, rfl⟩
    exact ⟨atD_some (by simp), Below.refl _ _⟩
  simp [Act.put] at ha1; subst ha1
  with_reducible refine wpFac_one rfl (fun w1 hw1 hd => ?_) (fun a1 ha1 => ?_)
  · go_simp
    rw [if_neg (by omega)]
    go_simp
    refine ⟨atD_some ?_, Below.refl _ _⟩
    simp only [List.getElem?_toArray, List.getElem?_cons_succ, List.getElem?_cons_zero]
    exact rfl
  simp [Act.put] at ha1; subst ha1
  repeat (with_reducible refine wpFac_one rfl (fun w1 hw1 hd => ?_) (fun a1 ha1 => ?_); (· have eF1 := F1 w1 hw1; have eF2 := F2 w1 hw1; go_simp; first | exact rfl | (refine ⟨atD_some ?_, Below.refl _ _⟩; simp only [List.getElem?_toArray, List.getElem?_cons_succ, List.getElem?_cons_zero]; exact rfl)); simp [Act.put] at ha1; subst ha1)
  with_reducible refine wpFac_one rfl (fun w1 hw1 hd => ?_) (fun a1 ha1 => ?_)
  · go_simp
    refine (i2 w1).mono ?_
    rintro r w2 ⟨rfl, rfl⟩
    exact ⟨atD_some (by simp), Below.refl _ _⟩
  simp [Act.put] at ha1; subst ha1
  with_reducible refine wpFac_one rfl (fun w1 hw1 hd => ?_) (fun a1 ha1 => ?_)
  · go_simp
    rw [if_neg (by omega)]
    go_simp
    refine ⟨atD_some ?_, Below.refl _ _⟩
    simp only [List.getElem?_toArray, List.getElem?_cons_succ, List.getElem?_cons_zero]
    exact rfl
  simp [Act.put] at ha1; subst ha1
  refine wpFac_nil ?_
  intro w4 hw4 _
  have hk4 := hb.trans (hw4.mono hb.size)
  clear F1 F2 hw4 i1 i2
  go_wp2
  go_ret
  exact ⟨congrArg (fun t => Ending.returned (.string t)) HT.out.symm, hk4⟩
theorem warnB_any (x : Ev) (h1 : I99 x.k) (w : World) :
    Calls Tryz.prog 42 #[evV x] w fun r w' => r = .returned (.string (wrB x)) ∧ Below w.heap.size w w' := by
  have hN := Has.new w (evC x) 78
  have hb := (Below.refl w.heap.size w).alloc (Nat.le_refl _) (.cells (evC x) 78)
  have i1 := itoa_small _ h1
  go_enter Tryz.func42, Tryz.ntmps42
  go_upto_region 1 with fail
  generalize w.alloc (.cells (evC x) 78) = w3 at *
  have F1 : w3.cell? ⟨w.heap.size, 0, none⟩ = some (.int .i64 x.k) := hN.cell rfl
  clear hN
  go_wp2_with fail
  refine (i1 w3).mono ?_
  rintro r w2 ⟨rfl, rfl⟩
  go_wp2
  go_ret
  exact ⟨rfl, hb⟩
set_option maxRecDepth 100000 in
set_option maxHeartbeats 4000000 in
theorem toldRc_any (l : List Rc) (a : Option Addr) (c : Nat) (w : World) (h : RcS w a l) (hl : l.length ≤ 10000) (hx : ∀ x ∈ l, I99 x.a ∧ I99 x.b) :
    Calls Tryz.prog 35 #[.slice a l.length c, .func (.func 36) #[] #[]] w fun r w' => r = .returned (.string (toldB (l.map rcB))) ∧ Below w.heap.size w w' := by
  obtain ⟨i0, hi, hz0, hz1, hz2⟩ := info_parts infoSt
  have HX := Lib.hid hx
  clear hx
  go_enter Tryz.func35, Tryz.ntmps35
  by_cases h0 : l = []
  · subst h0
    have HT : Hid (toldB ([].map rcB) = ⟨#[45]⟩) := Lib.hid rfl
    rw [List.length_nil]
    go_wp2
    go_ret
    exact ⟨congrArg (fun t => Ending.returned (.string t)) HT.out.symm, Below.refl _ _⟩
  · have hpos : 0 < l.length := List.length_pos_iff.2 h0
    have hne0 : ((l.length : Int) == 0) = false := beq_eq_false_iff_ne.2 (by omega)
    have HT : Hid (toldB (l.map rcB) = spB (l.map rcB)) := Lib.hid (if_neg (by simpa using h0))
    clear h0
    go_wp2
    go_loopw [5, 13] (fun v i wr => ∃ k : Nat, k ≤ l.length ∧ i = .int .i64 k ∧ wr.ownsRow w.heap.size 9 1 v k (stL ((l.map rcB).take k)) ∧ Below w.heap.size w wr) (fun _ i _ => l.length - (intOf i).toNat)
    case atStart => exact ⟨0, Nat.zero_le _, rfl, World.ownsRow_nil _ _ _ _, Below.refl _ _⟩
    case round =>
      obtain ⟨k, hk, rfl, hown, hb1⟩ := hrel
      obtain ⟨wo, rfl⟩ : ∃ wo : World, wo = wr := ⟨_, rfl⟩
      by_cases hlt : k < l.length
      · obtain ⟨b', o', rfl, d0, d1, d2, d3⟩ := (h.below hb1).at hlt
        have hx : (l.map rcB).take (k + 1) = (l.map rcB).take k ++ [rcB l[k]] := by rw [List.take_add_one, List.getElem?_map, List.getElem?_eq_getElem hlt]; rfl
        have hxe := HX.out l[k] (List.getElem_mem hlt)
        generalize l[k] = x at *
        have HE := Lib.hid hx
        clear hx
        have hN := Has.new wo (rcC x) 71
        have hox := hown.alloc (.cells (rcC x) 71)
        have hbx := hb1.alloc hb1.size (.cells (rcC x) 71)
        go_upto_region 7 with fail
        clear hown hb1
        generalize wo.alloc (.cells (rcC x) 71) = W at *
        obtain ⟨e0, e1, e2, e3⟩ : W.cell? ⟨wo.heap.size, 0, none⟩ = some (.int .i64 x.a) ∧ W.cell? ⟨wo.heap.size, 1, none⟩ = some (.int .i64 x.b) ∧ W.cell? ⟨wo.heap.size, 2, none⟩ = some (.int .i64 x.v) ∧ W.cell? ⟨wo.heap.size, 3, none⟩ = some (.int .i64 x.k) := ⟨hN.cell rfl, hN.cell rfl, hN.cell rfl, hN.cell rfl⟩
        clear hN
        go_wp2_with fail
        refine (raceB_any x hxe.1 hxe.2 W).mono ?_
        rintro r w2 ⟨rfl, hb2⟩
        have ho2 := own_below hox hb2
        have hk2 := hbx.trans (hb2.mono hbx.size)
        clear hox hbx hb2
        have hT := Has.new w2 #[.string (rcB x)] 9
        have hb3 := hk2.alloc hk2.size (.cells #[.string (rcB x)] 9)
        go_wp2_with (at_builtin; refine app_list _ rfl (.tmp 17) (.tmp 21) 22 rfl Tryz.underlying22 hi hz0 hz1 hz2 rfl (by decide) rfl (ho2.alloc _) rfl (news := stL [rcB x]) ⟨rfl, .inr ⟨_, rfl, fun j u hu => hT.cell_add (by simpa [stL] using hu)⟩⟩ (stL_one _) ?c3 ?c4 ?c5 ?_)
        case c3 => unfold maxLen; omega
        case c4 => omega
        case c5 => have := hk2.size; simp; omega
        intro v' w6 hA
        have hb7 := hA.below (ho2.alloc _) hb3 (by have := hk2.size; simp; omega)
        have ho6 : w6.ownsRow w.heap.size 9 1 v' (k + 1) (stL ((l.map rcB).take (k + 1))) := by
          rw [HE.out, stL_append]
          exact hA.own
        clear hA ho2 hT hb3 hk2
        go_wp2
        go_roundw
        case rel => exact ⟨k + 1, by omega, by go_num, ho6, hb7⟩
        case measure => (simp [intOf]; try omega)
      · obtain rfl : k = l.length := by omega
        rw [List.take_of_length_le (Nat.le_of_eq (List.length_map _))] at hown
        have hml : (l.map rcB).length = l.length := List.length_map _
        obtain ⟨a8, c8, hv, hS8, hc8⟩ := strS_own (l := l.map rcB) (by rw [hml]; exact hown) (by omega)
        rw [hml] at hv hc8
        subst hv
        have hjn := join_sp (l.map rcB) l.length hml a8 c8 wo hS8 hc8 (by omega) (fun s hs => by
          obtain ⟨x, _, rfl⟩ := List.mem_map.1 hs
          exact rcB_size x)
        clear hown
        go_wp2_with fail
        refine hjn.mono ?_
        rintro r w2 ⟨rfl, hb2⟩
        have hk2 := hb1.trans (hb2.mono hb1.size)
        clear hjn hb1 hb2
        go_wp2
        go_ret
        exact ⟨congrArg (fun t => Ending.returned (.string t)) HT.out.symm, hk2⟩
set_option maxRecDepth 100000 in
set_option maxHeartbeats 4000000 in
theorem toldFl_any (l : List Ev) (a : Option Addr) (c : Nat) (w : World) (h : EvS w a l) (hl : l.length ≤ 10000) (hx : ∀ x ∈ l, I99 x.k ∧ I99 x.o) :
    Calls Tryz.prog 38 #[.slice a l.length c, .func (.func 39) #[] #[]] w fun r w' => r = .returned (.string (toldB (l.map flB))) ∧ Below w.heap.size w w' := by
  obtain ⟨i0, hi, hz0, hz1, hz2⟩ := info_parts infoSt
  have HX := Lib.hid hx
  clear hx
  go_enter Tryz.func38, Tryz.ntmps38
  by_cases h0 : l = []
  · subst h0
    have HT : Hid (toldB ([].map flB) = ⟨#[45]⟩) := Lib.hid rfl
    rw [List.length_nil]
    go_wp2
    go_ret
    exact ⟨congrArg (fun t => Ending.returned (.string t)) HT.out.symm, Below.refl _ _⟩
  · have hpos : 0 < l.length := List.length_pos_iff.2 h0
    have hne0 : ((l.length : Int) == 0) = false := beq_eq_false_iff_ne.2 (by omega)
    have HT : Hid (toldB (l.map flB) = spB (l.map flB)) := Lib.hid (if_neg (by simpa using h0))
    clear h0
    go_wp2
    go_loopw [5, 13] (fun v i wr => ∃ k : Nat, k ≤ l.length ∧ i = .int .i64 k ∧ wr.ownsRow w.heap.size 9 1 v k (stL ((l.map flB).take k)) ∧ Below w.heap.size w wr) (fun _ i _ => l.length - (intOf i).toNat)
    case atStart => exact ⟨0, Nat.zero_le _, rfl, World.ownsRow_nil _ _ _ _, Below.refl _ _⟩
    case round =>
      obtain ⟨k, hk, rfl, hown, hb1⟩ := hrel
      obtain ⟨wo, rfl⟩ : ∃ wo : World, wo = wr := ⟨_, rfl⟩
      by_cases hlt : k < l.length
      · obtain ⟨b', o', rfl, d0, d1, d2⟩ := (h.below hb1).at hlt
        have hx : (l.map flB).take (k + 1) = (l.map flB).take k ++ [flB l[k]] := by rw [List.take_add_one, List.getElem?_map, List.getElem?_eq_getElem hlt]; rfl
        have hxe := HX.out l[k] (List.getElem_mem hlt)
        generalize l[k] = x at *
        have HE := Lib.hid hx
        clear hx
        have hN := Has.new wo (evC x) 78
        have hox := hown.alloc (.cells (evC x) 78)
        have hbx := hb1.alloc hb1.size (.cells (evC x) 78)
        go_upto_region 7 with fail
        clear hown hb1
        generalize wo.alloc (.cells (evC x) 78) = W at *
        obtain ⟨e0, e1, e2⟩ : W.cell? ⟨wo.heap.size, 0, none⟩ = some (.int .i64 x.k) ∧ W.cell? ⟨wo.heap.size, 1, none⟩ = some (.int .i64 x.t) ∧ W.cell? ⟨wo.heap.size, 2, none⟩ = some (.int .i64 x.o) := ⟨hN.cell rfl, hN.cell rfl, hN.cell rfl⟩
        clear hN
        go_wp2_with fail
        refine (flagB_any x hxe.1 hxe.2 W).mono ?_
        rintro r w2 ⟨rfl, hb2⟩
        have ho2 := own_below hox hb2
        have hk2 := hbx.trans (hb2.mono hbx.size)
        clear hox hbx hb2
        have hT := Has.new w2 #[.string (flB x)] 9
        have hb3 := hk2.alloc hk2.size (.cells #[.string (flB x)] 9)
        go_wp2_with (at_builtin; refine app_list _ rfl (.tmp 17) (.tmp 21) 22 rfl Tryz.underlying22 hi hz0 hz1 hz2 rfl (by decide) rfl (ho2.alloc _) rfl (news := stL [flB x]) ⟨rfl, .inr ⟨_, rfl, fun j u hu => hT.cell_add (by simpa [stL] using hu)⟩⟩ (stL_one _) ?c3 ?c4 ?c5 ?_)
        case c3 => unfold maxLen; omega
        case c4 => omega
        case c5 => have := hk2.size; simp; omega
        intro v' w6 hA
        have hb7 := hA.below (ho2.alloc _) hb3 (by have := hk2.size; simp; omega)
        have ho6 : w6.ownsRow w.heap.size 9 1 v' (k + 1) (stL ((l.map flB).take (k + 1))) := by
          rw [HE.out, stL_append]
          exact hA.own
        clear hA ho2 hT hb3 hk2
        go_wp2
        go_roundw
        case rel => exact ⟨k + 1, by omega, by go_num, ho6, hb7⟩
        case measure => (simp [intOf]; try omega)
      · obtain rfl : k = l.length := by omega
        rw [List.take_of_length_le (Nat.le_of_eq (List.length_map _))] at hown
        have hml : (l.map flB).length = l.length := List.length_map _
        obtain ⟨a8, c8, hv, hS8, hc8⟩ := strS_own (l := l.map flB) (by rw [hml]; exact hown) (by omega)
        rw [hml] at hv hc8
        subst hv
        have hjn := join_sp (l.map flB) l.length hml a8 c8 wo hS8 hc8 (by omega) (fun s hs => by
          obtain ⟨x, _, rfl⟩ := List.mem_map.1 hs
          exact flB_size x)
        clear hown
        go_wp2_with fail
        refine hjn.mono ?_
        rintro r w2 ⟨rfl, hb2⟩
        have hk2 := hb1.trans (hb2.mono hb1.size)
        clear hjn hb1 hb2
        go_wp2
        go_ret
        exact ⟨congrArg (fun t => Ending.returned (.string t)) HT.out.symm, hk2⟩
set_option maxRecDepth 100000 in
set_option maxHeartbeats 4000000 in
theorem toldWr_any (l : List Ev) (a : Option Addr) (c : Nat) (w : World) (h : EvS w a l) (hl : l.length ≤ 10000) (hx : ∀ x ∈ l, I99 x.k) :
    Calls Tryz.prog 38 #[.slice a l.length c, .func (.func 42) #[] #[]] w fun r w' => r = .returned (.string (toldB (l.map wrB))) ∧ Below w.heap.size w w' := by
  obtain ⟨i0, hi, hz0, hz1, hz2⟩ := info_parts infoSt
  have HX := Lib.hid hx
  clear hx
  go_enter Tryz.func38, Tryz.ntmps38
  by_cases h0 : l = []
  · subst h0
    have HT : Hid (toldB ([].map wrB) = ⟨#[45]⟩) := Lib.hid rfl
    rw [List.length_nil]
    go_wp2
    go_ret
    exact ⟨congrArg (fun t => Ending.returned (.string t)) HT.out.symm, Below.refl _ _⟩
  · have hpos : 0 < l.length := List.length_pos_iff.2 h0
    have hne0 : ((l.length : Int) == 0) = false := beq_eq_false_iff_ne.2 (by omega)
    have HT : Hid (toldB (l.map wrB) = spB (l.map wrB)) := Lib.hid (if_neg (by simpa using h0))
    clear h0
    go_wp2
    go_loopw [5, 13] (fun v i wr => ∃ k : Nat, k ≤ l.length ∧ i = .int .i64 k ∧ wr.ownsRow w.heap.size 9 1 v k (stL ((l.map wrB).take k)) ∧ Below w.heap.size w wr) (fun _ i _ => l.length - (intOf i).toNat)
    case atStart => exact ⟨0, Nat.zero_le _, rfl, World.ownsRow_nil _ _ _ _, Below.refl _ _⟩
    case round =>
      obtain ⟨k, hk, rfl, hown, hb1⟩ := hrel
      obtain ⟨wo, rfl⟩ : ∃ wo : World, wo = wr := ⟨_, rfl⟩
      by_cases hlt : k < l.length
      · obtain ⟨b', o', rfl, d0, d1, d2⟩ := (h.below hb1).at hlt
        have hx : (l.map wrB).take (k + 1) = (l.map wrB).take k ++ [wrB l[k]] := by rw [List.take_add_one, List.getElem?_map, List.getElem?_eq_getElem hlt]; rfl
        have hxe := HX.out l[k] (List.getElem_mem hlt)
        generalize l[k] = x at *
        have HE := Lib.hid hx
        clear hx
        have hN := Has.new wo (evC x) 78
        have hox := hown.alloc (.cells (evC x) 78)
        have hbx := hb1.alloc hb1.size (.cells (evC x) 78)
        go_upto_region 7 with fail
        clear hown hb1
        generalize wo.alloc (.cells (evC x) 78) = W at *
        obtain ⟨e0, e1, e2⟩ : W.cell? ⟨wo.heap.size, 0, none⟩ = some (.int .i64 x.k) ∧ W.cell? ⟨wo.heap.size, 1, none⟩ = some (.int .i64 x.t) ∧ W.cell? ⟨wo.heap.size, 2, none⟩ = some (.int .i64 x.o) := ⟨hN.cell rfl, hN.cell rfl, hN.cell rfl⟩
        clear hN
        go_wp2_with fail
        refine (warnB_any x hxe W).mono ?_
        rintro r w2 ⟨rfl, hb2⟩
        have ho2 := own_below hox hb2
        have hk2 := hbx.trans (hb2.mono hbx.size)
        clear hox hbx hb2
        have hT := Has.new w2 #[.string (wrB x)] 9
        have hb3 := hk2.alloc hk2.size (.cells #[.string (wrB x)] 9)
        go_wp2_with (at_builtin; refine app_list _ rfl (.tmp 17) (.tmp 21) 22 rfl Tryz.underlying22 hi hz0 hz1 hz2 rfl (by decide) rfl (ho2.alloc _) rfl (news := stL [wrB x]) ⟨rfl, .inr ⟨_, rfl, fun j u hu => hT.cell_add (by simpa [stL] using hu)⟩⟩ (stL_one _) ?c3 ?c4 ?c5 ?_)
        case c3 => unfold maxLen; omega
        case c4 => omega
        case c5 => have := hk2.size; simp; omega
        intro v' w6 hA
        have hb7 := hA.below (ho2.alloc _) hb3 (by have := hk2.size; simp; omega)
        have ho6 : w6.ownsRow w.heap.size 9 1 v' (k + 1) (stL ((l.map wrB).take (k + 1))) := by
          rw [HE.out, stL_append]
          exact hA.own
        clear hA ho2 hT hb3 hk2
        go_wp2
        go_roundw
        case rel => exact ⟨k + 1, by omega, by go_num, ho6, hb7⟩
        case measure => (simp [intOf]; try omega)
      · obtain rfl : k = l.length := by omega
        rw [List.take_of_length_le (Nat.le_of_eq (List.length_map _))] at hown
        have hml : (l.map wrB).length = l.length := List.length_map _
        obtain ⟨a8, c8, hv, hS8, hc8⟩ := strS_own (l := l.map wrB) (by rw [hml]; exact hown) (by omega)
        rw [hml] at hv hc8
        subst hv
        have hjn := join_sp (l.map wrB) l.length hml a8 c8 wo hS8 hc8 (by omega) (fun s hs => by
          obtain ⟨x, _, rfl⟩ := List.mem_map.1 hs
          exact wrB_size x)
        clear hown
        go_wp2_with fail
        refine hjn.mono ?_
        rintro r w2 ⟨rfl, hb2⟩
        have hk2 := hb1.trans (hb2.mono hb1.size)
        clear hjn hb1 hb2
        go_wp2
        go_ret
        exact ⟨congrArg (fun t => Ending.returned (.string t)) HT.out.symm, hk2⟩
set_option maxRecDepth 100000 in
set_option maxHeartbeats 4000000 in
theorem toldIn_any (l : List Int) (a : Option Addr) (c : Nat) (w : World) (h : IntS w a l) (hl : l.length ≤ 10000) (hx : ∀ x ∈ l, I99 x) :
    Calls Tryz.prog 45 #[.slice a l.length c, .func (.func 10) #[] #[]] w fun r w' => r = .returned (.string (toldB (l.map itB))) ∧ Below w.heap.size w w' := by
  obtain ⟨i0, hi, hz0, hz1, hz2⟩ := info_parts infoSt
  have HX := Lib.hid hx
  clear hx
  go_enter Tryz.func45, Tryz.ntmps45
  by_cases h0 : l = []
  · subst h0
    have HT : Hid (toldB ([].map itB) = ⟨#[45]⟩) := Lib.hid rfl
    rw [List.length_nil]
    go_wp2
    go_ret
    exact ⟨congrArg (fun t => Ending.returned (.string t)) HT.out.symm, Below.refl _ _⟩
  · have hpos : 0 < l.length := List.length_pos_iff.2 h0
    have hne0 : ((l.length : Int) == 0) = false := beq_eq_false_iff_ne.2 (by omega)
    have HT : Hid (toldB (l.map itB) = spB (l.map itB)) := Lib.hid (if_neg (by simpa using h0))
    clear h0
    go_wp2
    go_loopw [5, 13] (fun v i wr => ∃ k : Nat, k ≤ l.length ∧ i = .int .i64 k ∧ wr.ownsRow w.heap.size 9 1 v k (stL ((l.map itB).take k)) ∧ Below w.heap.size w wr) (fun _ i _ => l.length - (intOf i).toNat)
    case atStart => exact ⟨0, Nat.zero_le _, rfl, World.ownsRow_nil _ _ _ _, Below.refl _ _⟩
    case round =>
      obtain ⟨k, hk, rfl, hown, hb1⟩ := hrel
      obtain ⟨wo, rfl⟩ : ∃ wo : World, wo = wr := ⟨_, rfl⟩
      by_cases hlt : k < l.length
      · obtain ⟨b', o', rfl, d0⟩ := (h.below hb1).at hlt
        have hx : (l.map itB).take (k + 1) = (l.map itB).take k ++ [itB l[k]] := by rw [List.take_add_one, List.getElem?_map, List.getElem?_eq_getElem hlt]; rfl
        have hxe := HX.out l[k] (List.getElem_mem hlt)
        generalize l[k] = x at *
        have HE := Lib.hid hx
        clear hx
        have hox := hown
        have hbx := hb1
        clear hown hb1
        go_wp2_with fail
        refine ((itoa_small x hxe wo).mono (fun r w2 hh => (⟨hh.1, by rw [hh.2]; exact Below.refl _ _⟩ : r = .returned (.string (itB x)) ∧ Below wo.heap.size wo w2))).mono ?_
        rintro r w2 ⟨rfl, hb2⟩
        have ho2 := own_below hox hb2
        have hk2 := hbx.trans (hb2.mono hbx.size)
        clear hox hbx hb2
        have hT := Has.new w2 #[.string (itB x)] 9
        have hb3 := hk2.alloc hk2.size (.cells #[.string (itB x)] 9)
        go_wp2_with (at_builtin; refine app_list _ rfl (.tmp 17) (.tmp 21) 22 rfl Tryz.underlying22 hi hz0 hz1 hz2 rfl (by decide) rfl (ho2.alloc _) rfl (news := stL [itB x]) ⟨rfl, .inr ⟨_, rfl, fun j u hu => hT.cell_add (by simpa [stL] using hu)⟩⟩ (stL_one _) ?c3 ?c4 ?c5 ?_)
        case c3 => unfold maxLen; omega
        case c4 => omega
        case c5 => have := hk2.size; simp; omega
        intro v' w6 hA
        have hb7 := hA.below (ho2.alloc _) hb3 (by have := hk2.size; simp; omega)
        have ho6 : w6.ownsRow w.heap.size 9 1 v' (k + 1) (stL ((l.map itB).take (k + 1))) := by
          rw [HE.out, stL_append]
          exact hA.own
        clear hA ho2 hT hb3 hk2
        go_wp2
        go_roundw
        case rel => exact ⟨k + 1, by omega, by go_num, ho6, hb7⟩
        case measure => (simp [intOf]; try omega)
      · obtain rfl : k = l.length := by omega
        rw [List.take_of_length_le (Nat.le_of_eq (List.length_map _))] at hown
        have hml : (l.map itB).length = l.length := List.length_map _
        obtain ⟨a8, c8, hv, hS8, hc8⟩ := strS_own (l := l.map itB) (by rw [hml]; exact hown) (by omega)
        rw [hml] at hv hc8
        subst hv
        have hjn := join_sp (l.map itB) l.length hml a8 c8 wo hS8 hc8 (by omega) (fun s hs => by
          obtain ⟨x, _, rfl⟩ := List.mem_map.1 hs
          exact itB_size' x)
        clear hown
        go_wp2_with fail
        refine hjn.mono ?_
        rintro r w2 ⟨rfl, hb2⟩
        have hk2 := hb1.trans (hb2.mono hb1.size)
        clear hjn hb1 hb2
        go_wp2
        go_ret
        exact ⟨congrArg (fun t => Ending.returned (.string t)) HT.out.symm, hk2⟩
end Go.Proofs.YtfjbnhacfficnaaGreatDoor

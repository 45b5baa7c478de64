/- Contract of text.Line. -/
import Derived.Test.YtmeidjhojanogaaDoorTxA
import Derived.Test.YtmeidjhojanogaaDoorTxS
import Derived.Test.YtmeidjhojanogaaDoorMS
import Derived.Test.YtmeidjhojanogaaDoorMT
namespace Go.Proofs.YtmeidjhojanogaaDoor
open Go.RowKit

/-- The line of an event. -/
def lineL (e : Ev) : List UInt8 := [116] ++ Lib.decDigits e.t.toNat ++ [32] ++ (wordA e.k.toNat).data.toList ++ [32] ++ (letA e.k.toNat).data.toList ++ Lib.decDigits e.o.toNat
def lineB (e : Ev) : ByteArray := ⟨(lineL e).toArray⟩
def WordsF (B : Nat) (v : Value) (w : World) : Prop := ∃ b, v = .map (some b) ∧ WordsM w b 8 eight ∧ B ≤ b
theorem WordsF.on {B : Nat} {v : Value} {w w' : World} (h : WordsF B v w) (k : Below w.heap.size w w') : WordsF B v w' := by
  obtain ⟨b, h1, h2, h3⟩ := h
  exact ⟨b, h1, h2.below k, h3⟩
def NewW (B : Nat) (v : Value) (w : World) : Prop := ∃ b cs, v = .pointer (some ⟨b, 0, none⟩) ∧ B ≤ b ∧ cs.size = 2 ∧ Has w b cs woT
theorem NewW.on {B : Nat} {v : Value} {w w' : World} (h : NewW B v w) (k : Below w.heap.size w w') : NewW B v w' := by
  obtain ⟨b, cs, h1, h2, h3, h4⟩ := h
  exact ⟨b, cs, h1, h2, h3, h4.below k h4.lt⟩
theorem Has.setRowW {w : World} {b : Nat} {cs ds : Array Value} {t : TypeId} (h : Has w b cs t) : Has (w.setRow b ds) b ds t :=
  ⟨by simp only [World.setRow, Array.getElem?_modify, if_pos, h.out, Option.map_some]⟩
theorem Has.setFarRow {w : World} {b g : Nat} {cs ds : Array Value} {t : TypeId} (h : Has w b cs t) (hg : b ≠ g) : Has (w.setRow g ds) b cs t :=
  ⟨by simp only [World.setRow, Array.getElem?_modify]; rw [if_neg (fun e => hg e.symm)]; exact h.out⟩
theorem below_setRowW {B b : Nat} {a w : World} {cs : Array Value} (h : Below B a w) (hb : B ≤ b) : Below B a (w.setRow b cs) :=
  ⟨h.os, h.tape, h.output, by simpa [World.setRow] using h.size, fun k hk => by
    have : (w.setRow b cs).heap[k]? = w.heap[k]? := by
      simp only [World.setRow, Array.getElem?_modify]
      rw [if_neg (by omega)]
    rw [this]; exact h.block k hk⟩
theorem dec_one {n : Nat} (h : n < 10) : Lib.decDigits n = [UInt8.ofNat (48 + n)] := by
  rw [Lib.decDigits, dif_pos h]
theorem isEv_bounds {e : Ev} (h : isEv e = true) : (1 ≤ e.k ∧ e.k ≤ 8) ∧ (0 ≤ e.t ∧ e.t < 6) ∧ 0 ≤ e.o ∧ e.o < 8 := by
  unfold isEv at h
  have h := of_decide_eq_true h
  have hm := h.2.2.2
  unfold manyOf at hm
  (repeat' split at hm) <;> omega
theorem cat_line (cT cO : UInt8) (A Lt : ByteArray) : (⟨#[116]⟩ ++ ⟨#[cT]⟩ ++ ⟨#[32]⟩ ++ A ++ ⟨#[32]⟩ ++ Lt ++ ⟨#[cO]⟩ : ByteArray) = ⟨([116] ++ [cT] ++ [32] ++ A.data.toList ++ [32] ++ Lt.data.toList ++ [cO]).toArray⟩ := by
  apply ByteArray.ext
  simp [ByteArray.data_append]
theorem wordA_size {K : Nat} (h : K ∈ eight) : (wordA K).size ≤ 20 := by
  have : eight.all (fun k => (wordA k).size ≤ 20) = true := by decide
  exact of_decide_eq_true (List.all_eq_true.1 this K h)
theorem letA_size {K : Nat} (h : K ∈ eight) : (letA K).size ≤ 2 := by
  have : eight.all (fun k => (letA k).size ≤ 2) = true := by decide
  exact of_decide_eq_true (List.all_eq_true.1 this K h)
set_option maxRecDepth 100000 in
set_option maxHeartbeats 8000000 in
theorem line_any (e : Ev) (w : World) : Calls Tryd.prog 11 #[evV e] w fun r w' => r = .returned (.tuple #[.string (if isEv e = true then lineB e else ⟨#[]⟩), .int .i64 (if isEv e = true then 0 else 1)]) ∧ Below w.heap.size w w' := by
  have hN := Has.new w (evC e) 30
  have hb := (Below.refl w.heap.size w).alloc (Nat.le_refl _) (.cells (evC e) 30)
  go_enter Tryd.func11, Tryd.ntmps11
  go_upto_region 1 with fail
  generalize w.alloc (.cells (evC e) 30) = W at *
  obtain ⟨e0, e1, e2⟩ : W.cell? ⟨w.heap.size, 0, none⟩ = some (.int .i64 e.k) ∧ W.cell? ⟨w.heap.size, 1, none⟩ = some (.int .i64 e.t) ∧ W.cell? ⟨w.heap.size, 2, none⟩ = some (.int .i64 e.o) := ⟨hN.cell rfl, hN.cell rfl, hN.cell rfl⟩
  go_wp2_with fail
  refine (isEvent_any e W).mono ?_
  rintro r w1 ⟨rfl, hb1⟩
  have hN1 := hN.below hb1 hN.lt
  have hk1 := hb.trans (hb1.mono hb.size)
  clear hN hb hb1 e0 e1 e2
  cases hq : isEv e
  · go_wp2
    all_goals
      go_ret2
      exact ⟨rfl, hk1⟩
  · obtain ⟨⟨k1, k8⟩, ⟨t0, t6⟩, o0, o8⟩ := isEv_bounds hq
    obtain ⟨K, hK⟩ : ∃ K : Nat, e.k = K := ⟨e.k.toNat, by omega⟩
    obtain ⟨T, hT⟩ : ∃ T : Nat, e.t = T := ⟨e.t.toNat, by omega⟩
    obtain ⟨O, hO⟩ : ∃ O : Nat, e.o = O := ⟨e.o.toNat, by omega⟩
    have hline : Hid (lineB e = ⟨([116] ++ Lib.decDigits T ++ [32] ++ (wordA K).data.toList ++ [32] ++ (letA K).data.toList ++ Lib.decDigits O).toArray⟩) := Lib.hid (by unfold lineB lineL; rw [hK, hT, hO]; rfl)
    have FK : ∀ w2, Below w1.heap.size w1 w2 → w2.cell? ⟨w.heap.size, 0, none⟩ = some (.int .i64 K) := fun w2 h2 => (hN1.below h2 hN1.lt).cell (by rw [← hK]; rfl)
    have hK8 : K ∈ eight := mem_eight.2 (by omega)
    go_upto_region 3 with fail
    refine wp_region_fac 5 (fun _ => false) [.rel (WordsF w1.heap.size), .one ?a1, .one ?a2, .one ?a3, .rel (NewW w1.heap.size)] (by kernel_rfl) (by kernel_rfl) (by kernel_rfl) ?sta ?goa
    case sta =>
      intro F hF v w4 w5 h4 h5
      simp at hF
      rcases hF with rfl | rfl
      · exact h4.on h5
      · exact h4.on h5
    case goa =>
    simp only [List.take_succ_cons, List.take_zero, List.drop_succ_cons, List.drop_zero]
    with_reducible refine wpFac_rel rfl (fun w1 hw1 hd => ?_) (fun v0 a1 ha1 => ?_)
    · go_simp
      refine (words_any w1).mono ?_
      rintro r w2 ⟨b, rfl, hM, hB, hb⟩
      refine ⟨_, atD_some ?_, ⟨b, rfl, hM, Nat.le_trans hw1.size hB⟩, hb⟩
      simp
    simp [Act.put] at ha1; subst ha1
    repeat (with_reducible refine wpFac_one rfl (fun w1 hw1 hd => ?_) (fun a1 ha1 => ?_); (· have eFK := FK w1 hw1; go_simp; first | exact rfl | (refine ⟨atD_some ?_, Below.refl _ _⟩; simp only [List.getElem?_toArray, List.getElem?_cons_succ, List.getElem?_cons_zero]; exact rfl)); simp [Act.put] at ha1; subst ha1)
    with_reducible refine wpFac_one rfl (fun w1 hw1 hd => ?_) (fun a1 ha1 => ?_)
    · obtain ⟨b, e9, hM, _⟩ : WordsF _ v0 w1 := hd 0 (by kernel_rfl)
      subst e9
      have hl : (Instr.lookup wmT (.map (some b)) (.int .i64 (K : Int)) false).run Tryd.prog w1 = .ok (.agg #[.string (wordA K), .string (letA K)]) w1 := hM.look hK8 (by omega)
      go_simp
      refine ⟨atD_some ?_, Below.refl _ _⟩
      simp only [List.getElem?_toArray, List.getElem?_cons_succ, List.getElem?_cons_zero]
      exact rfl
    simp [Act.put] at ha1; subst ha1
    with_reducible refine wpFac_rel rfl (fun w1 hw1 hd => ?_) (fun v4 a1 ha1 => ?_)
    · go_simp
      refine ⟨_, atD_some ?_, ⟨_, _, rfl, hw1.size, rfl, Has.new _ _ _⟩, (Below.refl _ _).alloc (Nat.le_refl _) _⟩
      simp only [List.getElem?_toArray, List.getElem?_cons_succ, List.getElem?_cons_zero]
    simp [Act.put] at ha1; subst ha1
    refine wpFac_nil ?_
    intro w2 hw2 hG
    obtain ⟨bw, cs, e4, hBw, hs, hW⟩ : NewW w1.heap.size v4 w2 := hG 4 (by decide) (by kernel_rfl)
    subst e4
    have hN2 := hN1.below hw2 hN1.lt
    have hk2 := hk1.trans (hw2.mono hk1.size)
    clear hG FK
    go_upto_region 4 with (refine wpList_store_row rfl woT _ _ rfl bw #[.string (wordA K), .string (letA K)] rfl rfl woT _ hW.out (by kernel_rfl) (by rw [hs]; rfl) (by simp [Value.oneCell']) ?_)
    generalize hWx : World.setRow _ _ _ = w3
    have hW3 : Has w3 bw #[.string (wordA K), .string (letA K)] woT := by rw [← hWx]; exact hW.setRowW
    have hk3 : Below w.heap.size w w3 := by rw [← hWx]; exact below_setRowW hk2 (by have := hk1.size; omega)
    have hN3 : Has w3 w.heap.size (evC e) 30 := by
      rw [← hWx]
      exact hN2.setFarRow (by have := hN1.lt; omega)
    have hT1 := dec_one (show T < 10 by omega)
    have hO1 := dec_one (show O < 10 by omega)
    have hiT := l_strconv_Itoa_small T (by omega)
    have hiO := l_strconv_Itoa_small O (by omega)
    rw [hT1] at hline hiT
    rw [hO1] at hline hiO
    have F1 : ∀ w4, Below w3.heap.size w3 w4 → w4.cell? ⟨w.heap.size, 1, none⟩ = some (.int .i64 T) := fun w4 h4 => (hN3.below h4 hN3.lt).cell (by rw [← hT]; rfl)
    have F2 : ∀ w4, Below w3.heap.size w3 w4 → w4.cell? ⟨w.heap.size, 2, none⟩ = some (.int .i64 O) := fun w4 h4 => (hN3.below h4 hN3.lt).cell (by rw [← hO]; rfl)
    have F3 : ∀ w4, Below w3.heap.size w3 w4 → w4.cell? ⟨bw, 0, none⟩ = some (.string (wordA K)) := fun w4 h4 => (hW3.below h4 hW3.lt).cell rfl
    have F4 : ∀ w4, Below w3.heap.size w3 w4 → w4.cell? ⟨bw, 1, none⟩ = some (.string (letA K)) := fun w4 h4 => (hW3.below h4 hW3.lt).cell rfl
    clear hWx hN2 hN3 hW3 hW hk2 hN1 hk1 hT1 hO1
    have hA : (wordA K).size ≤ 20 := wordA_size hK8
    have hL : (letA K).size ≤ 2 := letA_size hK8
    generalize wordA K = A at *
    generalize letA K = Lt at *
    generalize UInt8.ofNat (48 + T) = cT at *
    generalize UInt8.ofNat (48 + O) = cO at *
    refine wp_region_fac 16 (fun _ => false) [.one ?b0, .one ?b1, .one (.string ⟨#[cT]⟩), .one ?b3, .one ?b4, .one ?b5, .one ?b6, .one ?b7, .one ?b8, .one ?b9, .one ?b10, .one ?b11, .one ?b12, .one ?b13, .one (.string ⟨#[cO]⟩), .one ?b15] (by kernel_rfl) (by kernel_rfl) (by kernel_rfl) (by intro F hF; simp at hF) ?gob
    case gob =>
    simp only [List.take_succ_cons, List.take_zero, List.drop_succ_cons, List.drop_zero]
    repeat (with_reducible refine wpFac_one rfl (fun w1 hw1 hd => ?_) (fun a1 ha1 => ?_); (· have eF1 := F1 w1 hw1; have eF2 := F2 w1 hw1; have eF3 := F3 w1 hw1; have eF4 := F4 w1 hw1; go_simp; first | exact rfl | (refine ⟨atD_some ?_, Below.refl _ _⟩; simp only [List.getElem?_toArray, List.getElem?_cons_succ, List.getElem?_cons_zero]; exact rfl)); simp [Act.put] at ha1; subst ha1)
    with_reducible refine wpFac_one rfl (fun w1 hw1 hd => ?_) (fun a1 ha1 => ?_)
    · go_simp
      refine (hiT w1).mono ?_
      rintro r w2 ⟨rfl, rfl⟩
      exact ⟨atD_some (by simp), Below.refl _ _⟩
    simp [Act.put] at ha1; subst ha1
    with_reducible refine wpFac_one rfl (fun w1 hw1 hd => ?_) (fun a1 ha1 => ?_)
    · go_simp
      refine ⟨atD_some ?_, Below.refl _ _⟩
      simp only [List.getElem?_toArray, List.getElem?_cons_succ, List.getElem?_cons_zero]
      exact rfl
    simp [Act.put] at ha1; subst ha1
    with_reducible refine wpFac_one rfl (fun w1 hw1 hd => ?_) (fun a1 ha1 => ?_)
    · go_simp
      refine ⟨atD_some ?_, Below.refl _ _⟩
      simp only [List.getElem?_toArray, List.getElem?_cons_succ, List.getElem?_cons_zero]
      exact rfl
    simp [Act.put] at ha1; subst ha1
    repeat (with_reducible refine wpFac_one rfl (fun w1 hw1 hd => ?_) (fun a1 ha1 => ?_); (· have eF1 := F1 w1 hw1; have eF2 := F2 w1 hw1; have eF3 := F3 w1 hw1; have eF4 := F4 w1 hw1; go_simp; first | exact rfl | (refine ⟨atD_some ?_, Below.refl _ _⟩; simp only [List.getElem?_toArray, List.getElem?_cons_succ, List.getElem?_cons_zero]; exact rfl)); simp [Act.put] at ha1; subst ha1)
    with_reducible refine wpFac_one rfl (fun w1 hw1 hd => ?_) (fun a1 ha1 => ?_)
    · go_simp
      rw [if_neg (by omega)]
      go_simp
      refine ⟨atD_some ?_, Below.refl _ _⟩
      simp only [List.getElem?_toArray, List.getElem?_cons_succ, List.getElem?_cons_zero]
      exact rfl
    simp [Act.put] at ha1; subst ha1
    with_reducible refine wpFac_one rfl (fun w1 hw1 hd => ?_) (fun a1 ha1 => ?_)
    · go_simp
      rw [if_neg (by omega)]
      go_simp
      refine ⟨atD_some ?_, Below.refl _ _⟩
      simp only [List.getElem?_toArray, List.getElem?_cons_succ, List.getElem?_cons_zero]
      exact rfl
    simp [Act.put] at ha1; subst ha1
    repeat (with_reducible refine wpFac_one rfl (fun w1 hw1 hd => ?_) (fun a1 ha1 => ?_); (· have eF1 := F1 w1 hw1; have eF2 := F2 w1 hw1; have eF3 := F3 w1 hw1; have eF4 := F4 w1 hw1; go_simp; first | exact rfl | (refine ⟨atD_some ?_, Below.refl _ _⟩; simp only [List.getElem?_toArray, List.getElem?_cons_succ, List.getElem?_cons_zero]; exact rfl)); simp [Act.put] at ha1; subst ha1)
    with_reducible refine wpFac_one rfl (fun w1 hw1 hd => ?_) (fun a1 ha1 => ?_)
    · go_simp
      rw [if_neg (by omega)]
      go_simp
      refine ⟨atD_some ?_, Below.refl _ _⟩
      simp only [List.getElem?_toArray, List.getElem?_cons_succ, List.getElem?_cons_zero]
      exact rfl
    simp [Act.put] at ha1; subst ha1
    repeat (with_reducible refine wpFac_one rfl (fun w1 hw1 hd => ?_) (fun a1 ha1 => ?_); (· have eF1 := F1 w1 hw1; have eF2 := F2 w1 hw1; have eF3 := F3 w1 hw1; have eF4 := F4 w1 hw1; go_simp; first | exact rfl | (refine ⟨atD_some ?_, Below.refl _ _⟩; simp only [List.getElem?_toArray, List.getElem?_cons_succ, List.getElem?_cons_zero]; exact rfl)); simp [Act.put] at ha1; subst ha1)
    with_reducible refine wpFac_one rfl (fun w1 hw1 hd => ?_) (fun a1 ha1 => ?_)
    · go_simp
      refine (hiO w1).mono ?_
      rintro r w2 ⟨rfl, rfl⟩
      exact ⟨atD_some (by simp), Below.refl _ _⟩
    simp [Act.put] at ha1; subst ha1
    with_reducible refine wpFac_one rfl (fun w1 hw1 hd => ?_) (fun a1 ha1 => ?_)
    · go_simp
      rw [if_neg (by omega)]
      go_simp
      refine ⟨atD_some ?_, Below.refl _ _⟩
      simp only [List.getElem?_toArray, List.getElem?_cons_succ, List.getElem?_cons_zero]
      exact rfl
    simp [Act.put] at ha1; subst ha1
    refine wpFac_nil ?_
    intro w4 hw4 _
    have hk4 := hk3.trans (hw4.mono hk3.size)
    clear F1 F2 F3 F4 hw4 hk3 hiT hiO
    go_wp2
    go_ret2
    refine ⟨?_, hk4⟩
    rw [hline.out]
    exact congrArg (fun x => Ending.returned (.tuple #[.string x, .int .i64 0])) (cat_line cT cO A Lt)
end Go.Proofs.YtmeidjhojanogaaDoor

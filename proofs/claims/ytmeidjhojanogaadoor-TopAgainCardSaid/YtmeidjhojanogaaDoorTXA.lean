/- Joined texts. -/
import Derived.Test.YtmeidjhojanogaaDoorTxC
import Derived.BigQuiet

/- The parts of a line. -/
namespace Go.Proofs.YtmeidjhojanogaaDoor
open Go.RowKit

def lineX (K T O : Nat) : ByteArray := ⟨([116, UInt8.ofNat (48 + T), 32] ++ (wordA K).data.toList ++ [32] ++ (letA K).data.toList ++ [UInt8.ofNat (48 + O)]).toArray⟩
def p0X (T : Nat) : ByteArray := ⟨#[116, UInt8.ofNat (48 + T)]⟩
def p2X (K O : Nat) : ByteArray := ⟨((letA K).data.toList ++ [UInt8.ofNat (48 + O)]).toArray⟩
def partsOk (K T O : Nat) : Bool := Lib.countB (lineX K T O) ⟨#[32]⟩ == 2 && (Lib.splitB ⟨#[32]⟩ 0 2 (lineX K T O)).map (·.data.toList) == [(p0X T).data.toList, (wordA K).data.toList, (p2X K O).data.toList]
def allParts : Bool := (List.range 8).all fun k => (List.range 6).all fun t => (List.range 8).all fun o => partsOk (k + 1) t o
set_option maxRecDepth 100000 in
theorem allParts_ok : allParts = true := by kernel_rfl
theorem bytes_inj : ∀ (l m : List ByteArray), l.map (·.data.toList) = m.map (·.data.toList) → l = m
  | [], [], _ => rfl
  | [], _ :: _, h => by simp at h
  | _ :: _, [], h => by simp at h
  | a :: l, b :: m, h => by
    simp only [List.map_cons, List.cons.injEq] at h
    rw [bytes_inj l m h.2, show a = b from ByteArray.ext (Array.toList_inj.1 h.1)]
theorem parts_line {K T O : Nat} (h1 : 1 ≤ K) (h8 : K ≤ 8) (hT : T < 6) (hO : O < 8) : Lib.countB (lineX K T O) ⟨#[32]⟩ = 2 ∧ Lib.splitB ⟨#[32]⟩ 0 2 (lineX K T O) = [p0X T, wordA K, p2X K O] := by
  have h := allParts_ok
  unfold allParts at h
  have h2 := List.all_eq_true.1 (List.all_eq_true.1 (List.all_eq_true.1 h (K - 1) (List.mem_range.2 (by omega))) T (List.mem_range.2 hT)) O (List.mem_range.2 hO)
  rw [show K - 1 + 1 = K by omega] at h2
  unfold partsOk at h2
  rw [Bool.and_eq_true] at h2
  exact ⟨beq_iff_eq.1 h2.1, bytes_inj _ _ (beq_iff_eq.1 h2.2)⟩
theorem line_X {e : Ev} {K T O : Nat} (hK : e.k = K) (hT : e.t = T) (hO : e.o = O) (h6 : T < 10) (h8 : O < 10) : lineB e = lineX K T O := by
  unfold lineB lineL lineX
  rw [hK, hT, hO]
  simp only [Int.toNat_natCast]
  rw [dec_one h6, dec_one h8]
  rfl
theorem letA_one {K : Nat} (h : K ∈ eight) : (letA K).size = 1 := by
  have : eight.all (fun k => (letA k).size == 1) = true := by decide
  exact beq_iff_eq.1 (List.all_eq_true.1 this K h)
theorem wordA_inj {K L : Nat} (h : K ∈ eight) (h' : L ∈ eight) (e : wordA K = wordA L) : K = L := by
  have : eight.all (fun k => eight.all (fun l => (wordA k).data.toList != (wordA l).data.toList || k == l)) = true := by decide
  have := List.all_eq_true.1 (List.all_eq_true.1 this K h) L h'
  rw [e] at this
  simpa using this
end Go.Proofs.YtmeidjhojanogaaDoor

/- Contract of text.Event at the line of an event. -/
namespace Go.Proofs.YtmeidjhojanogaaDoor
open Go.RowKit

def NewE (B : Nat) (v : Value) (w : World) : Prop := ∃ b cs, v = .pointer (some ⟨b, 0, none⟩) ∧ B ≤ b ∧ cs.size = 3 ∧ Has w b cs 30
theorem NewE.on {B : Nat} {v : Value} {w w' : World} (h : NewE B v w) (k : Below w.heap.size w w') : NewE B v w' := by
  obtain ⟨b, cs, h1, h2, h3, h4⟩ := h
  exact ⟨b, cs, h1, h2, h3, h4.below k h4.lt⟩
theorem strEqT (s t : ByteArray) : (s.toList == t.toList) = decide (s = t) := by
  rw [Bool.eq_iff_iff, decide_eq_true_eq, beq_iff_eq]
  constructor
  · intro h
    have hd := congrArg (fun l : List UInt8 => (⟨l.toArray⟩ : ByteArray)) h
    exact ByteArray.ext (by simpa [ByteArray.toList_eq] using hd)
  · intro h
    rw [h]
theorem letA_byte {K : Nat} (h : K ∈ eight) : ∃ c, letA K = ⟨#[c]⟩ := by
  have h1 := letA_one h
  generalize letA K = A at h1
  obtain ⟨⟨l⟩⟩ := A
  match l, h1 with
  | [c], _ => exact ⟨c, rfl⟩
set_option maxRecDepth 100000 in
set_option maxHeartbeats 8000000 in
theorem event_X (K T O : Nat) (h1 : 1 ≤ K) (h8 : K ≤ 8) (hT : T < 6) (hO : O < 8) (hE : isEv ⟨K, T, O⟩ = true) (m : Int) (w : World) (hm : w.cell? ⟨0, 0, none⟩ = some (.int .i64 m)) :
    Calls Tryd.prog 12 #[.string (lineX K T O)] w fun r w' => r = .returned (.tuple #[evV ⟨K, T, O⟩, .int .i64 0]) ∧ Below w.heap.size w w' := by
  obtain ⟨hcn, hsp⟩ := parts_line h1 h8 hT hO
  have hLX : lineB ⟨K, T, O⟩ = lineX K T O := line_X rfl rfl rfl (by omega) (by omega)
  have hsz : (lineX K T O).size < 4294967281 := by
    have := lineL_size hE
    rw [← hLX]
    show (lineL _).toArray.size < _
    simp only [List.size_toArray]
    omega
  have hK8 : K ∈ eight := mem_eight.2 ⟨h1, h8⟩
  obtain ⟨c, hc⟩ := letA_byte hK8
  have hp0 : p0X T = ⟨#[116, UInt8.ofNat (48 + T)]⟩ := rfl
  have hp2 : p2X K O = ⟨#[c, UInt8.ofNat (48 + O)]⟩ := by unfold p2X; rw [hc]; rfl
  obtain ⟨cT, hcT⟩ : ∃ cT, UInt8.ofNat (48 + T) = cT := ⟨_, rfl⟩
  obtain ⟨cO, hcO⟩ : ∃ cO, UInt8.ofNat (48 + O) = cO := ⟨_, rfl⟩
  have hnT : cT.toNat = 48 + T := by rw [← hcT]; show (48 + T) % 2 ^ 8 = 48 + T; omega
  have hnO : cO.toNat = 48 + O := by rw [← hcO]; show (48 + O) % 2 ^ 8 = 48 + O; omega
  rw [hcT] at hp0
  rw [hcO] at hp2
  have hb1 := (Below.refl w.heap.size w).alloc (Nat.le_refl _) (.cells #[.int .i64 0, .int .i64 0, .int .i64 0] 30)
  have hm1 := (hb1.cell (World.block_lt_of_cell? w _ hm)).trans hm
  have hN := Has.new w #[.int .i64 0, .int .i64 0, .int .i64 0] 30
  have HLX := Lib.hid hLX
  clear hLX hcT hcO
  generalize lineX K T O = sx at *
  go_enter Tryd.func12, Tryd.ntmps12
  go_wp2_with fail
  generalize w.alloc (.cells #[.int .i64 0, .int .i64 0, .int .i64 0] 30) = W1 at *
  refine (l_strings_Split sx ⟨#[32]⟩ m W1 hsz hm1 (by decide)).mono ?_
  rintro r w2 ⟨rfl, rfl⟩
  rw [hcn, hsp, hp0, hp2]
  simp only [List.map_cons, List.map_nil]
  have hP := Has.new W1 #[.string ⟨#[116, cT]⟩, .string (wordA K), .string ⟨#[c, cO]⟩] 9
  have hb2 := hb1.alloc hb1.size (.cells #[.string ⟨#[116, cT]⟩, .string (wordA K), .string ⟨#[c, cO]⟩] 9)
  have hN2 := hN.alloc (.cells #[.string ⟨#[116, cT]⟩, .string (wordA K), .string ⟨#[c, cO]⟩] 9)
  have hlt1 := hb1.size
  clear hm1 hcn hsp hp0 hp2 hN hsz hm
  generalize W1.alloc (.cells #[.string ⟨#[116, cT]⟩, .string (wordA K), .string ⟨#[c, cO]⟩] 9) = W2 at *
  have d0 : W2.cell? ⟨W1.heap.size, 0, none⟩ = some (.string ⟨#[116, cT]⟩) := hP.cell rfl
  have d1 : W2.cell? ⟨W1.heap.size, 1, none⟩ = some (.string (wordA K)) := hP.cell rfl
  have d2 : W2.cell? ⟨W1.heap.size, 2, none⟩ = some (.string ⟨#[c, cO]⟩) := hP.cell rfl
  go_wp2_with fail
  refine (words_any W2).mono ?_
  rintro r w3 ⟨b, rfl, hM, hbW, hk3⟩
  have hP3 := hP.below hk3 hP.lt
  have hN3 := hN2.below hk3 hN2.lt
  have hb3 := hb2.trans (hk3.mono hb2.size)
  have hMl := hM.lt
  clear hP hN2 hb2 hk3 d0 d1 d2 hb1
  go_wp2_with (first | (at_range; refine wpList_range_words _ rfl _ rfl b 8 rfl hM ?_; intro w4 cnt0 hrg0 hg0 hs0) | go_in)
  go_frame
  have hb4 := ((Below.refl w3.heap.size w3).grown hg0 (Nat.le_refl _) (fun j hj => by cases hj))
  generalize hr : w3.heap.size = rr at *
  go_loopw [5] (fun _ wr => ∃ left cnt, RangeW wr b rr 8 left cnt ∧ left K = true ∧ Below rr w3 wr) (fun _ wr => wr.rangeLeft b rr)
  case atStart => exact ⟨_, _, hrg0, List.contains_iff_mem.2 hK8, hb4⟩
  case round =>
    clear hrg0 hb4 hg0 hs0 hM
    obtain ⟨left, cnt, hrg, hlK, hb4⟩ := hrel
    go_wp2_with (first | (at_next; refine wpList_next_words _ rfl _ rfl b rr 8 left cnt rfl hrg ?_ ?_) | go_in)
    · intro hno
      rw [hno K] at hlK
      cases hlK
    · intro k w5 cnt' hk8 hlk hrg5 hlt5 hg5 hs5 hen
      have hb5 := hb4.grown hg5 (by have := hb4.size; omega) (fun q hq => by cases hq; exact Nat.le_refl _)
      unfold wordV at hen ⊢
      have hNw := Has.new w5 #[.string (wordA k), .string (letA k)] woT
      have hb6 := hb5.alloc (by have := hb5.size; omega) (.cells #[.string (wordA k), .string (letA k)] woT)
      have hrg6 := hrg5.below ((Below.refl _ _).alloc (Nat.le_refl _) (.cells #[.string (wordA k), .string (letA k)] woT))
      go_upto_region 6 with fail
      generalize hw6 : w5.alloc (.cells #[.string (wordA k), .string (letA k)] woT) = w6 at *
      have hb36 : Below w3.heap.size w3 w6 := by rw [hr]; exact hb6
      have hP6 := hP3.below hb36 hP3.lt
      have hN6 := hN3.below hb36 hN3.lt
      have F0 : ∀ w7, Below w6.heap.size w6 w7 → w7.cell? ⟨W1.heap.size, 0, none⟩ = some (.string ⟨#[116, cT]⟩) := fun w7 h7 => (hP6.below h7 hP6.lt).cell rfl
      have F2 : ∀ w7, Below w6.heap.size w6 w7 → w7.cell? ⟨W1.heap.size, 2, none⟩ = some (.string ⟨#[c, cO]⟩) := fun w7 h7 => (hP6.below h7 hP6.lt).cell rfl
      clear hen hb4 hb5 hrg5
      refine wp_region_fac 15 (fun _ => false) [.one ?a0, .one ?a1, .one ?a2, .one ?a3, .one ?a4, .one ?a5, .one ?a6, .one ?a7, .one ?a8, .one ?a9, .one ?a10, .one ?a11, .one ?a12, .one ?a13, .rel (NewE w6.heap.size)] (by kernel_rfl) (by kernel_rfl) (by kernel_rfl) ?sta ?goa
      case sta =>
        intro F hF v w7 w8 h7 h8
        simp at hF
        subst hF
        exact h7.on h8
      case goa =>
      simp only [List.take_succ_cons, List.take_zero, List.drop_succ_cons, List.drop_zero]
      repeat (with_reducible refine wpFac_one rfl (fun w1 hw1 hd => ?_) (fun a1 ha1 => ?_); (· have eF0 := F0 w1 hw1; have eF2 := F2 w1 hw1; go_simp; first | exact rfl | (refine ⟨atD_some ?_, Below.refl _ _⟩; simp only [List.getElem?_toArray, List.getElem?_cons_succ, List.getElem?_cons_zero]; exact rfl)); simp [Act.put] at ha1; subst ha1)
      with_reducible refine wpFac_rel rfl (fun w1 hw1 hd => ?_) (fun v14 a1 ha1 => ?_)
      · go_simp
        refine ⟨_, atD_some ?_, ⟨_, _, rfl, hw1.size, rfl, Has.new _ _ _⟩, (Below.refl _ _).alloc (Nat.le_refl _) _⟩
        simp only [List.getElem?_toArray, List.getElem?_cons_succ, List.getElem?_cons_zero]
      simp [Act.put] at ha1; subst ha1
      refine wpFac_nil ?_
      intro w7 hw7 hG
      obtain ⟨be, cs, e14, hBe, hs, hE7⟩ : NewE w6.heap.size v14 w7 := hG 14 (by decide) (by kernel_rfl)
      subst e14
      have wT : ∀ h, IntKind.i64.wrap (IntKind.i64.wrap ((((⟨#[116, cT]⟩ : ByteArray)[1]'h).toNat : Nat) : Int) - 48) = (T : Int) := by
        intro h
        show IntKind.i64.wrap (IntKind.i64.wrap (cT.toNat : Int) - 48) = (T : Int)
        rw [hnT, show IntKind.i64.wrap ((48 + T : Nat) : Int) = ((48 + T : Nat) : Int) from IntWalk.i64_in _ (by omega), IntWalk.i64_in _ (by omega)]
        omega
      have wO : ∀ h, IntKind.i64.wrap (IntKind.i64.wrap ((((⟨#[c, cO]⟩ : ByteArray)[1]'h).toNat : Nat) : Int) - 48) = (O : Int) := by
        intro h
        show IntKind.i64.wrap (IntKind.i64.wrap (cO.toNat : Int) - 48) = (O : Int)
        rw [hnO, show IntKind.i64.wrap ((48 + O : Nat) : Int) = ((48 + O : Nat) : Int) from IntWalk.i64_in _ (by omega), IntWalk.i64_in _ (by omega)]
        omega
      simp only [wT, wO]
      clear F0 F2 wT wO hG
      go_upto_region 7 with (refine wpList_store_row rfl 30 _ _ rfl be #[.int .i64 (k : Int), .int .i64 (T : Int), .int .i64 (O : Int)] rfl rfl 30 _ hE7.out (by kernel_rfl) (by rw [hs]; rfl) (by simp [Value.oneCell']) ?_)
      generalize hWx : World.setRow _ _ _ = w8
      have hE8 : Has w8 be #[.int .i64 (k : Int), .int .i64 (T : Int), .int .i64 (O : Int)] 30 := by rw [← hWx]; exact hE7.setRowW
      have hk68 : Below w6.heap.size w6 w8 := by rw [← hWx]; exact below_setRowW hw7 hBe
      have e0 : w8.cell? ⟨be, 0, none⟩ = some (.int .i64 k) := hE8.cell rfl
      have e1 : w8.cell? ⟨be, 1, none⟩ = some (.int .i64 T) := hE8.cell rfl
      have e2 : w8.cell? ⟨be, 2, none⟩ = some (.int .i64 O) := hE8.cell rfl
      clear hWx hE7 hw7
      go_wp2_with fail
      refine (line_any ⟨k, T, O⟩ w8).mono ?_
      rintro r w9 ⟨rfl, hk89⟩
      have hk69 := hk68.trans (hk89.mono hk68.size)
      have hE9 := hE8.below hk89 hE8.lt
      have hrg9 := hrg6.below hk69
      have hNw9 := hNw.below hk69 hNw.lt
      have hP9 := hP6.below hk69 hP6.lt
      have hN9 := hN6.below hk69 hN6.lt
      have hb39 := hb36.trans (hk69.mono hb36.size)
      clear e0 e1 e2 hE8 hrg6 hNw hP6 hN6 hk68 hk89 hk69 hb36 hb6
      have a0 : w9.cell? ⟨wr.heap.size, 0, none⟩ = some (.string (wordA k)) := by rw [← hs5]; exact hNw9.cell rfl
      have a1 : w9.cell? ⟨W1.heap.size, 1, none⟩ = some (.string (wordA K)) := hP9.cell rfl
      by_cases hkK : k = K
      · subst hkK
        rw [if_pos hE, if_pos hE, HLX.out]
        go_upto_region 8 with fail
        go_quiet (fail)
        obtain ⟨wd, hwd⟩ : ∃ wd, w9.drewN nq = wd := ⟨_, rfl⟩
        have hq : Quiet w9 wd := ⟨nq, hwd⟩
        have hEd := hE9.quiet hq
        have hNd := hN9.quiet hq
        have hbd := hb39.trans (hq.below _)
        rw [hwd]
        clear hwd hq a0 a1 hE9 hN9 hb39 hNw9 hP9 hrg9
        have e0 : wd.cell? ⟨be, 0, none⟩ = some (.int .i64 k) := hEd.cell rfl
        have e1 : wd.cell? ⟨be, 1, none⟩ = some (.int .i64 T) := hEd.cell rfl
        have e2 : wd.cell? ⟨be, 2, none⟩ = some (.int .i64 O) := hEd.cell rfl
        go_wp2_with (refine wpList_store_row rfl 30 _ _ rfl w.heap.size #[.int .i64 (k : Int), .int .i64 (T : Int), .int .i64 (O : Int)] rfl rfl 30 _ hNd.out (by kernel_rfl) rfl (by simp [Value.oneCell']) ?_)
        generalize hWx : World.setRow _ _ _ = w10
        have hN10 : Has w10 w.heap.size #[.int .i64 (k : Int), .int .i64 (T : Int), .int .i64 (O : Int)] 30 := by rw [← hWx]; exact hNd.setRowW
        have hb10 : Below w.heap.size w w10 := by rw [← hWx]; exact below_setRowW (hb3.trans (hbd.mono hb3.size)) (Nat.le_refl _)
        clear e0 e1 e2 hWx
        have e0 : w10.cell? ⟨w.heap.size, 0, none⟩ = some (.int .i64 k) := hN10.cell rfl
        have e1 : w10.cell? ⟨w.heap.size, 1, none⟩ = some (.int .i64 T) := hN10.cell rfl
        have e2 : w10.cell? ⟨w.heap.size, 2, none⟩ = some (.int .i64 O) := hN10.cell rfl
        go_wp2
        exact bodyPost_ret (v := .tuple #[evV ⟨k, T, O⟩, .int .i64 0]) (by simp [results, Tryd.results12, go_sem, e0, e1, e2, evV]) rfl ⟨rfl, hb10⟩
      · have hne : ¬ wordA k = wordA K := fun h => hkK (wordA_inj hk8 hK8 h)
        have hne3 : ((wordA k).toList == (wordA K).toList) = false := by rw [strEqT]; exact decide_eq_false hne
        generalize (if isEv ⟨k, T, O⟩ = true then lineB ⟨k, T, O⟩ else ⟨#[]⟩) = u1
        generalize (if isEv ⟨k, T, O⟩ = true then (0 : Int) else 1) = u2
        have hlK2 : (left K && !(K == k)) = true := by
          rw [hlK, show (K == k) = false from beq_eq_false_iff_ne.2 (fun h => hkK h.symm)]
          rfl
        generalize wordA k = wk at *
        generalize wordA K = wK at *
        go_upto_region 8 with fail
        go_quiet (fail)
        obtain ⟨wd, hwd⟩ : ∃ wd, w9.drewN nq = wd := ⟨_, rfl⟩
        have hq : Quiet w9 wd := ⟨nq, hwd⟩
        have hbd := hb39.trans (hq.below _)
        have hrgd := hrg9.below (hq.below _)
        rw [hwd]
        clear hwd hq a0 a1 hb39 hNw9 hP9 hrg9
        go_wp2
        go_roundw
        case rel => exact ⟨_, _, hrgd, hlK2, by rw [← hr]; exact hbd⟩
        case measure => rw [hrgd.left_eq, hrg.left_eq]; exact hlt5
end Go.Proofs.YtmeidjhojanogaaDoor

/- deadheatkeep.texted; lines of different events differ. -/
namespace Go.Proofs.YtmeidjhojanogaaDoor
open Go.RowKit

def twoLines : List UInt8 := [116, 48, 32, 102, 111, 114, 107, 32, 116, 49, 10, 116, 48, 32, 119, 114, 105, 116, 101, 32, 120, 48, 10, 116, 49, 32, 119, 114, 105, 116, 101, 32, 120, 48]
theorem lineL_X {e : Ev} {K T O : Nat} (hK : e.k = K) (hT : e.t = T) (hO : e.o = O) (h6 : T < 10) (h8 : O < 10) : lineL e = (lineX K T O).data.toList := by
  rw [← line_X hK hT hO h6 h8]
  rfl
theorem two_text : txtV twoL = ⟨twoLines.toArray⟩ := by
  unfold txtV
  rw [if_pos (show (played twoL).2.2 = 0 by decide +kernel)]
  unfold textB textL twoL
  simp only [List.map_cons, List.map_nil]
  rw [lineL_X (K := 5) (T := 0) (O := 1) rfl rfl rfl (by decide) (by decide), lineL_X (K := 2) (T := 0) (O := 0) rfl rfl rfl (by decide) (by decide), lineL_X (K := 2) (T := 1) (O := 0) rfl rfl rfl (by decide) (by decide)]
  rw [show Lib.join [(lineX 5 0 1).data.toList, (lineX 2 0 0).data.toList, (lineX 2 1 0).data.toList] [10] = twoLines by kernel_rfl]
theorem text_two (a : Option Addr) (w : World) (h : EvS w a twoL) : Calls Tryd.prog 9 #[.slice a 3 3] w fun r w' => r = .returned (.tuple #[.string ⟨twoLines.toArray⟩, .int .i64 0]) ∧ Below w.heap.size w w' := by
  have := text_any twoL a 3 w h
  rw [two_text, show (played twoL).2.2 = 0 by decide +kernel] at this
  exact this
set_option maxRecDepth 100000 in
theorem texted_any (w : World) : Calls Tryd.prog 8 #[] w fun r w' => r = .returned (.bool true) ∧ Below w.heap.size w w' := by
  go_enter Tryd.func8, Tryd.ntmps8
  go_wp2_with fail
  refine (two_any w).mono ?_
  rintro r w1 ⟨rfl, hS, hb⟩
  go_wp2_with fail
  refine (text_two _ w1 (evS_full hS rfl (by decide))).mono ?_
  rintro r w2 ⟨rfl, hb2⟩
  go_wp2
  go_ret
  exact ⟨rfl, hb.trans (hb2.mono hb.size)⟩
theorem bytes_two {a b c d : UInt8} (h : (⟨#[a, b]⟩ : ByteArray) = ⟨#[c, d]⟩) : a = c ∧ b = d := by
  have := congrArg (fun s : ByteArray => s.data.toList) h
  simpa using this
theorem ofNat_inj {a b : Nat} (ha : a < 100) (hb : b < 100) (h : UInt8.ofNat (48 + a) = UInt8.ofNat (48 + b)) : a = b := by
  have h1 := congrArg UInt8.toNat h
  have h2 : (48 + a) % 2 ^ 8 = (48 + b) % 2 ^ 8 := h1
  omega
theorem line_inj {x y : Ev} (hx : isEv x = true) (hy : isEv y = true) (h : lineB x = lineB y) : x = y := by
  obtain ⟨⟨k1, k8⟩, ⟨t0, t6⟩, o0, o8⟩ := isEv_bounds hx
  obtain ⟨⟨l1, l8⟩, ⟨s0, s6⟩, p0, p8⟩ := isEv_bounds hy
  obtain ⟨k, t, o⟩ := x
  obtain ⟨l, s, p⟩ := y
  obtain ⟨k, rfl⟩ := Int.eq_ofNat_of_zero_le (show 0 ≤ k by simp at k1; omega)
  obtain ⟨t, rfl⟩ := Int.eq_ofNat_of_zero_le t0
  obtain ⟨o, rfl⟩ := Int.eq_ofNat_of_zero_le o0
  obtain ⟨l, rfl⟩ := Int.eq_ofNat_of_zero_le (show 0 ≤ l by simp at l1; omega)
  obtain ⟨s, rfl⟩ := Int.eq_ofNat_of_zero_le s0
  obtain ⟨p, rfl⟩ := Int.eq_ofNat_of_zero_le p0
  simp only at k1 k8 t6 o8 l1 l8 s6 p8
  rw [line_X (K := k) (T := t) (O := o) rfl rfl rfl (by omega) (by omega), line_X (K := l) (T := s) (O := p) rfl rfl rfl (by omega) (by omega)] at h
  have h1 := (parts_line (K := k) (T := t) (O := o) (by omega) (by omega) (by omega) (by omega)).2
  rw [h, (parts_line (K := l) (T := s) (O := p) (by omega) (by omega) (by omega) (by omega)).2] at h1
  simp only [List.cons.injEq, and_true] at h1
  obtain ⟨e0, e1, e2⟩ := h1
  have ek := wordA_inj (mem_eight.2 ⟨by omega, by omega⟩) (mem_eight.2 ⟨by omega, by omega⟩) e1
  subst ek
  obtain ⟨c, hc⟩ := letA_byte (mem_eight.2 ⟨by omega, by omega⟩ : l ∈ eight)
  have q0 := ofNat_inj (by omega) (by omega) (bytes_two e0).2
  have q2 : (⟨#[c, UInt8.ofNat (48 + p)]⟩ : ByteArray) = ⟨#[c, UInt8.ofNat (48 + o)]⟩ := by
    unfold p2X at e2
    rw [hc] at e2
    exact e2
  have q3 := ofNat_inj (by omega) (by omega) (bytes_two q2).2
  rw [q0, q3]
end Go.Proofs.YtmeidjhojanogaaDoor

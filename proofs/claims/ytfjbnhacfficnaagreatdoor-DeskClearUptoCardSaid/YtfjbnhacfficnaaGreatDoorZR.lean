/- Joined texts. -/
import Derived.Test.YtfjbnhacfficnaaGreatDoorZQ
import Derived.Test.YtfjbnhacfficnaaGreatDoorZB
import Derived.Test.YtfjbnhacfficnaaGreatDoorZA
import Derived.BigQuiet
import Derived.HandedShaped
import Derived.Shelf.Vars
import Derived.Lib.SplitLaws
import Derived.Lib.IndexLaws

/- Contract of text.Text. -/
namespace Go.Proofs.YtfjbnhacfficnaaGreatDoor
open Go.RowKit

def strL (l : List Ev) : List Value := l.map fun e => Value.string (lineB e)
theorem strL_append (l m : List Ev) : strL (l ++ m) = strL l ++ strL m := by simp [strL]
theorem infoS : (Tryz.prog.info? 9).map (fun i => (i.zero, i.size, i.bytes)) = some (some (.string ⟨#[]⟩), 1, 16) := by kernel_rfl
/-- The text of a trace. -/
def textL (l : List Ev) : List UInt8 := Lib.join (l.map lineL) [10]
def textB (l : List Ev) : ByteArray := ⟨(textL l).toArray⟩
def txtV (l : List Ev) : ByteArray := if (played l).2.2 = 0 then textB l else ⟨#[]⟩
theorem lineL_size {e : Ev} (h : isEv e = true) : (lineL e).length ≤ 30 := by
  obtain ⟨⟨k1, k8⟩, ⟨t0, t6⟩, o0, o8⟩ := isEv_bounds h
  have hK8 : e.k.toNat ∈ eight := mem_eight.2 (by omega)
  have hA := wordA_size hK8
  have hL := letA_size hK8
  have h1 : (wordA e.k.toNat).data.toList.length ≤ 20 := by simpa using hA
  have h2 : (letA e.k.toNat).data.toList.length ≤ 2 := by simpa using hL
  unfold lineL
  rw [dec_one (show e.t.toNat < 10 by omega), dec_one (show e.o.toNat < 10 by omega)]
  simp only [List.length_append, List.length_cons, List.length_nil]
  omega
theorem join_two (x y sep : List UInt8) (r : List (List UInt8)) : Lib.join (x :: y :: r) sep = x ++ (sep ++ Lib.join (y :: r) sep) := by
  rw [Lib.join_cons, Lib.join_cons]
  simp [Lib.joinTail, List.append_assoc]
theorem join_len : ∀ (xs : List (List UInt8)), (∀ x ∈ xs, x.length ≤ 30) → (Lib.join xs [10]).length ≤ 31 * xs.length
  | [], _ => by rw [Lib.join_nil]; exact Nat.zero_le _
  | [x], h => by
    have := h x (by simp)
    rw [Lib.join_one]
    simp only [List.length_cons, List.length_nil]
    omega
  | x :: y :: r, h => by
    have h1 := h x (by simp)
    have ih := join_len (y :: r) (fun z hz => h z (by simp [hz]))
    rw [join_two]
    simp only [List.length_append, List.length_cons, List.length_nil] at *
    omega
theorem join_n (bk c n : Nat) (xs : List ByteArray) (hn : xs.length = n) (w : World) (hcells : ∀ (j : Nat) x, xs[j]? = some x → w.cell? ⟨bk, 0 + j, none⟩ = some (.string x)) (hbk : bk < w.heap.size) (hN : xs.length ≤ 140737488355328) (hcap : xs.length ≤ c) (hlen : (Lib.join (xs.map (·.data.toList)) [10]).length ≤ 140737488355328) :
    Calls Tryz.prog 14 #[.slice (some ⟨bk, 0, none⟩) n c, .string ⟨#[10]⟩] w fun e w' => e = .returned (.string ⟨(Lib.join (xs.map (·.data.toList)) [10]).toArray⟩) ∧ Below w.heap.size w w' := by
  subst hn
  exact l_strings_Join bk 0 c xs ⟨#[10]⟩ w hcells hbk hN hcap hlen
theorem text_parts (l : List Ev) : (l.map lineB).map (·.data.toList) = l.map lineL := by
  rw [List.map_map]
  rfl
end Go.Proofs.YtfjbnhacfficnaaGreatDoor

/- The parts of a line. -/
namespace Go.Proofs.YtfjbnhacfficnaaGreatDoor
open Go.RowKit

def lineX (K T O : Nat) : ByteArray := ⟨([116, UInt8.ofNat (48 + T), 32] ++ (wordA K).data.toList ++ [32] ++ (letA K).data.toList ++ [UInt8.ofNat (48 + O)]).toArray⟩
def p0X (T : Nat) : ByteArray := ⟨#[116, UInt8.ofNat (48 + T)]⟩
def p2X (K O : Nat) : ByteArray := ⟨((letA K).data.toList ++ [UInt8.ofNat (48 + O)]).toArray⟩
def partsOk (K T O : Nat) : Bool := Lib.countB (lineX K T O) ⟨#[32]⟩ == 2 && (Lib.splitB ⟨#[32]⟩ 0 2 (lineX K T O)).map (·.data.toList) == [(p0X T).data.toList, (wordA K).data.toList, (p2X K O).data.toList]
def allParts : Bool := (List.range 8).all fun k => (List.range 6).all fun t => (List.range 8).all fun o => partsOk (k + 1) t o
set_option maxRecDepth 100000 in
theorem allParts_ok : allParts = true := by kernel_rfl
theorem bytes_inj : ∀ (l m : List ByteArray), l.map (·.data.toList) = m.map (·.data.toList) → l = m
  | [], [], _ => rfl
  | [], _ :: _, h => by simp at h
  | _ :: _, [], h => by simp at h
  | a :: l, b :: m, h => by
    simp only [List.map_cons, List.cons.injEq] at h
    rw [bytes_inj l m h.2, show a = b from ByteArray.ext (Array.toList_inj.1 h.1)]
theorem parts_line {K T O : Nat} (h1 : 1 ≤ K) (h8 : K ≤ 8) (hT : T < 6) (hO : O < 8) : Lib.countB (lineX K T O) ⟨#[32]⟩ = 2 ∧ Lib.splitB ⟨#[32]⟩ 0 2 (lineX K T O) = [p0X T, wordA K, p2X K O] := by
  have h := allParts_ok
  unfold allParts at h
  have h2 := List.all_eq_true.1 (List.all_eq_true.1 (List.all_eq_true.1 h (K - 1) (List.mem_range.2 (by omega))) T (List.mem_range.2 hT)) O (List.mem_range.2 hO)
  rw [show K - 1 + 1 = K by omega] at h2
  unfold partsOk at h2
  rw [Bool.and_eq_true] at h2
  exact ⟨beq_iff_eq.1 h2.1, bytes_inj _ _ (beq_iff_eq.1 h2.2)⟩
theorem line_X {e : Ev} {K T O : Nat} (hK : e.k = K) (hT : e.t = T) (hO : e.o = O) (h6 : T < 10) (h8 : O < 10) : lineB e = lineX K T O := by
  unfold lineB lineL lineX
  rw [hK, hT, hO]
  simp only [Int.toNat_natCast]
  rw [dec_one h6, dec_one h8]
  rfl
theorem letA_one {K : Nat} (h : K ∈ eight) : (letA K).size = 1 := by
  have : eight.all (fun k => (letA k).size == 1) = true := by decide
  exact beq_iff_eq.1 (List.all_eq_true.1 this K h)
theorem wordA_inj {K L : Nat} (h : K ∈ eight) (h' : L ∈ eight) (e : wordA K = wordA L) : K = L := by
  have : eight.all (fun k => eight.all (fun l => (wordA k).data.toList != (wordA l).data.toList || k == l)) = true := by decide
  have := List.all_eq_true.1 (List.all_eq_true.1 this K h) L h'
  rw [e] at this
  simpa using this
end Go.Proofs.YtfjbnhacfficnaaGreatDoor

/- Contract of text.Event at the line of an event. -/
namespace Go.Proofs.YtfjbnhacfficnaaGreatDoor
open Go.RowKit

def NewE (B : Nat) (v : Value) (w : World) : Prop := ∃ b cs, v = .pointer (some ⟨b, 0, none⟩) ∧ B ≤ b ∧ cs.size = 3 ∧ Has w b cs 55
theorem NewE.on {B : Nat} {v : Value} {w w' : World} (h : NewE B v w) (k : Below w.heap.size w w') : NewE B v w' := by
  obtain ⟨b, cs, h1, h2, h3, h4⟩ := h
  exact ⟨b, cs, h1, h2, h3, h4.below k h4.lt⟩
theorem strEqT (s t : ByteArray) : (s.toList == t.toList) = decide (s = t) := by
  rw [Bool.eq_iff_iff, decide_eq_true_eq, beq_iff_eq]
  constructor
  · intro h
    have hd := congrArg (fun l : List UInt8 => (⟨l.toArray⟩ : ByteArray)) h
    exact ByteArray.ext (by simpa [ByteArray.toList_eq] using hd)
  · intro h
    rw [h]
theorem letA_byte {K : Nat} (h : K ∈ eight) : ∃ c, letA K = ⟨#[c]⟩ := by
  have h1 := letA_one h
  generalize letA K = A at h1
  obtain ⟨⟨l⟩⟩ := A
  match l, h1 with
  | [c], _ => exact ⟨c, rfl⟩
set_option maxRecDepth 100000 in
set_option maxHeartbeats 8000000 in
theorem event_X (K T O : Nat) (h1 : 1 ≤ K) (h8 : K ≤ 8) (hT : T < 6) (hO : O < 8) (hE : isEv ⟨K, T, O⟩ = true) (m : Int) (w : World) (hm : w.cell? ⟨3, 0, none⟩ = some (.int .i64 m)) :
    Calls Tryz.prog 29 #[.string (lineX K T O)] w fun r w' => r = .returned (.tuple #[evV ⟨K, T, O⟩, .int .i64 0]) ∧ Below w.heap.size w w' := by
  obtain ⟨hcn, hsp⟩ := parts_line h1 h8 hT hO
  have hLX : lineB ⟨K, T, O⟩ = lineX K T O := line_X rfl rfl rfl (by omega) (by omega)
  have hsz : (lineX K T O).size < 4294967281 := by
    have := lineL_size hE
    rw [← hLX]
    show (lineL _).toArray.size < _
    simp only [List.size_toArray]
    omega
  have hK8 : K ∈ eight := mem_eight.2 ⟨h1, h8⟩
  obtain ⟨c, hc⟩ := letA_byte hK8
  have hp0 : p0X T = ⟨#[116, UInt8.ofNat (48 + T)]⟩ := rfl
  have hp2 : p2X K O = ⟨#[c, UInt8.ofNat (48 + O)]⟩ := by unfold p2X; rw [hc]; rfl
  obtain ⟨cT, hcT⟩ : ∃ cT, UInt8.ofNat (48 + T) = cT := ⟨_, rfl⟩
  obtain ⟨cO, hcO⟩ : ∃ cO, UInt8.ofNat (48 + O) = cO := ⟨_, rfl⟩
  have hnT : cT.toNat = 48 + T := by rw [← hcT]; show (48 + T) % 2 ^ 8 = 48 + T; omega
  have hnO : cO.toNat = 48 + O := by rw [← hcO]; show (48 + O) % 2 ^ 8 = 48 + O; omega
  rw [hcT] at hp0
  rw [hcO] at hp2
  have hb1 := (Below.refl w.heap.size w).alloc (Nat.le_refl _) (.cells #[.int .i64 0, .int .i64 0, .int .i64 0] 55)
  have hm1 := (hb1.cell (World.block_lt_of_cell? w _ hm)).trans hm
  have hN := Has.new w #[.int .i64 0, .int .i64 0, .int .i64 0] 55
  have HLX := Lib.hid hLX
  clear hLX hcT hcO
  generalize lineX K T O = sx at *
  go_enter Tryz.func29, Tryz.ntmps29
  go_wp2_with fail
  generalize w.alloc (.cells #[.int .i64 0, .int .i64 0, .int .i64 0] 55) = W1 at *
  refine (l_strings_Split sx ⟨#[32]⟩ m W1 hsz hm1 (by decide)).mono ?_
  rintro r w2 ⟨rfl, rfl⟩
  rw [hcn, hsp, hp0, hp2]
  simp only [List.map_cons, List.map_nil]
  have hP := Has.new W1 #[.string ⟨#[116, cT]⟩, .string (wordA K), .string ⟨#[c, cO]⟩] 9
  have hb2 := hb1.alloc hb1.size (.cells #[.string ⟨#[116, cT]⟩, .string (wordA K), .string ⟨#[c, cO]⟩] 9)
  have hN2 := hN.alloc (.cells #[.string ⟨#[116, cT]⟩, .string (wordA K), .string ⟨#[c, cO]⟩] 9)
  have hlt1 := hb1.size
  clear hm1 hcn hsp hp0 hp2 hN hsz hm
  generalize W1.alloc (.cells #[.string ⟨#[116, cT]⟩, .string (wordA K), .string ⟨#[c, cO]⟩] 9) = W2 at *
  have d0 : W2.cell? ⟨W1.heap.size, 0, none⟩ = some (.string ⟨#[116, cT]⟩) := hP.cell rfl
  have d1 : W2.cell? ⟨W1.heap.size, 1, none⟩ = some (.string (wordA K)) := hP.cell rfl
  have d2 : W2.cell? ⟨W1.heap.size, 2, none⟩ = some (.string ⟨#[c, cO]⟩) := hP.cell rfl
  go_wp2_with fail
  refine (words_any W2).mono ?_
  rintro r w3 ⟨b, rfl, hM, hbW, hk3⟩
  have hP3 := hP.below hk3 hP.lt
  have hN3 := hN2.below hk3 hN2.lt
  have hb3 := hb2.trans (hk3.mono hb2.size)
  have hMl := hM.lt
  clear hP hN2 hb2 hk3 d0 d1 d2 hb1
  go_wp2_with (first | (at_range; refine wpList_range_words _ rfl _ rfl b 8 rfl hM ?_; intro w4 cnt0 hrg0 hg0 hs0) | go_in)
  go_frame
  have hb4 := ((Below.refl w3.heap.size w3).grown hg0 (Nat.le_refl _) (fun j hj => by cases hj))
  generalize hr : w3.heap.size = rr at *
  go_loopw [5] (fun _ wr => ∃ left cnt, RangeW wr b rr 8 left cnt ∧ left K = true ∧ Below rr w3 wr) (fun _ wr => wr.rangeLeft b rr)
  case atStart => exact ⟨_, _, hrg0, List.contains_iff_mem.2 hK8, hb4⟩
  case round =>
    clear hrg0 hb4 hg0 hs0 hM
    obtain ⟨left, cnt, hrg, hlK, hb4⟩ := hrel
    go_wp2_with (first | (at_next; refine wpList_next_words _ rfl _ rfl b rr 8 left cnt rfl hrg ?_ ?_) | go_in)
    · intro hno
      rw [hno K] at hlK
      cases hlK
    · intro k w5 cnt' hk8 hlk hrg5 hlt5 hg5 hs5 hen
      have hb5 := hb4.grown hg5 (by have := hb4.size; omega) (fun q hq => by cases hq; exact Nat.le_refl _)
      unfold wordV at hen ⊢
      have hNw := Has.new w5 #[.string (wordA k), .string (letA k)] woT
      have hb6 := hb5.alloc (by have := hb5.size; omega) (.cells #[.string (wordA k), .string (letA k)] woT)
      have hrg6 := hrg5.below ((Below.refl _ _).alloc (Nat.le_refl _) (.cells #[.string (wordA k), .string (letA k)] woT))
      go_upto_region 6 with fail
      generalize hw6 : w5.alloc (.cells #[.string (wordA k), .string (letA k)] woT) = w6 at *
      have hb36 : Below w3.heap.size w3 w6 := by rw [hr]; exact hb6
      have hP6 := hP3.below hb36 hP3.lt
      have hN6 := hN3.below hb36 hN3.lt
      have F0 : ∀ w7, Below w6.heap.size w6 w7 → w7.cell? ⟨W1.heap.size, 0, none⟩ = some (.string ⟨#[116, cT]⟩) := fun w7 h7 => (hP6.below h7 hP6.lt).cell rfl
      have F2 : ∀ w7, Below w6.heap.size w6 w7 → w7.cell? ⟨W1.heap.size, 2, none⟩ = some (.string ⟨#[c, cO]⟩) := fun w7 h7 => (hP6.below h7 hP6.lt).cell rfl
      clear hen hb4 hb5 hrg5
      refine wp_region_fac 15 (fun _ => false) [.one ?a0, .one ?a1, .one ?a2, .one ?a3, .one ?a4, .one ?a5, .one ?a6, .one ?a7, .one ?a8, .one ?a9, .one ?a10, .one ?a11, .one ?a12, .one ?a13, .rel (NewE w6.heap.size)] (by kernel_rfl) (by kernel_rfl) (by kernel_rfl) ?sta ?goa
      case sta =>
        intro F hF v w7 w8 h7 h8
        simp at hF
        subst hF
        exact h7.on h8
      case goa =>
      simp only [List.take_succ_cons, List.take_zero, List.drop_succ_cons, List.drop_zero]
      repeat (with_reducible refine wpFac_one rfl (fun w1 hw1 hd => ?_) (fun a1 ha1 => ?_); (· have eF0 := F0 w1 hw1; have eF2 := F2 w1 hw1; go_simp; first | exact rfl | (refine ⟨atD_some ?_, Below.refl _ _⟩; simp only [List.getElem?_toArray, List.getElem?_cons_succ, List.getElem?_cons_zero]; exact rfl)); simp [Act.put] at ha1; subst ha1)
      with_reducible refine wpFac_rel rfl (fun w1 hw1 hd => ?_) (fun v14 a1 ha1 => ?_)
      · go_simp
        refine ⟨_, atD_some ?_, ⟨_, _, rfl, hw1.size, rfl, Has.new _ _ _⟩, (Below.refl _ _).alloc (Nat.le_refl _) _⟩
        simp only [List.getElem?_toArray, List.getElem?_cons_succ, List.getElem?_cons_zero]
      simp [Act.put] at ha1; subst ha1
      refine wpFac_nil ?_
      intro w7 hw7 hG
      obtain ⟨be, cs, e14, hBe, hs, hE7⟩ : NewE w6.heap.size v14 w7 := hG 14 (by decide) (by kernel_rfl)
      subst e14
      have wT : ∀ h, IntKind.i64.wrap (IntKind.i64.wrap ((((⟨#[116, cT]⟩ : ByteArray)[1]'h).toNat : Nat) : Int) - 48) = (T : Int) := by
        intro h
        show IntKind.i64.wrap (IntKind.i64.wrap (cT.toNat : Int) - 48) = (T : Int)
        rw [hnT, show IntKind.i64.wrap ((48 + T : Nat) : Int) = ((48 + T : Nat) : Int) from IntWalk.i64_in _ (by omega), IntWalk.i64_in _ (by omega)]
        omega
      have wO : ∀ h, IntKind.i64.wrap (IntKind.i64.wrap ((((⟨#[c, cO]⟩ : ByteArray)[1]'h).toNat : Nat) : Int) - 48) = (O : Int) := by
        intro h
        show IntKind.i64.wrap (IntKind.i64.wrap (cO.toNat : Int) - 48) = (O : Int)
        rw [hnO, show IntKind.i64.wrap ((48 + O : Nat) : Int) = ((48 + O : Nat) : Int) from IntWalk.i64_in _ (by omega), IntWalk.i64_in _ (by omega)]
        omega
      simp only [wT, wO]
      clear F0 F2 wT wO hG
      go_upto_region 7 with (refine wpList_store_row rfl 55 _ _ rfl be #[.int .i64 (k : Int), .int .i64 (T : Int), .int .i64 (O : Int)] rfl rfl 55 _ hE7.out (by kernel_rfl) (by rw [hs]; rfl) (by simp [Value.oneCell']) ?_)
      generalize hWx : World.setRow _ _ _ = w8
      have hE8 : Has w8 be #[.int .i64 (k : Int), .int .i64 (T : Int), .int .i64 (O : Int)] 55 := by rw [← hWx]; exact hE7.setRowW
      have hk68 : Below w6.heap.size w6 w8 := by rw [← hWx]; exact below_setRowW hw7 hBe
      have e0 : w8.cell? ⟨be, 0, none⟩ = some (.int .i64 k) := hE8.cell rfl
      have e1 : w8.cell? ⟨be, 1, none⟩ = some (.int .i64 T) := hE8.cell rfl
      have e2 : w8.cell? ⟨be, 2, none⟩ = some (.int .i64 O) := hE8.cell rfl
      clear hWx hE7 hw7
      go_wp2_with fail
      refine (line_any ⟨k, T, O⟩ w8).mono ?_
      rintro r w9 ⟨rfl, hk89⟩
      have hk69 := hk68.trans (hk89.mono hk68.size)
      have hE9 := hE8.below hk89 hE8.lt
      have hrg9 := hrg6.below hk69
      have hNw9 := hNw.below hk69 hNw.lt
      have hP9 := hP6.below hk69 hP6.lt
      have hN9 := hN6.below hk69 hN6.lt
      have hb39 := hb36.trans (hk69.mono hb36.size)
      clear e0 e1 e2 hE8 hrg6 hNw hP6 hN6 hk68 hk89 hk69 hb36 hb6
      have a0 : w9.cell? ⟨wr.heap.size, 0, none⟩ = some (.string (wordA k)) := by rw [← hs5]; exact hNw9.cell rfl
      have a1 : w9.cell? ⟨W1.heap.size, 1, none⟩ = some (.string (wordA K)) := hP9.cell rfl
      by_cases hkK : k = K
      · subst hkK
        rw [if_pos hE, if_pos hE, HLX.out]
        go_upto_region 8 with fail
        go_quiet (fail)
        obtain ⟨wd, hwd⟩ : ∃ wd, w9.drewN nq = wd := ⟨_, rfl⟩
        have hq : Quiet w9 wd := ⟨nq, hwd⟩
        have hEd := hE9.quiet hq
        have hNd := hN9.quiet hq
        have hbd := hb39.trans (hq.below _)
        rw [hwd]
        clear hwd hq a0 a1 hE9 hN9 hb39 hNw9 hP9 hrg9
        have e0 : wd.cell? ⟨be, 0, none⟩ = some (.int .i64 k) := hEd.cell rfl
        have e1 : wd.cell? ⟨be, 1, none⟩ = some (.int .i64 T) := hEd.cell rfl
        have e2 : wd.cell? ⟨be, 2, none⟩ = some (.int .i64 O) := hEd.cell rfl
        go_wp2_with (refine wpList_store_row rfl 55 _ _ rfl w.heap.size #[.int .i64 (k : Int), .int .i64 (T : Int), .int .i64 (O : Int)] rfl rfl 55 _ hNd.out (by kernel_rfl) rfl (by simp [Value.oneCell']) ?_)
        generalize hWx : World.setRow _ _ _ = w10
        have hN10 : Has w10 w.heap.size #[.int .i64 (k : Int), .int .i64 (T : Int), .int .i64 (O : Int)] 55 := by rw [← hWx]; exact hNd.setRowW
        have hb10 : Below w.heap.size w w10 := by rw [← hWx]; exact below_setRowW (hb3.trans (hbd.mono hb3.size)) (Nat.le_refl _)
        clear e0 e1 e2 hWx
        have e0 : w10.cell? ⟨w.heap.size, 0, none⟩ = some (.int .i64 k) := hN10.cell rfl
        have e1 : w10.cell? ⟨w.heap.size, 1, none⟩ = some (.int .i64 T) := hN10.cell rfl
        have e2 : w10.cell? ⟨w.heap.size, 2, none⟩ = some (.int .i64 O) := hN10.cell rfl
        go_wp2
        exact bodyPost_ret (v := .tuple #[evV ⟨k, T, O⟩, .int .i64 0]) (by simp [results, Tryz.results29, go_sem, e0, e1, e2, evV]) rfl ⟨rfl, hb10⟩
      · have hne : ¬ wordA k = wordA K := fun h => hkK (wordA_inj hk8 hK8 h)
        have hne3 : ((wordA k).toList == (wordA K).toList) = false := by rw [strEqT]; exact decide_eq_false hne
        generalize (if isEv ⟨k, T, O⟩ = true then lineB ⟨k, T, O⟩ else ⟨#[]⟩) = u1
        generalize (if isEv ⟨k, T, O⟩ = true then (0 : Int) else 1) = u2
        have hlK2 : (left K && !(K == k)) = true := by
          rw [hlK, show (K == k) = false from beq_eq_false_iff_ne.2 (fun h => hkK h.symm)]
          rfl
        generalize wordA k = wk at *
        generalize wordA K = wK at *
        go_upto_region 8 with fail
        go_quiet (fail)
        obtain ⟨wd, hwd⟩ : ∃ wd, w9.drewN nq = wd := ⟨_, rfl⟩
        have hq : Quiet w9 wd := ⟨nq, hwd⟩
        have hbd := hb39.trans (hq.below _)
        have hrgd := hrg9.below (hq.below _)
        rw [hwd]
        clear hwd hq a0 a1 hb39 hNw9 hP9 hrg9
        go_wp2
        go_roundw
        case rel => exact ⟨_, _, hrgd, hlK2, by rw [← hr]; exact hbd⟩
        case measure => rw [hrgd.left_eq, hrg.left_eq]; exact hlt5
end Go.Proofs.YtfjbnhacfficnaaGreatDoor

/- deadheatkeep.texted; lines of different events differ. -/
namespace Go.Proofs.YtfjbnhacfficnaaGreatDoor
open Go.RowKit

def twoLines : List UInt8 := [116, 48, 32, 102, 111, 114, 107, 32, 116, 49, 10, 116, 48, 32, 119, 114, 105, 116, 101, 32, 120, 48, 10, 116, 49, 32, 119, 114, 105, 116, 101, 32, 120, 48]
theorem lineL_X {e : Ev} {K T O : Nat} (hK : e.k = K) (hT : e.t = T) (hO : e.o = O) (h6 : T < 10) (h8 : O < 10) : lineL e = (lineX K T O).data.toList := by
  rw [← line_X hK hT hO h6 h8]
  rfl
theorem bytes_two {a b c d : UInt8} (h : (⟨#[a, b]⟩ : ByteArray) = ⟨#[c, d]⟩) : a = c ∧ b = d := by
  have := congrArg (fun s : ByteArray => s.data.toList) h
  simpa using this
theorem ofNat_inj {a b : Nat} (ha : a < 100) (hb : b < 100) (h : UInt8.ofNat (48 + a) = UInt8.ofNat (48 + b)) : a = b := by
  have h1 := congrArg UInt8.toNat h
  have h2 : (48 + a) % 2 ^ 8 = (48 + b) % 2 ^ 8 := h1
  omega
theorem line_inj {x y : Ev} (hx : isEv x = true) (hy : isEv y = true) (h : lineB x = lineB y) : x = y := by
  obtain ⟨⟨k1, k8⟩, ⟨t0, t6⟩, o0, o8⟩ := isEv_bounds hx
  obtain ⟨⟨l1, l8⟩, ⟨s0, s6⟩, p0, p8⟩ := isEv_bounds hy
  obtain ⟨k, t, o⟩ := x
  obtain ⟨l, s, p⟩ := y
  obtain ⟨k, rfl⟩ := Int.eq_ofNat_of_zero_le (show 0 ≤ k by simp at k1; omega)
  obtain ⟨t, rfl⟩ := Int.eq_ofNat_of_zero_le t0
  obtain ⟨o, rfl⟩ := Int.eq_ofNat_of_zero_le o0
  obtain ⟨l, rfl⟩ := Int.eq_ofNat_of_zero_le (show 0 ≤ l by simp at l1; omega)
  obtain ⟨s, rfl⟩ := Int.eq_ofNat_of_zero_le s0
  obtain ⟨p, rfl⟩ := Int.eq_ofNat_of_zero_le p0
  simp only at k1 k8 t6 o8 l1 l8 s6 p8
  rw [line_X (K := k) (T := t) (O := o) rfl rfl rfl (by omega) (by omega), line_X (K := l) (T := s) (O := p) rfl rfl rfl (by omega) (by omega)] at h
  have h1 := (parts_line (K := k) (T := t) (O := o) (by omega) (by omega) (by omega) (by omega)).2
  rw [h, (parts_line (K := l) (T := s) (O := p) (by omega) (by omega) (by omega) (by omega)).2] at h1
  simp only [List.cons.injEq, and_true] at h1
  obtain ⟨e0, e1, e2⟩ := h1
  have ek := wordA_inj (mem_eight.2 ⟨by omega, by omega⟩) (mem_eight.2 ⟨by omega, by omega⟩) e1
  subst ek
  obtain ⟨c, hc⟩ := letA_byte (mem_eight.2 ⟨by omega, by omega⟩ : l ∈ eight)
  have q0 := ofNat_inj (by omega) (by omega) (bytes_two e0).2
  have q2 : (⟨#[c, UInt8.ofNat (48 + p)]⟩ : ByteArray) = ⟨#[c, UInt8.ofNat (48 + o)]⟩ := by
    unfold p2X at e2
    rw [hc] at e2
    exact e2
  have q3 := ofNat_inj (by omega) (by omega) (bytes_two q2).2
  rw [q0, q3]
end Go.Proofs.YtfjbnhacfficnaaGreatDoor

/- The frame of a tied card whose walk reads a variable of Go's library; the walk of TextLine. -/
namespace Go.Proofs.YtfjbnhacfficnaaGreatDoor
open Go.RowKit

end Go.Proofs.YtfjbnhacfficnaaGreatDoor

/- Split of a joined text. -/
namespace Go.Proofs.YtfjbnhacfficnaaGreatDoor
open Go.RowKit

theorem idx_none (c : UInt8) : ∀ x : List UInt8, c ∉ x → Lib.indexByte x c = -1
  | [], _ => rfl
  | b :: l, h => by
    have hb : (b == c) = false := beq_eq_false_iff_ne.2 (fun e => h (by rw [e]; simp))
    have ih := idx_none c l (fun e => h (by simp [e]))
    unfold Lib.indexByte
    rw [hb, ih]
    rfl
theorem idx_at (c : UInt8) (r : List UInt8) : ∀ x : List UInt8, c ∉ x → Lib.indexByte (x ++ ([c] ++ r)) c = x.length
  | [], _ => by
    show Lib.indexByte (c :: r) c = 0
    unfold Lib.indexByte
    simp
  | b :: l, h => by
    have hb : (b == c) = false := beq_eq_false_iff_ne.2 (fun e => h (by rw [e]; simp))
    have ih := idx_at c r l (fun e => h (by simp [e]))
    show Lib.indexByte (b :: (l ++ ([c] ++ r))) c = _
    unfold Lib.indexByte
    rw [hb, ih]
    have h2 : ((l.length : Int) == -1) = false := beq_eq_false_iff_ne.2 (by omega)
    rw [h2]
    simp
def ofL (x : List UInt8) : ByteArray := ⟨x.toArray⟩
theorem ofL_ext {s : ByteArray} {x : List UInt8} (h : s.data.toList = x) : s = ofL x := ByteArray.ext (Array.toList_inj.1 (by rw [h]; rfl))
theorem split_join (c : UInt8) : ∀ xs : List (List UInt8), xs ≠ [] → (∀ x ∈ xs, c ∉ x) → Lib.countB (ofL (Lib.join xs [c])) ⟨#[c]⟩ + 1 = xs.length ∧ ∀ k, k + 1 = xs.length → Lib.splitB ⟨#[c]⟩ 0 k (ofL (Lib.join xs [c])) = xs.map ofL
  | [], h, _ => absurd rfl h
  | [x], _, h => by
    rw [Lib.join_one]
    have hi : Lib.indexB (ofL x) ⟨#[c]⟩ = -1 := by
      show Lib.index x [c] = -1
      rw [Lib.index_one]
      exact idx_none c x (h x (by simp))
    refine ⟨by rw [Lib.countB_miss _ _ hi]; rfl, fun k _ => ?_⟩
    rw [Lib.splitB_miss _ _ _ _ hi]
    rfl
  | x :: y :: r, _, h => by
    obtain ⟨ih1, ih2⟩ := split_join c (y :: r) (by simp) (fun z hz => h z (by simp [hz]))
    rw [join_two]
    have hi : Lib.indexB (ofL (x ++ ([c] ++ Lib.join (y :: r) [c]))) ⟨#[c]⟩ = x.length := by
      show Lib.index (x ++ ([c] ++ Lib.join (y :: r) [c])) [c] = _
      rw [Lib.index_one]
      exact idx_at c _ x (h x (by simp))
    have hx : (ofL (x ++ ([c] ++ Lib.join (y :: r) [c]))).extract (x.length + (⟨#[c]⟩ : ByteArray).size) (ofL (x ++ ([c] ++ Lib.join (y :: r) [c]))).size = ofL (Lib.join (y :: r) [c]) := by
      apply ofL_ext
      rw [Lib.extract_to_end]
      show (x ++ ([c] ++ Lib.join (y :: r) [c])).drop (x.length + 1) = _
      rw [← List.append_assoc, List.drop_append_of_le_length (by simp)]
      simp
    refine ⟨?_, fun k hk => ?_⟩
    · rw [Lib.countB_hit _ _ x.length (Nat.le_refl _) hi, hx]
      simp only [List.length_cons] at *
      omega
    · obtain ⟨k, rfl⟩ : ∃ j, k = j + 1 := ⟨k - 1, by simp at hk; omega⟩
      rw [Lib.splitB_hit _ _ _ _ x.length hi, hx, ih2 k (by simp at hk ⊢; omega)]
      show _ = ofL x :: _
      congr 1
      apply ofL_ext
      rw [Lib.extract_from_zero]
      show (x ++ ([c] ++ Lib.join (y :: r) [c])).take (x.length + 0) = x
      simp
def noNl : Bool := (List.range 8).all fun k => (List.range 6).all fun t => (List.range 8).all fun o => (lineX (k + 1) t o).data.toList.all (· != 10)
set_option maxRecDepth 100000 in
theorem noNl_ok : noNl = true := by kernel_rfl
theorem line_nl {e : Ev} (he : isEv e = true) : (10 : UInt8) ∉ lineL e := by
  obtain ⟨⟨k1, k8⟩, ⟨t0, t6⟩, o0, o8⟩ := isEv_bounds he
  obtain ⟨k, t, o⟩ := e
  obtain ⟨k, rfl⟩ := Int.eq_ofNat_of_zero_le (show 0 ≤ k by simp at k1; omega)
  obtain ⟨t, rfl⟩ := Int.eq_ofNat_of_zero_le t0
  obtain ⟨o, rfl⟩ := Int.eq_ofNat_of_zero_le o0
  simp only at k1 k8 t6 o8
  rw [lineL_X (K := k) (T := t) (O := o) rfl rfl rfl (by omega) (by omega)]
  have h := noNl_ok
  unfold noNl at h
  have h2 := List.all_eq_true.1 (List.all_eq_true.1 (List.all_eq_true.1 h (k - 1) (List.mem_range.2 (by omega))) t (List.mem_range.2 (by omega))) o (List.mem_range.2 (by omega))
  rw [show k - 1 + 1 = k by omega] at h2
  intro hm
  have := List.all_eq_true.1 h2 _ hm
  simp at this
theorem split_text {l : List Ev} (hl : l ≠ []) (hev : ∀ e ∈ l, isEv e = true) : Lib.countB (textB l) ⟨#[10]⟩ + 1 = l.length ∧ Lib.splitB ⟨#[10]⟩ 0 (Lib.countB (textB l) ⟨#[10]⟩) (textB l) = l.map lineB := by
  have h := split_join 10 (l.map lineL) (by simpa using hl) (fun x hx => by
    obtain ⟨e, he, rfl⟩ := List.mem_map.1 hx
    exact line_nl (hev e he))
  rw [List.length_map, List.map_map] at h
  exact ⟨h.1, h.2 _ h.1⟩
end Go.Proofs.YtfjbnhacfficnaaGreatDoor

/- text.Event at any string: plain part. -/
namespace Go.Proofs.YtfjbnhacfficnaaGreatDoor
open Go.RowKit

/-- What Event answers at s. -/
def EvRes (s : ByteArray) (e : Ev) (f : Int) : Prop := (isEv e = true ∧ lineB e = s ∧ f = 0) ∨ ((∀ x, isEv x = true → lineB x ≠ s) ∧ e = ⟨0, 0, 0⟩ ∧ f = 3)
/-- The parts of a string that is the line of an event. -/
theorem ev_parts {x : Ev} {s : ByteArray} (hx : isEv x = true) (h : lineB x = s) : ∃ K T O : Nat, x = ⟨K, T, O⟩ ∧ (1 ≤ K ∧ K ≤ 8) ∧ T < 6 ∧ O < 8 ∧ Lib.countB s ⟨#[32]⟩ = 2 ∧ Lib.splitB ⟨#[32]⟩ 0 2 s = [p0X T, wordA K, p2X K O] := by
  obtain ⟨⟨k1, k8⟩, ⟨t0, t6⟩, o0, o8⟩ := isEv_bounds hx
  obtain ⟨k, t, o⟩ := x
  obtain ⟨k, rfl⟩ := Int.eq_ofNat_of_zero_le (show 0 ≤ k by simp at k1; omega)
  obtain ⟨t, rfl⟩ := Int.eq_ofNat_of_zero_le t0
  obtain ⟨o, rfl⟩ := Int.eq_ofNat_of_zero_le o0
  simp only at k1 k8 t6 o8
  rw [line_X (K := k) (T := t) (O := o) rfl rfl rfl (by omega) (by omega)] at h
  subst h
  obtain ⟨h1, h2⟩ := parts_line (K := k) (T := t) (O := o) (by omega) (by omega) (by omega) (by omega)
  exact ⟨k, t, o, rfl, ⟨by omega, by omega⟩, by omega, by omega, h1, h2⟩
theorem res_count {s : ByteArray} (h : Lib.countB s ⟨#[32]⟩ ≠ 2) : ∀ x, isEv x = true → lineB x ≠ s := fun x hx hl => by
  obtain ⟨_, _, _, _, _, _, _, h1, _⟩ := ev_parts hx hl
  exact h h1
theorem res_sizes {s p0 p1 p2 : ByteArray} (h : Lib.splitB ⟨#[32]⟩ 0 2 s = [p0, p1, p2]) (hz : p0.size ≠ 2 ∨ p2.size ≠ 2) : ∀ x, isEv x = true → lineB x ≠ s := fun x hx hl => by
  obtain ⟨K, T, O, _, ⟨k1, k8⟩, _, _, _, h2⟩ := ev_parts hx hl
  rw [h] at h2
  simp only [List.cons.injEq, and_true] at h2
  obtain ⟨rfl, rfl, rfl⟩ := h2
  obtain ⟨c, hc⟩ := letA_byte (mem_eight.2 ⟨k1, k8⟩)
  rcases hz with hz | hz
  · exact hz rfl
  · apply hz
    unfold p2X
    rw [hc]
    rfl
/-- The event that Event tries at kind k. -/
def tryE (k : Nat) (a b : UInt8) : Ev := ⟨k, (a.toNat : Int) - 48, (b.toNat : Int) - 48⟩
theorem res_none {s p1 : ByteArray} {a0 a b0 b : UInt8} (h : Lib.splitB ⟨#[32]⟩ 0 2 s = [⟨#[a0, a]⟩, p1, ⟨#[b0, b]⟩]) (hk : ∀ k ∈ eight, ¬ (wordA k = p1 ∧ isEv (tryE k a b) = true ∧ lineB (tryE k a b) = s)) : ∀ x, isEv x = true → lineB x ≠ s := fun x hx hl => by
  obtain ⟨K, T, O, rfl, ⟨k1, k8⟩, hT, hO, _, h2⟩ := ev_parts hx hl
  have hK := mem_eight.2 ⟨k1, k8⟩
  obtain ⟨c, hc⟩ := letA_byte hK
  rw [h] at h2
  simp only [List.cons.injEq, and_true] at h2
  obtain ⟨e0, e1, e2⟩ := h2
  have q0 := (bytes_two (show (⟨#[a0, a]⟩ : ByteArray) = ⟨#[116, UInt8.ofNat (48 + T)]⟩ from e0)).2
  have q2 : b = UInt8.ofNat (48 + O) := by
    unfold p2X at e2
    rw [hc] at e2
    exact (bytes_two (show (⟨#[b0, b]⟩ : ByteArray) = ⟨#[c, UInt8.ofNat (48 + O)]⟩ from e2)).2
  have t1 : (a.toNat : Int) - 48 = T := by
    rw [q0]
    have : (UInt8.ofNat (48 + T)).toNat = 48 + T := by show (48 + T) % 2 ^ 8 = 48 + T; omega
    omega
  have t2 : (b.toNat : Int) - 48 = O := by
    rw [q2]
    have : (UInt8.ofNat (48 + O)).toNat = 48 + O := by show (48 + O) % 2 ^ 8 = 48 + O; omega
    omega
  have ht : tryE K a b = ⟨K, T, O⟩ := by unfold tryE; rw [t1, t2]
  exact hk K hK ⟨e1.symm, by rw [ht]; exact hx, by rw [ht]; exact hl⟩
theorem two_bytes {p : ByteArray} (h : p.size = 2) : ∃ a b, p = ⟨#[a, b]⟩ := by
  obtain ⟨⟨l⟩⟩ := p
  match l, h with
  | [a, b], _ => exact ⟨a, b, rfl⟩
theorem three_parts {s : ByteArray} (h : Lib.countB s ⟨#[32]⟩ = 2) : ∃ p0 p1 p2, Lib.splitB ⟨#[32]⟩ 0 2 s = [p0, p1, p2] := by
  have hn : (Lib.splitB ⟨#[32]⟩ 0 (Lib.countB s ⟨#[32]⟩) s).length = Lib.countB s ⟨#[32]⟩ + 1 := Lib.splitB_all ⟨#[32]⟩ (by decide) 0 _ s rfl
  rw [h] at hn
  match hm : Lib.splitB ⟨#[32]⟩ 0 2 s, hn with
  | [a, b, c], _ => exact ⟨a, b, c, rfl⟩
end Go.Proofs.YtfjbnhacfficnaaGreatDoor

/- The walk of TextEach. -/
namespace Go.Proofs.YtfjbnhacfficnaaGreatDoor
open Go.RowKit

theorem split_n (n : Nat) (s : ByteArray) (m : Int) (w : World) (hs : s.size < 4294967281) (hm : w.cell? ⟨3, 0, none⟩ = some (.int .i64 m)) (hn : Lib.countB s ⟨#[10]⟩ + 1 = n) :
    Calls Tryz.prog 53 #[.string s, .string ⟨#[10]⟩] w fun e w' => e = .returned (.slice (some ⟨w.heap.size, 0, none⟩) n n) ∧ w' = w.alloc (.cells ((Lib.splitB ⟨#[10]⟩ 0 (Lib.countB s ⟨#[10]⟩) s).map Value.string).toArray 9) := by
  subst hn
  exact l_strings_Split s ⟨#[10]⟩ m w hs hm (Nat.le_refl _)
theorem textL_size {l : List Ev} (hl : l.length ≤ 80) (hev : ∀ e ∈ l, isEv e = true) : (textB l).size < 4294967281 := by
  have h := join_len (l.map lineL) (fun x hx => by
    obtain ⟨e, he, rfl⟩ := List.mem_map.1 hx
    exact lineL_size (hev e he))
  rw [List.length_map] at h
  show (textL l).toArray.size < _
  rw [List.size_toArray]
  show (Lib.join (l.map lineL) [10]).length < _
  omega
end Go.Proofs.YtfjbnhacfficnaaGreatDoor

/- text.Read: plain part. -/
namespace Go.Proofs.YtfjbnhacfficnaaGreatDoor
open Go.RowKit

/-- The lines of a string. -/
def partsB (s : ByteArray) : List ByteArray := Lib.splitB ⟨#[10]⟩ 0 (Lib.countB s ⟨#[10]⟩) s
theorem partsB_len (s : ByteArray) : (partsB s).length = Lib.countB s ⟨#[10]⟩ + 1 := Lib.splitB_all ⟨#[10]⟩ (by decide) 0 _ s rfl
theorem part_size (sep : ByteArray) : ∀ (k : Nat) (s p : ByteArray), p ∈ Lib.splitB sep 0 k s → p.size ≤ s.size
  | 0, s, p, h => by
    rw [Lib.splitB_zero] at h
    rw [List.mem_singleton.1 h]
    exact Nat.le_refl _
  | k + 1, s, p, h => by
    rcases Lib.indexB_cases s sep with hi | ⟨i, hi, _⟩
    · rw [Lib.splitB_miss _ _ _ _ hi] at h
      rw [List.mem_singleton.1 h]
      exact Nat.le_refl _
    · rw [Lib.splitB_hit _ _ _ _ i hi] at h
      rcases List.mem_cons.1 h with rfl | h
      · rw [ByteArray.size_extract]; omega
      · have := part_size sep k _ p h
        rw [ByteArray.size_extract] at this
        omega
/-- What Read answers at s. -/
def RdRes (s : ByteArray) (l : List Ev) (n f : Int) : Prop :=
  (2000 < s.size ∧ l = [] ∧ n = 0 ∧ f = 2) ∨ (s = ⟨#[]⟩ ∧ l = [] ∧ n = 0 ∧ f = 0) ∨
  (s ≠ ⟨#[]⟩ ∧ s.size ≤ 2000 ∧
    ((∃ es : List Ev, (∀ e ∈ es, isEv e = true) ∧ es.map lineB = (partsB s).take es.length ∧ (∃ p, (partsB s)[es.length]? = some p ∧ ∀ x, isEv x = true → lineB x ≠ p) ∧ l = [] ∧ n = es.length + 1 ∧ f = 3) ∨
     (∃ es : List Ev, (∀ e ∈ es, isEv e = true) ∧ es.map lineB = partsB s ∧ n = 0 ∧ f = (played es).2.2 ∧ ((played es).2.2 = 0 → l = es) ∧ ((played es).2.2 ≠ 0 → l = []))))
theorem map_line : ∀ {a b : List Ev}, (∀ e ∈ a, isEv e = true) → (∀ e ∈ b, isEv e = true) → a.map lineB = b.map lineB → a = b
  | [], [], _, _, _ => rfl
  | [], _ :: _, _, _, h => by simp at h
  | _ :: _, [], _, _, h => by simp at h
  | x :: a, y :: b, ha, hb, h => by
    simp only [List.map_cons, List.cons.injEq] at h
    rw [line_inj (ha x (by simp)) (hb y (by simp)) h.1, map_line (fun e he => ha e (by simp [he])) (fun e he => hb e (by simp [he])) h.2]
theorem take_drop_at {c : UInt8} : ∀ {l : List UInt8} {o : Nat}, l[o]? = some c → l.take o ++ ([c] ++ l.drop (o + 1)) = l
  | [], o, h => by simp at h
  | b :: l, 0, h => by simp at h; subst h; simp
  | b :: l, o + 1, h => by
    have := take_drop_at (l := l) (o := o) (by simpa using h)
    simp at this ⊢
    exact this
/-- The parts, joined again. -/
theorem parts_join (c : UInt8) : ∀ (k : Nat) (s : ByteArray), Lib.countB s ⟨#[c]⟩ = k → Lib.join ((Lib.splitB ⟨#[c]⟩ 0 k s).map (·.data.toList)) [c] = s.data.toList
  | 0, s, _ => by
    rw [Lib.splitB_zero]
    exact Lib.join_one _ _
  | k + 1, s, hk => by
    rcases Lib.indexB_cases s ⟨#[c]⟩ with hi | ⟨i, hi, _⟩
    · rw [Lib.countB_miss _ _ hi] at hk
      omega
    · have hc := Lib.countB_hit s ⟨#[c]⟩ i (Nat.le_refl _) hi
      have hk2 : Lib.countB (s.extract (i + (⟨#[c]⟩ : ByteArray).size) s.size) ⟨#[c]⟩ = k := by omega
      have ih := parts_join c k _ hk2
      have hn := Lib.splitB_all ⟨#[c]⟩ (Nat.le_refl _) 0 k _ hk2
      rw [Lib.splitB_hit _ _ _ _ i hi]
      generalize hR : Lib.splitB ⟨#[c]⟩ 0 k (s.extract (i + (⟨#[c]⟩ : ByteArray).size) s.size) = R at *
      obtain ⟨y, r, rfl⟩ : ∃ y r, R = y :: r := by
        cases R with
        | nil => simp at hn
        | cons y r => exact ⟨y, r, rfl⟩
      rw [List.map_cons] at ih
      rw [List.map_cons, List.map_cons, join_two, ih, Lib.extract_to_end, Nat.add_zero, Lib.extract_from_zero]
      have hix : Lib.indexByte s.data.toList c = i := by
        rw [← Lib.index_one]
        exact hi
      exact take_drop_at (Lib.indexByte_some hix).1
theorem text_join {s : ByteArray} {es : List Ev} (h : es.map lineB = partsB s) : textB es = s := by
  have hj := parts_join 10 _ s rfl
  rw [show Lib.splitB ⟨#[10]⟩ 0 (Lib.countB s ⟨#[10]⟩) s = partsB s from rfl, ← h, List.map_map] at hj
  exact ByteArray.ext (Array.toList_inj.1 hj)
def line13 : Bool := (List.range 8).all fun k => (List.range 6).all fun t => (List.range 8).all fun o => decide (1 ≤ (lineX (k + 1) t o).data.toList.length ∧ (lineX (k + 1) t o).data.toList.length ≤ 13)
set_option maxRecDepth 100000 in
theorem line13_ok : line13 = true := by kernel_rfl
theorem line_13 {e : Ev} (he : isEv e = true) : 1 ≤ (lineL e).length ∧ (lineL e).length ≤ 13 := by
  obtain ⟨⟨k1, k8⟩, ⟨t0, t6⟩, o0, o8⟩ := isEv_bounds he
  obtain ⟨k, t, o⟩ := e
  obtain ⟨k, rfl⟩ := Int.eq_ofNat_of_zero_le (show 0 ≤ k by simp at k1; omega)
  obtain ⟨t, rfl⟩ := Int.eq_ofNat_of_zero_le t0
  obtain ⟨o, rfl⟩ := Int.eq_ofNat_of_zero_le o0
  simp only at k1 k8 t6 o8
  rw [lineL_X (K := k) (T := t) (O := o) rfl rfl rfl (by omega) (by omega)]
  have h := line13_ok
  unfold line13 at h
  have h2 := List.all_eq_true.1 (List.all_eq_true.1 (List.all_eq_true.1 h (k - 1) (List.mem_range.2 (by omega))) t (List.mem_range.2 (by omega))) o (List.mem_range.2 (by omega))
  rw [show k - 1 + 1 = k by omega] at h2
  exact of_decide_eq_true h2
theorem join_13 : ∀ (xs : List (List UInt8)), (∀ x ∈ xs, x.length ≤ 13) → (Lib.join xs [10]).length ≤ 14 * xs.length
  | [], _ => by rw [Lib.join_nil]; exact Nat.zero_le _
  | [x], h => by
    rw [Lib.join_one]
    have := h x (by simp)
    simp only [List.length_cons, List.length_nil]
    omega
  | x :: y :: r, h => by
    have ih := join_13 (y :: r) (fun z hz => h z (by simp [hz]))
    have := h x (by simp)
    rw [join_two]
    simp only [List.length_append, List.length_cons, List.length_nil] at *
    omega
theorem text_2000 {l : List Ev} (hl : l.length ≤ 80) (hev : ∀ e ∈ l, isEv e = true) : (textB l).size ≤ 2000 := by
  have h := join_13 (l.map lineL) (fun x hx => by
    obtain ⟨e, he, rfl⟩ := List.mem_map.1 hx
    exact (line_13 (hev e he)).2)
  rw [List.length_map] at h
  show (textL l).toArray.size ≤ _
  rw [List.size_toArray]
  show (Lib.join (l.map lineL) [10]).length ≤ _
  omega
theorem text_nil {l : List Ev} (hev : ∀ e ∈ l, isEv e = true) (h : textB l = ⟨#[]⟩) : l = [] := by
  cases l with
  | nil => rfl
  | cons e r =>
    have h1 := (line_13 (hev e (by simp))).1
    have h2 : (Lib.join ((e :: r).map lineL) [10]).length = 0 := by
      have := congrArg ByteArray.size h
      have h3 : (textL (e :: r)).toArray.size = 0 := this
      rw [List.size_toArray] at h3
      exact h3
    cases r with
    | nil =>
      rw [List.map_cons, List.map_nil, Lib.join_one] at h2
      omega
    | cons f r =>
      rw [List.map_cons, List.map_cons, join_two] at h2
      simp only [List.length_append] at h2
      omega
/-- What Read answers at a printed trace. -/
theorem rd_text {l m : List Ev} {n f : Int} (hp : (played l).2.2 = 0) (h : RdRes (textB l) m n f) : m = l ∧ n = 0 ∧ f = 0 := by
  obtain ⟨hl80, hev⟩ := played_evs hp
  have h2 := text_2000 hl80 hev
  rcases h with ⟨h1, _⟩ | ⟨h1, rfl, rfl, rfl⟩ | ⟨h1, _, h⟩
  · omega
  · exact ⟨(text_nil hev h1).symm, rfl, rfl⟩
  · have hne : l ≠ [] := fun e => h1 (by rw [e]; rfl)
    have hpt : partsB (textB l) = l.map lineB := (split_text hne hev).2
    rw [hpt] at h
    rcases h with ⟨es, _, _, ⟨p, hq, hno⟩, _⟩ | ⟨es, hes, hmap, rfl, rfl, hz, _⟩
    · exfalso
      rw [List.getElem?_map] at hq
      cases hx : l[es.length]? with
      | none => rw [hx] at hq; simp at hq
      | some x =>
        rw [hx] at hq
        simp at hq
        exact hno x (hev x (List.mem_of_getElem? hx)) hq
    · have he : es = l := map_line hes hev hmap
      subst he
      exact ⟨hz hp, rfl, hp⟩
/-- Whatever Read answers: without an error it is the trace whose text was read. -/
theorem rd_back {s : ByteArray} {m : List Ev} {n f : Int} (h : RdRes s m n f) : (f ≠ 0 ∧ m = []) ∨ (f = 0 ∧ (played m).2.2 = 0 ∧ textB m = s) := by
  rcases h with ⟨_, rfl, _, rfl⟩ | ⟨rfl, rfl, _, rfl⟩ | ⟨_, _, ⟨es, _, _, _, rfl, _, rfl⟩ | ⟨es, hes, hmap, _, rfl, hz, hnz⟩⟩
  · exact .inl ⟨by decide, rfl⟩
  · exact .inr ⟨rfl, rfl, rfl⟩
  · exact .inl ⟨by decide, rfl⟩
  · by_cases hp : (played es).2.2 = 0
    · rw [hz hp]
      exact .inr ⟨hp, hp, text_join hmap⟩
    · exact .inl ⟨hp, hnz hp⟩
theorem err_ne3 (s : St) (e : Ev) : err s e ≠ 3 := by
  unfold err
  repeat' split
  all_goals decide
theorem playL_ne3 : ∀ (l : List Ev) (s : St) (i : Nat), (playL s i l).2.2 ≠ 3
  | [], _, _ => by show (0 : Int) ≠ 3; decide
  | e :: l, s, i => by
    unfold playL
    split
    · exact playL_ne3 l _ _
    · exact err_ne3 s e
theorem played_ne3 (l : List Ev) : (played l).2.2 ≠ 3 := by
  unfold played
  split
  · show (2 : Int) ≠ 3
    decide
  · exact playL_ne3 _ _ _
/-- A line that can't be read is told by its number. -/
theorem rd_line {s : ByteArray} {m : List Ev} {n f : Int} (h : RdRes s m n f) : (f ≠ 3 ∧ n = 0) ∨ (f = 3 ∧ ∃ k p, n = ((k + 1 : Nat) : Int) ∧ (partsB s)[k]? = some p ∧ ∀ x, isEv x = true → lineB x ≠ p) := by
  rcases h with ⟨_, _, rfl, rfl⟩ | ⟨_, _, rfl, rfl⟩ | ⟨_, _, ⟨es, _, _, ⟨p, hp, hno⟩, _, rfl, rfl⟩ | ⟨es, _, _, rfl, rfl, _⟩⟩
  · exact .inl ⟨by decide, rfl⟩
  · exact .inl ⟨by decide, rfl⟩
  · exact .inr ⟨rfl, es.length, p, by omega, hp, hno⟩
  · exact .inl ⟨played_ne3 es, rfl⟩
end Go.Proofs.YtfjbnhacfficnaaGreatDoor

/- The parts of a line. -/
import Derived.Test.YtmeidjhojanogaaDoorTxC
namespace Go.Proofs.YtmeidjhojanogaaDoor
open Go.RowKit

def lineX (K T O : Nat) : ByteArray := ⟨([116, UInt8.ofNat (48 + T), 32] ++ (wordA K).data.toList ++ [32] ++ (letA K).data.toList ++ [UInt8.ofNat (48 + O)]).toArray⟩
def p0X (T : Nat) : ByteArray := ⟨#[116, UInt8.ofNat (48 + T)]⟩
def p2X (K O : Nat) : ByteArray := ⟨((letA K).data.toList ++ [UInt8.ofNat (48 + O)]).toArray⟩
def partsOk (K T O : Nat) : Bool := Lib.countB (lineX K T O) ⟨#[32]⟩ == 2 && (Lib.splitB ⟨#[32]⟩ 0 2 (lineX K T O)).map (·.data.toList) == [(p0X T).data.toList, (wordA K).data.toList, (p2X K O).data.toList]
def allParts : Bool := (List.range 8).all fun k => (List.range 6).all fun t => (List.range 8).all fun o => partsOk (k + 1) t o
set_option maxRecDepth 100000 in
theorem allParts_ok : allParts = true := by kernel_rfl
theorem bytes_inj : ∀ (l m : List ByteArray), l.map (·.data.toList) = m.map (·.data.toList) → l = m
  | [], [], _ => rfl
  | [], _ :: _, h => by simp at h
  | _ :: _, [], h => by simp at h
  | a :: l, b :: m, h => by
    simp only [List.map_cons, List.cons.injEq] at h
    rw [bytes_inj l m h.2, show a = b from ByteArray.ext (Array.toList_inj.1 h.1)]
theorem parts_line {K T O : Nat} (h1 : 1 ≤ K) (h8 : K ≤ 8) (hT : T < 6) (hO : O < 8) : Lib.countB (lineX K T O) ⟨#[32]⟩ = 2 ∧ Lib.splitB ⟨#[32]⟩ 0 2 (lineX K T O) = [p0X T, wordA K, p2X K O] := by
  have h := allParts_ok
  unfold allParts at h
  have h2 := List.all_eq_true.1 (List.all_eq_true.1 (List.all_eq_true.1 h (K - 1) (List.mem_range.2 (by omega))) T (List.mem_range.2 hT)) O (List.mem_range.2 hO)
  rw [show K - 1 + 1 = K by omega] at h2
  unfold partsOk at h2
  rw [Bool.and_eq_true] at h2
  exact ⟨beq_iff_eq.1 h2.1, bytes_inj _ _ (beq_iff_eq.1 h2.2)⟩
theorem line_X {e : Ev} {K T O : Nat} (hK : e.k = K) (hT : e.t = T) (hO : e.o = O) (h6 : T < 10) (h8 : O < 10) : lineB e = lineX K T O := by
  unfold lineB lineL lineX
  rw [hK, hT, hO]
  simp only [Int.toNat_natCast]
  rw [dec_one h6, dec_one h8]
  rfl
theorem letA_one {K : Nat} (h : K ∈ eight) : (letA K).size = 1 := by
  have : eight.all (fun k => (letA k).size == 1) = true := by decide
  exact beq_iff_eq.1 (List.all_eq_true.1 this K h)
theorem wordA_inj {K L : Nat} (h : K ∈ eight) (h' : L ∈ eight) (e : wordA K = wordA L) : K = L := by
  have : eight.all (fun k => eight.all (fun l => (wordA k).data.toList != (wordA l).data.toList || k == l)) = true := by decide
  have := List.all_eq_true.1 (List.all_eq_true.1 this K h) L h'
  rw [e] at this
  simpa using this
end Go.Proofs.YtmeidjhojanogaaDoor

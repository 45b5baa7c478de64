/- Lists that the contracts name. No program. -/
import Derived.Test.YtmeidjhojanogaaDoorTr
namespace Go.Proofs.YtmeidjhojanogaaDoor

/-- The threads that have begun. -/
def thrL (s : St) (k : Nat) : List Int := ((List.range k).filter fun i => s.begun i).map fun i : Nat => (i : Int)
theorem thrL_zero (s : St) : thrL s 0 = [] := rfl
theorem thrL_yes (s : St) (k : Nat) (h : s.begun k = true) : thrL s (k + 1) = thrL s k ++ [(k : Int)] := by simp [thrL, List.range_succ, List.filter_append, h]
theorem thrL_no (s : St) (k : Nat) (h : s.begun k = false) : thrL s (k + 1) = thrL s k := by simp [thrL, List.range_succ, List.filter_append, h]
theorem thrL_len (s : St) (k : Nat) : (thrL s k).length ≤ k := by simpa [thrL] using List.length_filter_le (fun i => s.begun i) (List.range k)
abbrev ints (l : List Int) : List Value := l.map fun n => Value.int .i64 n
end Go.Proofs.YtmeidjhojanogaaDoor

/- How a struct of two ints reads as a map's key. Any program. -/
import Derived.Test.YtmeidjhojanogaaOpen
import Derived.DeepKeys4
import Derived.Maps.OwnOps
import Derived.Maps.Views
namespace Go.Proofs.Ytmeidjhojanogaa
open Go.RowKit Go.Maps

/-- What a pair reads as. -/
def prKey (p : Int × Int) : Lit := .string (keyBytes [.int .i64 p.1, .int .i64 p.2])
theorem keyOf_pair {P : Program} {k e : TypeId} {f0 f1 : Field} {n : Nat} (hk : P.underlying k = some (.struct #[f0, f1])) (h0 : f0.type = e) (h1 : f1.type = e) (o0 : f0.offset = 0) (o1 : f1.offset = 1) (n0 : (f0.name != "_") = true) (n1 : (f1.name != "_") = true)
    (he : P.underlying e = some (.int .i64)) (hc : P.cellsOf k = 2) (hce : P.cellsOf e = 1) (hkt : P.keyType k = true) (hn : P.types.size = n + 1) (p : Int × Int) (w1 : (Lit.int .i64 p.1).wf = true) (w2 : (Lit.int .i64 p.2).wf = true) :
    keyOf P k (.agg #[.int .i64 p.1, .int .i64 p.2]) = some (prKey p) := by
  have hf : (Value.agg #[.int .i64 p.1, .int .i64 p.2]).formed P k = true := by simp [Value.formed, hk, hc]
  have hl : P.keyLits (P.types.size + 1) k [.int .i64 p.1, .int .i64 p.2] = some [.int .i64 p.1, .int .i64 p.2] := by
    rw [hn]
    simp [Program.keyLits, hk, hc, hce, h0, h1, o0, o1, he, w1, w2] at n0 n1 ⊢
    exact ⟨n0, n1⟩
  simp only [keyOf, hk, hkt, hf, Value.cells, hl, Bool.and_self, if_true, prKey]
  rfl
end Go.Proofs.Ytmeidjhojanogaa

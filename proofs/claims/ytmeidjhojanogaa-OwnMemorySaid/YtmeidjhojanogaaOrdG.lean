/- Contract of the laws' 'ahead'. -/
import Derived.Test.YtmeidjhojanogaaOrdE
import Derived.Test.YtmeidjhojanogaaMap
namespace Go.Proofs.Ytmeidjhojanogaa
open Go.RowKit Go.Maps

theorem I64P_bef {l : List Ev} (hl : l.length ≤ 80) : ∀ p ∈ befL l, I64P p := by
  intro p hp
  obtain ⟨i, j, rfl, hij, hj, _⟩ := mem_allP.1 hp
  exact ⟨⟨by simp only; omega, by simp only; omega⟩, ⟨by simp only; omega, by simp only; omega⟩⟩
theorem befL_len (l : List Ev) (hl : l.length ≤ 80) : (befL l).length ≤ 6400 := by
  have h1 := allP_len (befM l) l.length l.length
  have h2 : l.length * l.length ≤ 80 * 80 := Nat.mul_le_mul hl hl
  simp only [befL]
  omega
def AheadPost (L : List (Int × Int)) (w : World) (r : Ending) (w' : World) : Prop := ∃ b n, r = .returned (.map (some b)) ∧ w.heap.size ≤ b ∧ n ≤ 6400 ∧ MapP w' b n L ∧ Below w.heap.size w w'
end Go.Proofs.Ytmeidjhojanogaa

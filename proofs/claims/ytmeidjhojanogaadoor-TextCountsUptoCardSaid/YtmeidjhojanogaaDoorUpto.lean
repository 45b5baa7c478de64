/- What the bound on the bulk gives: slices are short. -/
import Derived.Test.YtmeidjhojanogaaDoorRows
import Derived.Test.YtmeidjhojanogaaDoorOpen
import Derived.JoinedCond
namespace Go.Proofs.YtmeidjhojanogaaDoor
open Go.ChangeShapes Go.WideShapes Go.ChangeAt Go.RowKit Go.Deep Go.Joins

theorem bulk_one {H : Type} (d : DataW H) : 1 ≤ Rows.uptoBulk d := by
  cases d with
  | lit l => cases l <;> simp [Rows.uptoBulk]
  | nil => simp [Rows.uptoBulk]
  | ptr d => simp [Rows.uptoBulk]
  | slice elems spare => simp [Rows.uptoBulk]
  | agg parts => simp [Rows.uptoBulk]
  | iface t d => simp [Rows.uptoBulk]
  | map entries => simp [Rows.uptoBulk]
  | held h => simp [Rows.uptoBulk]
theorem bulk_part {H : Type} {d : DataW H} {l : List (DataW H)} (h : d ∈ l) : Rows.uptoBulk d ≤ Rows.uptoBulkAll l := by
  induction l with
  | nil => cases h
  | cons x r ih =>
    simp only [Rows.uptoBulkAll]
    cases List.mem_cons.1 h with
    | inl e => subst e; omega
    | inr e => have := ih e; omega
theorem bulk_count {H : Type} (l : List (DataW H)) : l.length ≤ Rows.uptoBulkAll l := by
  induction l with
  | nil => simp [Rows.uptoBulkAll]
  | cons x r ih => have := bulk_one x; simp only [Rows.uptoBulkAll, List.length_cons]; omega
theorem upto_part {H : Type} {d : DataW H} {l : List (DataW H)} (hk : Rows.uptoSmall H l = true) (hd : d ∈ l) : Rows.uptoBulk d ≤ 1048576 := by
  have h : Rows.uptoBulkAll l ≤ 1048576 := of_decide_eq_true hk
  exact Nat.le_trans (bulk_part hd) h
theorem upto_slice {H : Type} {d : DataW H} {l : List (DataW H)} (hk : Rows.uptoSmall H l = true) (hd : d ∈ l) {els sp : List (DataW H)} (e : d = .slice els sp) : els.length + sp.length ≤ 1048576 := by
  have h := upto_part hk hd
  subst e
  have h1 := bulk_count els
  have h2 := bulk_count sp
  simp only [Rows.uptoBulk] at h
  omega
theorem upto_str {H : Type} {s : ByteArray} {l : List (DataW H)} (hk : Rows.uptoSmall H l = true) (hd : DataW.lit (.string s.data.toList) ∈ l) : s.size ≤ 1048576 := by
  have h := upto_part hk hd
  simp only [Rows.uptoBulk] at h
  have e : s.data.toList.length = s.size := by rw [Array.length_toList]; rfl
  omega
section
variable {H : Type} {enc : TypeId × Value → H} {P : Program} {w : World} {base : Nat} {spare : Nat → Bool} {held : Bool}
theorem upto_len {t e : TypeId} (ht : P.underlying t = some (.slice e)) {a : Option Addr} {n c : Nat} {d : DataW H} {p : List MemPlace} (h : DataW.Trod enc P w base spare held t (.slice a n c) d p)
    {l : List (DataW H)} (hk : Rows.uptoSmall H l = true) (hd : d ∈ l) : n ≤ 1048576 := by
  obtain ⟨fuel, hf⟩ := h
  rcases DataW.trod_slice ht hf with ⟨h0, _⟩ | ⟨a', n', c', elems, rest, m, _, hcs, hx, _, _, _, hl, _⟩
  · simp [Value.cells] at h0
    omega
  · simp only [Prod.mk.injEq] at hx
    have h1 := upto_slice hk hd hx.1
    simp [Value.cells] at hcs
    simp only [List.length_map] at h1
    omega
end
end Go.Proofs.YtmeidjhojanogaaDoor

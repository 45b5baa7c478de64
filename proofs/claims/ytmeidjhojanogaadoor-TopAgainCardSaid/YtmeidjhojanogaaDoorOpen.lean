/- Arguments of a law, opened: what is known of each kind of argument. -/
import Derived.Test.YtmeidjhojanogaaDoorBase
import Derived.ProofKit
import Derived.OpenShut
import Derived.ShutString
import Derived.ChangeOld
import Derived.Lib.SmallJoins
import Derived.Deep.Slices
import Derived.Deep.Fields
import Derived.ChangeSame
import Derived.HandedShaped
import Derived.SizedLaws
namespace Go.Proofs.YtmeidjhojanogaaDoor
open Go.ChangeShapes Go.WideShapes Go.ChangeAt Go.RowKit Go.Deep Go.Joins

/-- An int of 64 bits. -/
def I64 (n : Int) : Prop := -9223372036854775808 ≤ n ∧ n ≤ 9223372036854775807
theorem wf_i64 {n : Int} (h : (Lit.int .i64 n).wf = true) : I64 n := by
  have := bounds_i64 h
  exact ⟨by omega, by omega⟩

section
variable {H : Type} {enc : TypeId × Value → H} {P : Program} {w : World} {base : Nat} {spare : Nat → Bool} {held : Bool} {r : Reach} {b0 : Nat}
theorem okWide_array {t e : TypeId} {n : Nat} {v : Value} (ht : P.underlying t = some (.array n e)) (h : Value.okWide P w r b0 t v) : ∃ cs, v = .agg cs ∧ cs.size = P.cellsOf t := by
  simp only [Value.okWide, ht] at h
  obtain ⟨cs, h1, h2, _⟩ := h
  exact ⟨cs, h1, h2⟩

theorem list6 {l : List Value} (h : l.length = 6) : ∃ a b c d e f, l = [a, b, c, d, e, f] := by
  match l, h with
  | [a, b, c, d, e, f], _ => exact ⟨a, b, c, d, e, f, rfl⟩

/-- A clock by value. -/
theorem open_clk {t e : TypeId} {v : Value} {d : DataW H} {p : List MemPlace} (ht : P.underlying t = some (.array 6 e)) (he : P.underlying e = some (.int .i64)) (hc : P.cellsOf e = 1) (hct : P.cellsOf t = 6)
    (hv : Value.okWide P w r b0 t v) (h : DataW.Trod enc P w base spare held t v d p) : ∃ f : Nat → Int, v = clkV f ∧ ∀ i, i < 6 → I64 (f i) := by
  obtain ⟨⟨cs⟩, rfl, hs⟩ := okWide_array ht hv
  obtain ⟨a0, a1, a2, a3, a4, a5, rfl⟩ := list6 (hs.trans hct)
  obtain ⟨fuel, hf⟩ := h
  obtain ⟨xs, m, _, _, _, hl, hx⟩ := DataW.trod_array ht hf
  rw [hc] at hx
  have get : ∀ i (hi : i < 6) (c : Value), [a0, a1, a2, a3, a4, a5][i]? = some c → ∃ n : Int, c = .int .i64 n ∧ I64 n := by
    intro i hi c hci
    have h1 := hx i hi
    have h2 : (([a0, a1, a2, a3, a4, a5].drop (i * 1)).take 1) = [c] := by
      rw [Nat.mul_one, List.drop_eq_getElem_cons (by simpa using hi)]
      have := List.getElem?_eq_some_iff.1 hci
      obtain ⟨_, e⟩ := this
      simp [e]
    rw [show Value.cells (.agg [a0, a1, a2, a3, a4, a5].toArray) = [a0, a1, a2, a3, a4, a5].toArray from rfl] at h1
    rw [h2, List.getElem?_eq_getElem (by omega)] at h1
    obtain ⟨n, hn, _, hw⟩ := DataW.trod_int he h1
    simp only [List.cons.injEq, and_true] at hn
    exact ⟨n, hn, wf_i64 hw⟩
  obtain ⟨n0, rfl, w0⟩ := get 0 (by omega) a0 rfl
  obtain ⟨n1, rfl, w1⟩ := get 1 (by omega) a1 rfl
  obtain ⟨n2, rfl, w2⟩ := get 2 (by omega) a2 rfl
  obtain ⟨n3, rfl, w3⟩ := get 3 (by omega) a3 rfl
  obtain ⟨n4, rfl, w4⟩ := get 4 (by omega) a4 rfl
  obtain ⟨n5, rfl, w5⟩ := get 5 (by omega) a5 rfl
  refine ⟨fun | 0 => n0 | 1 => n1 | 2 => n2 | 3 => n3 | 4 => n4 | _ => n5, rfl, ?_⟩
  apply idx6 <;> assumption

theorem add_off {b o n : Nat} : (⟨b, o, none⟩ : Addr).add n = ⟨b, o + n, none⟩ := by unfold Addr.add; split <;> simp_all
/-- A slice of structs whose m fields are ints, each of one cell: its cells as numbers. -/
theorem open_structs {t e ti : TypeId} {fs : Array Field} {v : Value} {d : DataW H} {p : List MemPlace} (ht : P.underlying t = some (.slice e)) (he : P.underlying e = some (.struct fs))
    (hone : oneCellFields P fs = true) (hpos : 0 < fs.size) (hC : P.cellsOf e = fs.size) (hti : P.underlying ti = some (.int .i64)) (hty : ∀ (j : Nat) (f : Field), fs[j]? = some f → f.type = ti)
    (hv : Value.okWide P w r b0 t v) (h : DataW.Trod enc P w base spare held t v d p) (hsz : ∀ els sp, d = .slice els sp → (els.length + sp.length) * P.bytesOf e ≤ reachBytes) :
    ∃ (a : Option Addr) (len c : Nat) (F : Nat → Nat → Int), v = .slice a len c ∧ len * P.bytesOf e ≤ reachBytes ∧ len ≤ c ∧
      (len = 0 ∨ ∃ b o, a = some ⟨b, o, none⟩ ∧ ∀ i, i < len → ∀ j, j < fs.size → w.cell? ⟨b, o + (i * fs.size + j), none⟩ = some (.int .i64 (F i j))) ∧ ∀ i, i < len → ∀ j, j < fs.size → I64 (F i j) := by
  obtain ⟨a0, len0, cap0, rfl⟩ := okWide_slice ht hv
  obtain ⟨fuel, hf⟩ := h
  rcases open_slice ht hf with ⟨hcs, _⟩ | ⟨a, len, cap, m, n, D, Pl, hcs, _, hl, _, hm, hx, hi⟩
  · simp [Value.cells] at hcs
    obtain ⟨rfl, rfl, rfl⟩ := hcs
    exact ⟨none, 0, 0, fun _ _ => 0, rfl, by simp, Nat.le_refl _, .inl rfl, fun i hi => absurd hi (Nat.not_lt_zero _)⟩
  simp [Value.cells] at hcs
  obtain ⟨rfl, rfl, rfl⟩ := hcs
  have hlm : len0 ≤ m := by rw [hm]; split <;> omega
  have hs1 : len0 * P.bytesOf e ≤ reachBytes := by
    simp only [Prod.mk.injEq] at hx
    have := hsz _ _ hx.1
    refine Nat.le_trans (Nat.mul_le_mul_right _ ?_) this
    simp
  have get : ∀ i, i < len0 → ∀ j, j < fs.size → ∃ n : Int, w.cell? (a.add (i * fs.size + j)) = some (.int .i64 n) ∧ I64 n := by
    intro i him j hj
    obtain ⟨cs', hc, ht'⟩ := hi i (by omega)
    rw [hC] at hc
    obtain ⟨ys, n', hn', hy, hlen, hyl, hff⟩ := DataW.trod_struct he ht'
    obtain ⟨_, hcl, hat⟩ := World.cells?_some hc
    have hfj : fs[j]? = some fs[j] := by simp [hj]
    obtain ⟨ho, hk⟩ := hone_of hone j fs[j] hfj
    have hcell := hat j hj
    have hv : cs'[j]? = some (cs'[j]'(by omega)) := List.getElem?_eq_getElem (by omega)
    have h1 := hff j fs[j] hfj
    rw [ho, hk] at h1
    have hone' : (cs'.drop j).take 1 = [cs'[j]'(by omega)] := by
      rw [List.drop_eq_getElem_cons (by omega)]
      rfl
    rw [hone', hty j fs[j] hfj] at h1
    have hys : ys[j]? = some (ys[j]'(by omega)) := List.getElem?_eq_getElem (by omega)
    rw [hys] at h1
    obtain ⟨n, hn, _, hw⟩ := DataW.trod_int hti h1
    simp only [List.cons.injEq, and_true] at hn
    exact ⟨n, by rw [← Go.Deep.add_add, hcell, hv, hn], wf_i64 hw⟩
  refine ⟨some a, len0, cap0, fun i j => if h : i < len0 ∧ j < fs.size then Classical.choose (get i h.1 j h.2) else 0, rfl, hs1, hl, ?_, ?_⟩
  · by_cases h0 : len0 = 0
    · exact .inl h0
    · right
      obtain ⟨n, hn, _⟩ := get 0 (by omega) 0 (by omega)
      have hspot := World.cell?_spot hn
      obtain ⟨b, o, sp⟩ := a
      have hsp : sp = none := by simpa [Addr.add] using hspot
      subst hsp
      refine ⟨b, o, rfl, fun i hi j hj => ?_⟩
      have e : i < len0 ∧ j < fs.size := ⟨hi, hj⟩
      simp only [dif_pos e]
      rw [← add_off]
      exact (Classical.choose_spec (get i hi j hj)).1
  · intro i hi j hj
    have e : i < len0 ∧ j < fs.size := ⟨hi, hj⟩
    simp only [dif_pos e]
    exact (Classical.choose_spec (get i hi j hj)).2
end
end Go.Proofs.YtmeidjhojanogaaDoor

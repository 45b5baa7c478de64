/- Pairs of races: each once; how many keys a set of pairs has. -/
import Derived.Test.YtdhbgbneadcmiaaRacA
namespace Go.Proofs.Ytdhbgbneadcmiaa
open Go.RowKit Go.Maps

def prOf (r : Rc) : Int × Int := (r.a, r.b)
theorem rowR_pr (l : List Ev) (i j : Nat) : (rowR l i j).map prOf = rowP (raceB l) i j := by
  simp [rowR, rowP, prOf, raceOf]
theorem allR_pr (l : List Ev) (n : Nat) : ∀ i, (allR l n i).map prOf = allP (raceB l) n i
  | 0 => rfl
  | i + 1 => by rw [allR_succ, allP_succ, List.map_append, allR_pr l n i, rowR_pr]
theorem rowP_nodup (H : Nat → Nat → Bool) (i : Nat) : ∀ j, (rowP H i j).Nodup ∧ ∀ p ∈ rowP H i j, p.1 = i ∧ p.2 < (j : Int)
  | 0 => by simp [rowP]
  | j + 1 => by
    obtain ⟨h1, h2⟩ := rowP_nodup H i j
    by_cases h : i < j ∧ H i j = true
    · rw [rowP_yes H i j h.1 h.2]
      refine ⟨?_, ?_⟩
      · rw [List.nodup_append]
        refine ⟨h1, by simp, ?_⟩
        intro p hp q hq e
        simp only [List.mem_singleton] at hq
        subst hq
        subst e
        have := (h2 _ hp).2
        simp only at this
        omega
      · intro p hp
        rcases List.mem_append.1 hp with h3 | h3
        · have := h2 p h3; exact ⟨this.1, by omega⟩
        · simp only [List.mem_singleton] at h3
          subst h3
          exact ⟨rfl, by simp only; omega⟩
    · have hz : rowP H i (j + 1) = rowP H i j := by
        have : (decide (i < j) && H i j) = false := by
          rw [Bool.eq_false_iff]
          simpa using h
        simp [rowP, List.range_succ, List.filter_append, this]
      rw [hz]
      exact ⟨h1, fun p hp => by have := h2 p hp; exact ⟨this.1, by omega⟩⟩
theorem allP_nodup (H : Nat → Nat → Bool) (n : Nat) : ∀ i, (allP H n i).Nodup ∧ ∀ p ∈ allP H n i, p.1 < (i : Int)
  | 0 => by simp [allP]
  | i + 1 => by
    obtain ⟨h1, h2⟩ := allP_nodup H n i
    obtain ⟨h3, h4⟩ := rowP_nodup H i n
    rw [allP_succ]
    refine ⟨?_, ?_⟩
    · rw [List.nodup_append]
      refine ⟨h1, h3, ?_⟩
      intro p hp q hq e
      subst e
      have := h2 _ hp
      have := (h4 _ hq).1
      omega
    · intro p hp
      rcases List.mem_append.1 hp with h5 | h5
      · have := h2 p h5; omega
      · have := (h4 p h5).1; omega
theorem fold_keys (S : List (Int × Int)) : (∀ q ∈ S, I64P q) → S.Nodup → (S.map prKey).foldl addKey [] = S.map prKey := by
  refine snoc_ind (C := fun S => (∀ q ∈ S, I64P q) → S.Nodup → (S.map prKey).foldl addKey [] = S.map prKey) (fun _ _ => rfl) ?_ S
  intro S p ih hS hn
  rw [List.nodup_append] at hn
  rw [List.map_append, List.foldl_append, ih (fun q hq => hS q (by simp [hq])) hn.1]
  simp only [List.map_cons, List.map_nil, List.foldl_cons, List.foldl_nil, addKey]
  rw [if_neg]
  intro h
  obtain ⟨y, hy, hs⟩ := List.any_eq_true.1 h
  obtain ⟨q, hq, rfl⟩ := List.mem_map.1 hy
  have hqp : q ≠ p := hn.2.2 q hq p (by simp)
  have hi := hS q (by simp [hq])
  have hj := hS p (by simp)
  rw [sameKey_ne (fun e => hqp (prKey_inj hi.1 hi.2 hj.1 hj.2 e))] at hs
  cases hs
theorem size_prD (S : List (Int × Int)) (hS : ∀ q ∈ S, I64P q) (hn : S.Nodup) : Maps.size (prD S) = S.length := by
  unfold prD
  rw [size_setOf _ _ (by intro x hx; obtain ⟨p, _, rfl⟩ := List.mem_map.1 hx; exact isKey_pr p), fold_keys S hS hn, List.length_map]
/-- The pairs of the races. -/
def racP (l : List Ev) : List (Int × Int) := allP (raceB l) l.length l.length
theorem racP_I64 {l : List Ev} (hl : l.length ≤ 80) : ∀ p ∈ racP l, I64P p := by
  intro p hp
  obtain ⟨i, j, rfl, hij, hj, _⟩ := mem_allP.1 hp
  exact ⟨⟨by simp only; omega, by simp only; omega⟩, ⟨by simp only; omega, by simp only; omega⟩⟩
theorem inB_racP {l : List Ev} (i j : Nat) (hij : i < j) (hj : j < l.length) : inB (racP l) ((i : Int), (j : Int)) = raceB l i j := by
  apply Bool.eq_iff_iff.2
  rw [inB, decide_eq_true_eq]
  simp only [racP, mem_allP]
  constructor
  · rintro ⟨a, b, h1, h2, h3, h4⟩
    simp only [Prod.mk.injEq] at h1
    obtain rfl : a = i := by omega
    obtain rfl : b = j := by omega
    exact h4
  · exact fun h => ⟨i, j, rfl, hij, hj, h⟩
theorem MapP.lookR {w : World} {b n : Nat} {l : List Ev} (h : MapP w b n (racP l)) (hl : l.length ≤ 80) (i j : Nat) (hij : i < j) (hj : j < l.length) :
    (Instr.lookup 43 (.map (some b)) (.agg #[.int .i64 (i : Int), .int .i64 (j : Int)]) false).run Try.prog w = .ok (.bool (raceB l i j)) w := by
  rw [← inB_racP i j hij hj]
  exact h.look (racP_I64 hl) ((i : Int), (j : Int)) ⟨⟨by simp only; omega, by simp only; omega⟩, ⟨by simp only; omega, by simp only; omega⟩⟩
end Go.Proofs.Ytdhbgbneadcmiaa

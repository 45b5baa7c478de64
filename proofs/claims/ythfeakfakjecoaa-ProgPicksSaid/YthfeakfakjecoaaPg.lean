/- Programs in memory: a slice of slices of ops (an op is written as three numbers, as an event is); opened as an argument. -/
import Derived.Test.YthfeakfakjecoaaOpen
import Derived.Test.YthfeakfakjecoaaTrC
namespace Go.Proofs.Ythfeakfakjecoaa
open Go.ChangeShapes Go.WideShapes Go.ChangeAt Go.RowKit Go.Deep Go.Joins

structure PgS (w : World) (a : Option Addr) (p : List (List Ev)) : Prop where
  big : p.length < 4611686018427387904
  ok : p = [] ∨ ∃ b o, a = some ⟨b, o, none⟩ ∧ ∀ t (h : t < p.length), ∃ a' c', w.cell? ⟨b, o + t, none⟩ = some (.slice a' p[t].length c') ∧ EvS w a' p[t]
theorem PgS.below {w w' : World} {a : Option Addr} {p : List (List Ev)} (h : PgS w a p) (k : Below w.heap.size w w') : PgS w' a p := by
  refine ⟨h.big, ?_⟩
  rcases h.ok with h0 | ⟨b, o, ha, hc⟩
  · exact .inl h0
  · refine .inr ⟨b, o, ha, fun t ht => ?_⟩
    obtain ⟨a', c', h1, h2⟩ := hc t ht
    exact ⟨a', c', (k.cell (World.block_lt_of_cell? w _ h1)).trans h1, h2.below k⟩
theorem PgS.at {w : World} {a : Option Addr} {p : List (List Ev)} (h : PgS w a p) {t : Nat} (ht : t < p.length) : ∃ b o a' c', a = some ⟨b, o, none⟩ ∧ w.cell? ⟨b, o + t, none⟩ = some (.slice a' p[t].length c') ∧ EvS w a' p[t] := by
  rcases h.ok with h0 | ⟨b, o, ha, hc⟩
  · subst h0; cases ht
  · obtain ⟨a', c', h1, h2⟩ := hc t ht
    exact ⟨b, o, a', c', ha, h1, h2⟩
section
variable {H : Type} {enc : TypeId × Value → H} {P : Program} {w : World} {base : Nat} {spare : Nat → Bool} {held : Bool} {r : Reach} {b0 : Nat}
theorem weights_all {e : TypeId} {d : DataW H} {n : Nat} : ∀ {l : List (DataW H)}, d ∈ l → n ∈ d.weights P e → n ∈ DataW.weightsAll P e l
  | [], h, _ => by cases h
  | x :: l, h, hn => by
    simp only [DataW.weightsAll, List.mem_append]
    rcases List.mem_cons.1 h with rfl | h
    · exact .inl hn
    · exact .inr (weights_all h hn)
/-- As 'open_structs', of cells in memory. -/
theorem inner_structs {t e ti : TypeId} {fs : Array Field} {fuel : Nat} {cs : List Value} {x : DataW H × List MemPlace} (ht : P.underlying t = some (.slice e)) (he : P.underlying e = some (.struct fs))
    (hone : oneCellFields P fs = true) (hpos : 0 < fs.size) (hC : P.cellsOf e = fs.size) (hti : P.underlying ti = some (.int .i64)) (hty : ∀ (j : Nat) (f : Field), fs[j]? = some f → f.type = ti)
    (hf : DataW.trod enc P w base spare held fuel t cs = some x) (hsz : ∀ els sp, x.1 = .slice els sp → (els.length + sp.length) * P.bytesOf e ≤ reachBytes) :
    ∃ (a : Option Addr) (len c : Nat) (F : Nat → Nat → Int), cs = [.slice a len c] ∧ len * P.bytesOf e ≤ reachBytes ∧
      (len = 0 ∨ ∃ b o, a = some ⟨b, o, none⟩ ∧ ∀ i, i < len → ∀ j, j < fs.size → w.cell? ⟨b, o + (i * fs.size + j), none⟩ = some (.int .i64 (F i j))) ∧ ∀ i, i < len → ∀ j, j < fs.size → I64 (F i j) := by
  rcases open_slice ht hf with ⟨hcs, _⟩ | ⟨a, len, cap, m, n, D, Pl, hcs, _, hl, _, hm, hx, hi⟩
  · exact ⟨none, 0, 0, fun _ _ => 0, hcs, by simp, .inl rfl, fun i hi => absurd hi (Nat.not_lt_zero _)⟩
  have hlm : len ≤ m := by rw [hm]; split <;> omega
  have hs1 : len * P.bytesOf e ≤ reachBytes := by
    have := hsz _ _ (congrArg Prod.fst hx)
    refine Nat.le_trans (Nat.mul_le_mul_right _ ?_) this
    simp
  have get : ∀ i, i < len → ∀ j, j < fs.size → ∃ n : Int, w.cell? (a.add (i * fs.size + j)) = some (.int .i64 n) ∧ I64 n := by
    intro i him j hj
    obtain ⟨cs', hc, ht'⟩ := hi i (by omega)
    rw [hC] at hc
    obtain ⟨ys, n', hn', hy, hlen, hyl, hff⟩ := DataW.trod_struct he ht'
    obtain ⟨_, hcl, hat⟩ := World.cells?_some hc
    have hfj : fs[j]? = some fs[j] := by simp [hj]
    obtain ⟨ho, hk⟩ := hone_of hone j fs[j] hfj
    have hcell := hat j hj
    have hv : cs'[j]? = some (cs'[j]'(by omega)) := List.getElem?_eq_getElem (by omega)
    have h1 := hff j fs[j] hfj
    rw [ho, hk] at h1
    have hone' : (cs'.drop j).take 1 = [cs'[j]'(by omega)] := by
      rw [List.drop_eq_getElem_cons (by omega)]
      rfl
    rw [hone', hty j fs[j] hfj] at h1
    have hys : ys[j]? = some (ys[j]'(by omega)) := List.getElem?_eq_getElem (by omega)
    rw [hys] at h1
    obtain ⟨n, hn, _, hw⟩ := DataW.trod_int hti h1
    simp only [List.cons.injEq, and_true] at hn
    exact ⟨n, by rw [← Go.Deep.add_add, hcell, hv, hn], wf_i64 hw⟩
  refine ⟨some a, len, cap, fun i j => if h : i < len ∧ j < fs.size then Classical.choose (get i h.1 j h.2) else 0, hcs, hs1, ?_, ?_⟩
  · by_cases h0 : len = 0
    · exact .inl h0
    · right
      obtain ⟨n, hn, _⟩ := get 0 (by omega) 0 (by omega)
      have hspot := World.cell?_spot hn
      obtain ⟨b, o, sp⟩ := a
      have hsp : sp = none := by simpa [Addr.add] using hspot
      subst hsp
      refine ⟨b, o, rfl, fun i hi j hj => ?_⟩
      have e : i < len ∧ j < fs.size := ⟨hi, hj⟩
      simp only [dif_pos e]
      rw [← add_off]
      exact (Classical.choose_spec (get i hi j hj)).1
  · intro i hi j hj
    have e : i < len ∧ j < fs.size := ⟨hi, hj⟩
    simp only [dif_pos e]
    exact (Classical.choose_spec (get i hi j hj)).2
end
theorem ops_bytes : Try.prog.bytesOf 42 = 24 := by kernel_rfl
theorem ops_cells : Try.prog.cellsOf 40 = 1 := by kernel_rfl
section
variable {H : Type} {enc : TypeId × Value → H} {w : World} {base : Nat} {spare : Nat → Bool} {held : Bool} {r : Reach} {b0 : Nat}
set_option maxRecDepth 100000 in
theorem inner_ops {fuel : Nat} {cs : List Value} {x : DataW H × List MemPlace} (hf : DataW.trod enc Try.prog w base spare held fuel 40 cs = some x) (hsz : ∀ els sp, x.1 = .slice els sp → (els.length + sp.length) * Try.prog.bytesOf 42 ≤ reachBytes) :
    ∃ (a : Option Addr) (z : List Ev) (c : Nat), cs = [.slice a z.length c] ∧ EvS w a z ∧ ∀ e ∈ z, I64 e.k ∧ I64 e.t ∧ I64 e.o := by
  obtain ⟨a, len, c, F, rfl, hb, hok, hI⟩ := inner_structs Try.underlying40 Try.underlying42 (by kernel_rfl) (by decide) (by kernel_rfl) Try.underlying3 (by
    intro j f hj
    rcases (by have := (Array.getElem?_eq_some_iff.1 hj).1; simp at this; omega : j = 0 ∨ j = 1 ∨ j = 2) with rfl | rfl | rfl <;> (simp at hj; subst hj; rfl)) hf hsz
  rw [ops_bytes] at hb
  have hb' : len * 24 ≤ 140737488351232 := hb
  refine ⟨a, (List.range len).map fun i => ⟨F i 0, F i 1, F i 2⟩, c, by simp, ⟨by simp; omega, ?_⟩, ?_⟩
  · rcases hok with h0 | ⟨b, o, rfl, hc⟩
    · left; simp [h0]
    · right
      refine ⟨b, o, rfl, fun i hi => ?_⟩
      have hi' : i < len := by simpa using hi
      have h0 := hc i hi' 0 (by decide)
      have h1 := hc i hi' 1 (by decide)
      have h2 := hc i hi' 2 (by decide)
      simp only [List.getElem_map, List.getElem_range]
      exact ⟨h0, by rw [Nat.add_assoc]; exact h1, by rw [Nat.add_assoc]; exact h2⟩
  · intro e he
    simp only [List.mem_map, List.mem_range] at he
    obtain ⟨i, hi, rfl⟩ := he
    exact ⟨hI i hi 0 (by decide), hI i hi 1 (by decide), hI i hi 2 (by decide)⟩
theorem rows_bytes : Try.prog.bytesOf 40 = 24 := by kernel_rfl
set_option maxRecDepth 100000 in
theorem open_prog {v : Value} {d : DataW H} {pl : List MemPlace}
    (hv : Value.okWide Try.prog w r b0 22 v) (h : DataW.Trod enc Try.prog w base spare held 22 v d pl) (hsz : ∀ n ∈ d.weights Try.prog 22, n ≤ reachBytes) :
    ∃ (a : Option Addr) (p : List (List Ev)) (c : Nat), v = .slice a p.length c ∧ PgS w a p ∧ (p.length ≤ c ∧ p.length * 24 ≤ 140737488351232) ∧ ∀ z ∈ p, ∀ e ∈ z, I64 e.k ∧ I64 e.t ∧ I64 e.o := by
  obtain ⟨a0, len0, cap0, rfl⟩ := okWide_slice Try.underlying22 hv
  obtain ⟨fuel, hf⟩ := h
  rcases open_slice Try.underlying22 hf with ⟨hcs, _⟩ | ⟨a, len, cap, m, n, D, Pl, hcs, _, hl, _, hm, hx, hi⟩
  · simp [Value.cells] at hcs
    obtain ⟨rfl, rfl, rfl⟩ := hcs
    exact ⟨none, [], 0, rfl, ⟨by simp, .inl rfl⟩, ⟨Nat.le_refl _, by simp⟩, fun z hz => by cases hz⟩
  simp [Value.cells] at hcs
  obtain ⟨rfl, rfl, rfl⟩ := hcs
  have hlm : len0 ≤ m := by rw [hm]; split <;> omega
  simp only [Prod.mk.injEq] at hx
  obtain ⟨rfl, _⟩ := hx
  have hw0 : ∀ q, q ∈ DataW.weights Try.prog 22 (.slice ((List.range len0).map D) ((List.range (m - len0)).map fun j => D (len0 + j))) ↔ q = (len0 + (m - len0)) * Try.prog.bytesOf 40 ∨ q ∈ DataW.weightsAll Try.prog 40 ((List.range len0).map D) ∨ q ∈ DataW.weightsAll Try.prog 40 ((List.range (m - len0)).map fun j => D (len0 + j)) := by
    intro q
    simp [DataW.weights, Try.underlying22]
  have hs1 : len0 * 24 ≤ 140737488351232 := by
    have := hsz _ ((hw0 _).2 (.inl rfl))
    rw [rows_bytes] at this
    have h2 : (len0 + (m - len0)) * 24 ≤ 140737488351232 := this
    omega
  have get : ∀ i, i < len0 → ∃ (a' : Option Addr) (z : List Ev) (c' : Nat), w.cell? (a.add i) = some (.slice a' z.length c') ∧ EvS w a' z ∧ ∀ e ∈ z, I64 e.k ∧ I64 e.t ∧ I64 e.o := by
    intro i him
    obtain ⟨cs', hc, ht'⟩ := hi i (by omega)
    rw [ops_cells] at hc
    obtain ⟨a', z, c', rfl, hz, hI⟩ := inner_ops ht' (fun els sp he => by
      refine hsz _ ((hw0 _).2 (.inr (.inl (weights_all (d := D i) (List.mem_map_of_mem (List.mem_range.2 him)) ?_))))
      have he : D i = .slice els sp := he
      rw [he]
      simp [DataW.weights, Try.underlying40])
    obtain ⟨_, hcl, hat⟩ := World.cells?_some hc
    have hcell := hat 0 (by omega)
    refine ⟨a', z, c', ?_, hz, hI⟩
    rw [Go.Deep.add_add, Nat.mul_one, Nat.add_zero] at hcell
    exact hcell
  by_cases h0 : len0 = 0
  · subst h0
    exact ⟨some a, [], cap0, rfl, ⟨by simp, .inl rfl⟩, ⟨Nat.zero_le _, by simp⟩, fun z hz => by cases hz⟩
  · obtain ⟨a1, z1, c1, h1, _⟩ := get 0 (by omega)
    have hspot := World.cell?_spot h1
    obtain ⟨b, o, sp⟩ := a
    have hsp : sp = none := by simpa [Addr.add] using hspot
    subst hsp
    have get2 : ∀ i, i < len0 → ∃ (z : List Ev) (a' : Option Addr) (c' : Nat), w.cell? ⟨b, o + i, none⟩ = some (.slice a' z.length c') ∧ EvS w a' z ∧ ∀ e ∈ z, I64 e.k ∧ I64 e.t ∧ I64 e.o := by
      intro i hi
      obtain ⟨a', z, c', g1, g2, g3⟩ := get i hi
      rw [add_off] at g1
      exact ⟨z, a', c', g1, g2, g3⟩
    have hch : ∃ F : Nat → List Ev, ∀ i, i < len0 → ∃ (a' : Option Addr) (c' : Nat), w.cell? ⟨b, o + i, none⟩ = some (.slice a' (F i).length c') ∧ EvS w a' (F i) ∧ ∀ e ∈ F i, I64 e.k ∧ I64 e.t ∧ I64 e.o := by
      refine ⟨fun i => if h : i < len0 then Classical.choose (get2 i h) else [], fun i hi => ?_⟩
      simp only [dif_pos hi]
      exact Classical.choose_spec (get2 i hi)
    obtain ⟨F, hF⟩ := hch
    refine ⟨_, (List.range len0).map F, cap0, by simp, ⟨by simp; omega, .inr ⟨b, o, rfl, fun t ht => ?_⟩⟩, ⟨by simpa using hl, by simpa using hs1⟩, fun z hz => ?_⟩
    · have ht' : t < len0 := by simpa using ht
      obtain ⟨a', c', h1, h2, _⟩ := hF t ht'
      simp only [List.getElem_map, List.getElem_range]
      exact ⟨a', c', h1, h2⟩
    · simp only [List.mem_map, List.mem_range] at hz
      obtain ⟨i, hi, rfl⟩ := hz
      obtain ⟨_, _, _, _, h3⟩ := hF i hi
      exact h3
end
end Go.Proofs.Ythfeakfakjecoaa

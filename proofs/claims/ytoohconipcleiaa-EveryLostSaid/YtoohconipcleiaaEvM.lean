/- Nodes of the search for a race, in memory: 39 cells each (a state, a slice of picks, a slice of events). -/
import Derived.Test.YtoohconipcleiaaNF
import Derived.Test.YtoohconipcleiaaMV
import Derived.Test.YtoohconipcleiaaMF
namespace Go.Proofs.Ytoohconipcleiaa
open Go.RowKit

/-- The cells of one node; what its slices hold; its slices lie outside of block g. -/
structure NdC (w : World) (g : Option Nat) (nd : Nd) (cs : List Value) : Prop where
  ok : ∃ a c a' c', cs = (psR nd.1 [.slice a nd.2.1.length c, .slice a' nd.2.2.length c']).toList ∧ IntS w a nd.2.1 ∧ ((nd.2.1 = [] → a = none ∧ c = 0) ∧ nd.2.1.length ≤ c) ∧ EvS w a' nd.2.2 ∧
    (nd.2.1 ≠ [] → ∀ ad : Addr, a = some ad → some ad.block ≠ g) ∧ (nd.2.2 ≠ [] → ∀ ad : Addr, a' = some ad → some ad.block ≠ g)
theorem psR_size2 (s : PS) (x y : Value) : (psR s [x, y]).size = 39 := by simp [psR, psC_size]
theorem NdC.len {w : World} {g : Option Nat} {nd : Nd} {cs : List Value} (h : NdC w g nd cs) : cs.length = 39 := by
  obtain ⟨a, c, a', c', rfl, _⟩ := h.ok
  rw [Array.length_toList, psR_size2]
theorem psR_one2 (s : PS) {x y : Value} (hx : x.oneCell' = true) (hy : y.oneCell' = true) : ∀ u ∈ (psR s [x, y]).toList, u.oneCell' = true := by
  intro u hu
  unfold psR at hu
  rw [Array.toList_append] at hu
  rcases List.mem_append.1 hu with h | h
  · exact (Array.all_eq_true_iff_forall_mem.1 (psC_one s)) u (by simpa using h)
  · simp at h
    rcases h with rfl | rfl
    · exact hx
    · exact hy
theorem NdC.one {w : World} {g : Option Nat} {nd : Nd} {cs : List Value} (h : NdC w g nd cs) : ∀ u ∈ cs, u.oneCell' = true := by
  obtain ⟨a, c, a', c', rfl, _⟩ := h.ok
  exact psR_one2 nd.1 rfl rfl
theorem NdC.below {w w' : World} {g : Option Nat} {nd : Nd} {cs : List Value} (h : NdC w g nd cs) (k : Below w.heap.size w w') : NdC w' g nd cs := by
  obtain ⟨a, c, a', c', h1, h2, h3, h4, h5, h6⟩ := h.ok
  exact ⟨a, c, a', c', h1, h2.below k, h3, h4.below k, h5, h6⟩
theorem NdC.weak {w : World} {g : Option Nat} {nd : Nd} {cs : List Value} (h : NdC w g nd cs) : NdC w none nd cs := by
  obtain ⟨a, c, a', c', h1, h2, h3, h4, _, _⟩ := h.ok
  exact ⟨a, c, a', c', h1, h2, h3, h4, fun _ _ _ => by simp, fun _ _ _ => by simp⟩
theorem IntS.grownFar {w w' : World} {g : Option Nat} {a : Option Addr} {l : List Int} (h : IntS w a l) (hg : w.grownBy w' g) (hf : l ≠ [] → ∀ ad : Addr, a = some ad → some ad.block ≠ g) : IntS w' a l := by
  refine ⟨h.big, ?_⟩
  rcases h.ok with h0 | ⟨b, o, ha, hc⟩
  · exact .inl h0
  · by_cases hl : l = []
    · exact .inl hl
    · refine .inr ⟨b, o, ha, fun i hi => ?_⟩
      have := hc i hi
      exact (World.cell?_of_block (hg.block b (World.block_lt_of_cell? w _ this) (hf hl _ ha))).trans this
theorem EvS.grownFar {w w' : World} {g : Option Nat} {a : Option Addr} {l : List Ev} (h : EvS w a l) (hg : w.grownBy w' g) (hf : l ≠ [] → ∀ ad : Addr, a = some ad → some ad.block ≠ g) : EvS w' a l := by
  refine ⟨h.big, ?_⟩
  rcases h.ok with h0 | ⟨b, o, ha, hc⟩
  · exact .inl h0
  · by_cases hl : l = []
    · exact .inl hl
    · refine .inr ⟨b, o, ha, fun i hi => ?_⟩
      obtain ⟨c0, c1, c2⟩ := hc i hi
      have hb := hg.block b (World.block_lt_of_cell? w _ c0) (hf hl _ ha)
      exact ⟨(World.cell?_of_block hb).trans c0, (World.cell?_of_block hb).trans c1, (World.cell?_of_block hb).trans c2⟩
theorem IntS.lt {w : World} {a : Option Addr} {l : List Int} (h : IntS w a l) (hl : l ≠ []) {ad : Addr} (ha : a = some ad) : ad.block < w.heap.size := by
  rcases h.ok with h0 | ⟨b, o, rfl, hc⟩
  · exact absurd h0 hl
  · cases ha
    exact World.block_lt_of_cell? w _ (hc 0 (List.length_pos_iff.2 hl))
theorem EvS.lt {w : World} {a : Option Addr} {l : List Ev} (h : EvS w a l) (hl : l ≠ []) {ad : Addr} (ha : a = some ad) : ad.block < w.heap.size := by
  rcases h.ok with h0 | ⟨b, o, rfl, hc⟩
  · exact absurd h0 hl
  · cases ha
    exact World.block_lt_of_cell? w _ (hc 0 (List.length_pos_iff.2 hl)).1
theorem NdC.grown {w w' : World} {v v' : Value} {nd : Nd} {cs : List Value} (h : NdC w v.ownBlock nd cs) (hg : w.grownBy w' v.ownBlock) (hl : v'.ownBlock = v.ownBlock ∨ v'.ownBlock = some w.heap.size) : NdC w' v'.ownBlock nd cs := by
  obtain ⟨a, c, a', c', h1, h2, h3, h4, h5, h6⟩ := h.ok
  refine ⟨a, c, a', c', h1, h2.grownFar hg h5, h3, h4.grownFar hg h6, fun hn ad ha => ?_, fun hn ad ha => ?_⟩
  · rcases hl with e | e
    · rw [e]; exact h5 hn ad ha
    · rw [e]; intro e2; have := h2.lt hn ha; have := Option.some.inj e2; omega
  · rcases hl with e | e
    · rw [e]; exact h6 hn ad ha
    · rw [e]; intro e2; have := h4.lt hn ha; have := Option.some.inj e2; omega
/-- A node whose slices were made since there were B blocks lies outside of a block below B. -/
theorem NdC.far {w : World} {g : Option Nat} {nd : Nd} {a a' : Option Addr} {c c' : Nat} (h2 : IntS w a nd.2.1) (h3 : (nd.2.1 = [] → a = none ∧ c = 0) ∧ nd.2.1.length ≤ c) (h4 : EvS w a' nd.2.2) (h5 : nd.2.1 ≠ [] → ∀ ad : Addr, a = some ad → some ad.block ≠ g) (h6 : nd.2.2 ≠ [] → ∀ ad : Addr, a' = some ad → some ad.block ≠ g) :
    NdC w g nd (psR nd.1 [.slice a nd.2.1.length c, .slice a' nd.2.2.length c']).toList := ⟨a, c, a', c', rfl, h2, h3, h4, h5, h6⟩
theorem NdC.root (w : World) (g : Option Nat) : NdC w g rootN (psR PS.first [.slice none 0 0, .slice none 0 0]).toList :=
  ⟨none, 0, none, 0, rfl, ⟨by simp [rootN], .inl rfl⟩, ⟨fun _ => ⟨rfl, rfl⟩, Nat.le_refl _⟩, ⟨by simp [rootN], .inl rfl⟩, fun h => absurd rfl h, fun h => absurd rfl h⟩
abbrev ndT : TypeId := 122
/-- The nodes of the next level, under way: a row of the call's own. -/
structure NodesI (w : World) (base : Nat) (v : Value) (nds : List Nd) (css : List (List Value)) : Prop where
  len : css.length = nds.length
  own : w.ownsRow base ndT 39 v nds.length css.flatten
  nd : ∀ i (h : i < nds.length) (h' : i < css.length), NdC w v.ownBlock nds[i] css[i]
theorem NodesI.nil (w : World) (base : Nat) : NodesI w base (.slice none 0 0) [] [] := ⟨rfl, World.ownsRow_nil _ _ _ _, fun _ h => absurd h (Nat.not_lt_zero _)⟩
section
variable {w w' : World} {base : Nat} {v v' : Value} {nds : List Nd} {css : List (List Value)}
theorem NodesI.below (h : NodesI w base v nds css) (k : Below w.heap.size w w') : NodesI w' base v nds css := ⟨h.len, own_below h.own k, fun i h1 h2 => (h.nd i h1 h2).below k⟩
theorem NodesI.app (h : NodesI w base v nds css) {nd : Nd} {cs : List Value} (hn : NdC w v.ownBlock nd cs) (hA : Appended w w' base ndT 39 v v' (nds.length + 1) (css.flatten ++ cs)) : NodesI w' base v' (nds ++ [nd]) (css ++ [cs]) := by
  refine ⟨by simp [h.len], ?_, fun i h1 h2 => ?_⟩
  · rw [List.flatten_append, List.flatten_singleton, List.length_append]
    exact hA.own
  · have hl := h.len
    rcases Nat.lt_or_ge i nds.length with c | c
    · rw [List.getElem_append_left c, List.getElem_append_left (by omega)]
      exact (h.nd i c (by omega)).grown hA.grown hA.lies
    · simp at h1 h2
      have e : i = nds.length := by omega
      subst e
      rw [List.getElem_append_right (Nat.le_refl _), List.getElem_append_right (by omega)]
      simp [hl]
      exact hn.grown hA.grown hA.lies
theorem NodesI.one (h : NodesI w base v nds css) : ∀ u ∈ css.flatten, u.oneCell' = true := by
  intro u hu
  obtain ⟨cs, hc, hu⟩ := List.mem_flatten.1 hu
  obtain ⟨i, hi, rfl⟩ := List.mem_iff_getElem.1 hc
  exact (h.nd i (by rw [← h.len]; exact hi) hi).one u hu
end
/-- A level in memory. -/
structure NdS (w : World) (a : Option Addr) (nds : List Nd) : Prop where
  ok : nds = [] ∨ ∃ b o, a = some ⟨b, o, none⟩ ∧ ∀ i (h : i < nds.length), ∃ cs, w.rangeAt b (o + i * 39) cs ∧ NdC w none nds[i] cs
theorem NdS.below {w w' : World} {a : Option Addr} {nds : List Nd} (h : NdS w a nds) (k : Below w.heap.size w w') : NdS w' a nds := by
  rcases h.ok with h0 | ⟨b, o, ha, hc⟩
  · exact ⟨.inl h0⟩
  · refine ⟨.inr ⟨b, o, ha, fun i hi => ?_⟩⟩
    obtain ⟨cs, h1, h2⟩ := hc i hi
    refine ⟨cs, fun j v hv => ?_, h2.below k⟩
    have := h1 j v hv
    exact (k.cell (World.block_lt_of_cell? w _ this)).trans this
theorem NdS.at {w : World} {a : Option Addr} {nds : List Nd} (h : NdS w a nds) {i : Nat} (hi : i < nds.length) : ∃ b o cs, a = some ⟨b, o, none⟩ ∧ w.rangeAt b (o + i * 39) cs ∧ NdC w none nds[i] cs := by
  rcases h.ok with h0 | ⟨b, o, ha, hc⟩
  · subst h0; cases hi
  · obtain ⟨cs, h1, h2⟩ := hc i hi
    exact ⟨b, o, cs, ha, h1, h2⟩
theorem flatN_get : ∀ (css : List (List Value)) (n : Nat), (∀ cs ∈ css, cs.length = n) → ∀ (i : Nat) (h : i < css.length) (j : Nat), j < n → css.flatten[i * n + j]? = css[i][j]?
  | [], _, _, i, h, _, _ => absurd h (Nat.not_lt_zero _)
  | c :: css, n, hl, 0, _, j, hj => by
    rw [List.flatten_cons, Nat.zero_mul, Nat.zero_add, List.getElem?_append_left (by rw [hl c (by simp)]; exact hj)]
    rfl
  | c :: css, n, hl, i + 1, h, j, hj => by
    rw [List.flatten_cons, List.getElem?_append_right (by rw [hl c (by simp), Nat.succ_mul]; omega), hl c (by simp), show (i + 1) * n + j - n = i * n + j by rw [Nat.succ_mul]; omega]
    exact flatN_get css n (fun cs h => hl cs (by simp [h])) i (by simpa using h) j hj
theorem NodesI.shut {w : World} {base : Nat} {v : Value} {nds : List Nd} {css : List (List Value)} (h : NodesI w base v nds css) : ∃ a c, v = .slice a nds.length c ∧ NdS w a nds := by
  have ho := h.own
  rcases ho.2 with ⟨rfl, hn⟩ | ⟨g, cap, cur, rfl, hg, hh, _⟩
  · exact ⟨none, 0, by rw [hn], ⟨.inl (List.eq_nil_of_length_eq_zero hn)⟩⟩
  · refine ⟨_, _, rfl, ⟨.inr ⟨g, 0, rfl, fun i hi => ?_⟩⟩⟩
    have hi' : i < css.length := by rw [h.len]; exact hi
    have hnd := h.nd i hi hi'
    refine ⟨css[i], fun j v hv => ?_, hnd.weak⟩
    have hall : ∀ cs ∈ css, cs.length = 39 := fun cs hc => by
      obtain ⟨k, hk, rfl⟩ := List.mem_iff_getElem.1 hc
      exact (h.nd k (by rw [← h.len]; exact hk) hk).len
    have hj : j < 39 := by
      have := (List.getElem?_eq_some_iff.1 hv).1
      rwa [hnd.len] at this
    have e1 := ho.cells (g := g) rfl (i * 39 + j) v (by rw [flatN_get css 39 hall i hi' j hj]; exact hv)
    have hadd : (⟨g, 0, none⟩ : Addr).add (i * 39 + j) = ⟨g, 0 + i * 39 + j, none⟩ := by unfold Addr.add; split <;> simp_all
    rw [hadd] at e1
    exact e1
end Go.Proofs.Ytoohconipcleiaa

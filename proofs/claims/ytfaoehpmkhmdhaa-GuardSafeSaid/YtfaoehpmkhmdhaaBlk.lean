/- A block read whole, stored whole. -/
import Derived.Test.YtfaoehpmkhmdhaaRowI
import Derived.Deep.MidRow
namespace Go.Proofs.Ytfaoehpmkhmdhaa
open Go.RowKit

theorem Has.rangeW {w : World} {b : Nat} {cs : Array Value} {t : TypeId} (h : Has w b cs t) : w.rangeAt b 0 cs.toList := by
  intro j v hv
  rw [Array.getElem?_toList] at hv
  rw [Nat.zero_add]
  exact h.cell hv
theorem Has.load {P : Program} {w : World} {b : Nat} {cs : Array Value} {t : TypeId} {d : TypeDesc} (h : Has w b cs t) (hu : P.underlying t = some d) (hd : d.isRow = true) (hi : (P.info? t).map (·.size) = some cs.size) :
    (Instr.loadAt t (.pointer (some ⟨b, 0, none⟩))).run P w = .ok (.agg cs) w := by
  have := run_loadAt_mid (P := P) w b 0 t cs.toList d h.rangeW hu hd (by simpa using hi)
  simpa using this
theorem Has.loadVar {P : Program} {w : World} {b : Nat} {cs : Array Value} {t : TypeId} {d : TypeDesc} (h : Has w b cs t) (hu : P.underlying t = some d) (hd : d.isRow = true) (hi : (P.info? t).map (·.size) = some cs.size) :
    (loadVar t ⟨b, 0, none⟩).run P w = .ok (.agg cs) w := by
  have := run_loadVar_mid (P := P) w b 0 t cs.toList d h.rangeW hu hd (by simpa using hi)
  simpa using this
theorem Has.thereW {w : World} {b : Nat} {cs : Array Value} {t : TypeId} (h : Has w b cs t) : w.there b 0 cs.size := by
  intro j hj
  rw [Nat.zero_add]
  refine ⟨?_, h.free j⟩
  rw [h.cell (Array.getElem?_eq_getElem hj)]
  rfl
theorem Has.store {P : Program} {w : World} {b : Nat} {cs new : Array Value} {t : TypeId} (h : Has w b cs t) (hi : (P.info? t).map (·.size) = some new.size) (hs : new.size = cs.size) (h1 : new.all (·.oneCell') = true) :
    (Instr.storeAt t (.pointer (some ⟨b, 0, none⟩)) (.agg new)).run P w = .ok () (w.setCells b 0 new.toList) :=
  run_storeAt_mid (P := P) w b 0 t new (by rw [hs]; exact h.thereW) hi h1
theorem Has.setSame {w : World} {b : Nat} {cs : Array Value} {t : TypeId} (h : Has w b cs t) {i : Nat} {v : Value} (hv : cs[i]? = some v) : w.setCell ⟨b, i, none⟩ v = w := by
  have hb := h.out
  unfold World.setCell
  have : w.heap.modify b (fun o => match o with | .cells c t f => .cells (c.setIfInBounds i v) t f | o => o) = w.heap := by
    apply Array.ext_getElem?
    intro j
    rw [Array.getElem?_modify]
    split
    · rename_i e
      subst e
      rw [hb]
      simp only [Option.map_some]
      congr 2
      apply Array.ext_getElem?
      intro k
      rw [Array.getElem?_setIfInBounds]
      split
      · rename_i e2
        subst e2
        split
        · exact hv.symm
        · rename_i hk
          have := (Array.getElem?_eq_some_iff.1 hv).1
          exact absurd this hk
      · rfl
    · rfl
  exact congrArg (fun x => { w with heap := x }) this
theorem Has.setSames {w : World} {b : Nat} {cs : Array Value} {t : TypeId} (h : Has w b cs t) : ∀ (vs : List Value) (o : Nat), (∀ j v, vs[j]? = some v → cs[o + j]? = some v) → w.setCells b o vs = w
  | [], _, _ => rfl
  | v :: vs, o, hv => by
    rw [World.setCells, h.setSame (i := o) (by simpa using hv 0 v rfl)]
    exact h.setSames vs (o + 1) fun j u hu => by rw [show o + 1 + j = o + (j + 1) by omega]; exact hv (j + 1) u hu
/-- What lies there is stored again: nothing changes. -/
theorem Has.storeSame {P : Program} {w : World} {b : Nat} {cs : Array Value} {t : TypeId} (h : Has w b cs t) (hi : (P.info? t).map (·.size) = some cs.size) (h1 : cs.all (·.oneCell') = true) :
    (Instr.storeAt t (.pointer (some ⟨b, 0, none⟩)) (.agg cs)).run P w = .ok () w := by
  rw [h.store hi rfl h1, h.setSames cs.toList 0 fun j v hv => by rw [Nat.zero_add, ← Array.getElem?_toList]; exact hv]
theorem setCells_append (b : Nat) : ∀ (vs us : List Value) (o : Nat) (w : World), w.setCells b o (vs ++ us) = (w.setCells b o vs).setCells b (o + vs.length) us
  | [], us, o, w => by simp [World.setCells]
  | v :: vs, us, o, w => by
    simp only [List.cons_append, World.setCells, List.length_cons]
    rw [setCells_append b vs us (o + 1), show o + 1 + vs.length = o + (vs.length + 1) by omega]
theorem rowI_one (n : Nat) (f : Nat → Int) : (rowI n f).all (·.oneCell') = true := by
  refine all_oneCell_toArray fun v hv => ?_
  simp only [List.mem_map] at hv
  obtain ⟨i, _, rfl⟩ := hv
  rfl
/-- Another row of as many ints is stored. -/
theorem Has.setAll {w : World} {b n : Nat} {f g : Nat → Int} {t : TypeId} (h : Has w b (rowI n f) t) : Has (w.setCells b 0 (rowI n g).toList) b (rowI n g) t := by
  have key : ∀ k, k ≤ n → Has (w.setCells b 0 ((List.range k).map fun i => Value.int .i64 (g i))) b (rowI n fun i => if i < k then g i else f i) t := by
    intro k
    induction k with
    | zero => intro _; exact h.to (rowI_congr fun i _ => by simp)
    | succ k ih =>
      intro hk
      have h2 := (ih (by omega)).setCell k (.int .i64 (g k))
      rw [rowI_set] at h2
      rw [List.range_succ, List.map_append, setCells_append]
      simp only [List.length_map, List.length_range, Nat.zero_add, List.map_cons, List.map_nil, World.setCells]
      refine h2.to (rowI_congr fun i _ => ?_)
      by_cases e : i = k
      · subst e; simp
      · by_cases e2 : i < k
        · rw [if_neg e, if_pos e2, if_pos (by omega)]
        · rw [if_neg e, if_neg e2, if_neg (by omega)]
  have := key n (Nat.le_refl _)
  rw [rowI]
  refine Has.to this (rowI_congr fun i hi => by rw [if_pos hi])
end Go.Proofs.Ytfaoehpmkhmdhaa

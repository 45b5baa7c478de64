/- Joined texts. -/
import Derived.Test.YtoohconipcleiaaOpen
import Derived.Test.YtoohconipcleiaaMX
import Derived.Test.YtoohconipcleiaaMA

/- Programs in memory: a slice of slices of ops (an op is written as three numbers, as an event is); opened as an argument. -/
namespace Go.Proofs.Ytoohconipcleiaa
open Go.ChangeShapes Go.WideShapes Go.ChangeAt Go.RowKit Go.Deep Go.Joins

structure PgS (w : World) (a : Option Addr) (p : List (List Ev)) : Prop where
  big : p.length < 4611686018427387904
  ok : p = [] ∨ ∃ b o, a = some ⟨b, o, none⟩ ∧ ∀ t (h : t < p.length), ∃ a' c', w.cell? ⟨b, o + t, none⟩ = some (.slice a' p[t].length c') ∧ EvS w a' p[t]
theorem PgS.below {w w' : World} {a : Option Addr} {p : List (List Ev)} (h : PgS w a p) (k : Below w.heap.size w w') : PgS w' a p := by
  refine ⟨h.big, ?_⟩
  rcases h.ok with h0 | ⟨b, o, ha, hc⟩
  · exact .inl h0
  · refine .inr ⟨b, o, ha, fun t ht => ?_⟩
    obtain ⟨a', c', h1, h2⟩ := hc t ht
    exact ⟨a', c', (k.cell (World.block_lt_of_cell? w _ h1)).trans h1, h2.below k⟩
theorem PgS.at {w : World} {a : Option Addr} {p : List (List Ev)} (h : PgS w a p) {t : Nat} (ht : t < p.length) : ∃ b o a' c', a = some ⟨b, o, none⟩ ∧ w.cell? ⟨b, o + t, none⟩ = some (.slice a' p[t].length c') ∧ EvS w a' p[t] := by
  rcases h.ok with h0 | ⟨b, o, ha, hc⟩
  · subst h0; cases ht
  · obtain ⟨a', c', h1, h2⟩ := hc t ht
    exact ⟨b, o, a', c', ha, h1, h2⟩
section
variable {H : Type} {enc : TypeId × Value → H} {P : Program} {w : World} {base : Nat} {spare : Nat → Bool} {held : Bool} {r : Reach} {b0 : Nat}
theorem weights_all {e : TypeId} {d : DataW H} {n : Nat} : ∀ {l : List (DataW H)}, d ∈ l → n ∈ d.weights P e → n ∈ DataW.weightsAll P e l
  | [], h, _ => by cases h
  | x :: l, h, hn => by
    simp only [DataW.weightsAll, List.mem_append]
    rcases List.mem_cons.1 h with rfl | h
    · exact .inl hn
    · exact .inr (weights_all h hn)
/-- As 'open_structs', of cells in memory. -/
theorem inner_structs {t e ti : TypeId} {fs : Array Field} {fuel : Nat} {cs : List Value} {x : DataW H × List MemPlace} (ht : P.underlying t = some (.slice e)) (he : P.underlying e = some (.struct fs))
    (hone : oneCellFields P fs = true) (hpos : 0 < fs.size) (hC : P.cellsOf e = fs.size) (hti : P.underlying ti = some (.int .i64)) (hty : ∀ (j : Nat) (f : Field), fs[j]? = some f → f.type = ti)
    (hf : DataW.trod enc P w base spare held fuel t cs = some x) (hsz : ∀ els sp, x.1 = .slice els sp → (els.length + sp.length) * P.bytesOf e ≤ reachBytes) :
    ∃ (a : Option Addr) (len c : Nat) (F : Nat → Nat → Int), cs = [.slice a len c] ∧ len * P.bytesOf e ≤ reachBytes ∧
      (len = 0 ∨ ∃ b o, a = some ⟨b, o, none⟩ ∧ ∀ i, i < len → ∀ j, j < fs.size → w.cell? ⟨b, o + (i * fs.size + j), none⟩ = some (.int .i64 (F i j))) ∧ ∀ i, i < len → ∀ j, j < fs.size → I64 (F i j) := by
  rcases open_slice ht hf with ⟨hcs, _⟩ | ⟨a, len, cap, m, n, D, Pl, hcs, _, hl, _, hm, hx, hi⟩
  · exact ⟨none, 0, 0, fun _ _ => 0, hcs, by simp, .inl rfl, fun i hi => absurd hi (Nat.not_lt_zero _)⟩
  have hlm : len ≤ m := by rw [hm]; split <;> omega
  have hs1 : len * P.bytesOf e ≤ reachBytes := by
    have := hsz _ _ (congrArg Prod.fst hx)
    refine Nat.le_trans (Nat.mul_le_mul_right _ ?_) this
    simp
  have get : ∀ i, i < len → ∀ j, j < fs.size → ∃ n : Int, w.cell? (a.add (i * fs.size + j)) = some (.int .i64 n) ∧ I64 n := by
    intro i him j hj
    obtain ⟨cs', hc, ht'⟩ := hi i (by omega)
    rw [hC] at hc
    obtain ⟨ys, n', hn', hy, hlen, hyl, hff⟩ := DataW.trod_struct he ht'
    obtain ⟨_, hcl, hat⟩ := World.cells?_some hc
    have hfj : fs[j]? = some fs[j] := by simp [hj]
    obtain ⟨ho, hk⟩ := hone_of hone j fs[j] hfj
    have hcell := hat j hj
    have hv : cs'[j]? = some (cs'[j]'(by omega)) := List.getElem?_eq_getElem (by omega)
    have h1 := hff j fs[j] hfj
    rw [ho, hk] at h1
    have hone' : (cs'.drop j).take 1 = [cs'[j]'(by omega)] := by
      rw [List.drop_eq_getElem_cons (by omega)]
      rfl
    rw [hone', hty j fs[j] hfj] at h1
    have hys : ys[j]? = some (ys[j]'(by omega)) := List.getElem?_eq_getElem (by omega)
    rw [hys] at h1
    obtain ⟨n, hn, _, hw⟩ := DataW.trod_int hti h1
    simp only [List.cons.injEq, and_true] at hn
    exact ⟨n, by rw [← Go.Deep.add_add, hcell, hv, hn], wf_i64 hw⟩
  refine ⟨some a, len, cap, fun i j => if h : i < len ∧ j < fs.size then Classical.choose (get i h.1 j h.2) else 0, hcs, hs1, ?_, ?_⟩
  · by_cases h0 : len = 0
    · exact .inl h0
    · right
      obtain ⟨n, hn, _⟩ := get 0 (by omega) 0 (by omega)
      have hspot := World.cell?_spot hn
      obtain ⟨b, o, sp⟩ := a
      have hsp : sp = none := by simpa [Addr.add] using hspot
      subst hsp
      refine ⟨b, o, rfl, fun i hi j hj => ?_⟩
      have e : i < len ∧ j < fs.size := ⟨hi, hj⟩
      simp only [dif_pos e]
      rw [← add_off]
      exact (Classical.choose_spec (get i hi j hj)).1
  · intro i hi j hj
    have e : i < len ∧ j < fs.size := ⟨hi, hj⟩
    simp only [dif_pos e]
    exact (Classical.choose_spec (get i hi j hj)).2
end
theorem ops_bytes : Try.prog.bytesOf 40 = 24 := by kernel_rfl
theorem ops_cells : Try.prog.cellsOf 38 = 1 := by kernel_rfl
section
variable {H : Type} {enc : TypeId × Value → H} {w : World} {base : Nat} {spare : Nat → Bool} {held : Bool} {r : Reach} {b0 : Nat}
set_option maxRecDepth 100000 in
theorem inner_ops {fuel : Nat} {cs : List Value} {x : DataW H × List MemPlace} (hf : DataW.trod enc Try.prog w base spare held fuel 38 cs = some x) (hsz : ∀ els sp, x.1 = .slice els sp → (els.length + sp.length) * Try.prog.bytesOf 40 ≤ reachBytes) :
    ∃ (a : Option Addr) (z : List Ev) (c : Nat), cs = [.slice a z.length c] ∧ EvS w a z ∧ ∀ e ∈ z, I64 e.k ∧ I64 e.t ∧ I64 e.o := by
  obtain ⟨a, len, c, F, rfl, hb, hok, hI⟩ := inner_structs Try.underlying38 Try.underlying40 (by kernel_rfl) (by decide) (by kernel_rfl) Try.underlying3 (by
    intro j f hj
    rcases (by have := (Array.getElem?_eq_some_iff.1 hj).1; simp at this; omega : j = 0 ∨ j = 1 ∨ j = 2) with rfl | rfl | rfl <;> (simp at hj; subst hj; rfl)) hf hsz
  rw [ops_bytes] at hb
  have hb' : len * 24 ≤ 140737488351232 := hb
  refine ⟨a, (List.range len).map fun i => ⟨F i 0, F i 1, F i 2⟩, c, by simp, ⟨by simp; omega, ?_⟩, ?_⟩
  · rcases hok with h0 | ⟨b, o, rfl, hc⟩
    · left; simp [h0]
    · right
      refine ⟨b, o, rfl, fun i hi => ?_⟩
      have hi' : i < len := by simpa using hi
      have h0 := hc i hi' 0 (by decide)
      have h1 := hc i hi' 1 (by decide)
      have h2 := hc i hi' 2 (by decide)
      simp only [List.getElem_map, List.getElem_range]
      exact ⟨h0, by rw [Nat.add_assoc]; exact h1, by rw [Nat.add_assoc]; exact h2⟩
  · intro e he
    simp only [List.mem_map, List.mem_range] at he
    obtain ⟨i, hi, rfl⟩ := he
    exact ⟨hI i hi 0 (by decide), hI i hi 1 (by decide), hI i hi 2 (by decide)⟩
theorem rows_bytes : Try.prog.bytesOf 38 = 24 := by kernel_rfl
set_option maxRecDepth 100000 in
theorem open_prog {v : Value} {d : DataW H} {pl : List MemPlace}
    (hv : Value.okWide Try.prog w r b0 22 v) (h : DataW.Trod enc Try.prog w base spare held 22 v d pl) (hsz : ∀ n ∈ d.weights Try.prog 22, n ≤ reachBytes) :
    ∃ (a : Option Addr) (p : List (List Ev)) (c : Nat), v = .slice a p.length c ∧ PgS w a p ∧ (p.length ≤ c ∧ p.length * 24 ≤ 140737488351232) ∧ ∀ z ∈ p, ∀ e ∈ z, I64 e.k ∧ I64 e.t ∧ I64 e.o := by
  obtain ⟨a0, len0, cap0, rfl⟩ := okWide_slice Try.underlying22 hv
  obtain ⟨fuel, hf⟩ := h
  rcases open_slice Try.underlying22 hf with ⟨hcs, _⟩ | ⟨a, len, cap, m, n, D, Pl, hcs, _, hl, _, hm, hx, hi⟩
  · simp [Value.cells] at hcs
    obtain ⟨rfl, rfl, rfl⟩ := hcs
    exact ⟨none, [], 0, rfl, ⟨by simp, .inl rfl⟩, ⟨Nat.le_refl _, by simp⟩, fun z hz => by cases hz⟩
  simp [Value.cells] at hcs
  obtain ⟨rfl, rfl, rfl⟩ := hcs
  have hlm : len0 ≤ m := by rw [hm]; split <;> omega
  simp only [Prod.mk.injEq] at hx
  obtain ⟨rfl, _⟩ := hx
  have hw0 : ∀ q, q ∈ DataW.weights Try.prog 22 (.slice ((List.range len0).map D) ((List.range (m - len0)).map fun j => D (len0 + j))) ↔ q = (len0 + (m - len0)) * Try.prog.bytesOf 38 ∨ q ∈ DataW.weightsAll Try.prog 38 ((List.range len0).map D) ∨ q ∈ DataW.weightsAll Try.prog 38 ((List.range (m - len0)).map fun j => D (len0 + j)) := by
    intro q
    simp [DataW.weights, Try.underlying22]
  have hs1 : len0 * 24 ≤ 140737488351232 := by
    have := hsz _ ((hw0 _).2 (.inl rfl))
    rw [rows_bytes] at this
    have h2 : (len0 + (m - len0)) * 24 ≤ 140737488351232 := this
    omega
  have get : ∀ i, i < len0 → ∃ (a' : Option Addr) (z : List Ev) (c' : Nat), w.cell? (a.add i) = some (.slice a' z.length c') ∧ EvS w a' z ∧ ∀ e ∈ z, I64 e.k ∧ I64 e.t ∧ I64 e.o := by
    intro i him
    obtain ⟨cs', hc, ht'⟩ := hi i (by omega)
    rw [ops_cells] at hc
    obtain ⟨a', z, c', rfl, hz, hI⟩ := inner_ops ht' (fun els sp he => by
      refine hsz _ ((hw0 _).2 (.inr (.inl (weights_all (d := D i) (List.mem_map_of_mem (List.mem_range.2 him)) ?_))))
      have he : D i = .slice els sp := he
      rw [he]
      simp [DataW.weights, Try.underlying38])
    obtain ⟨_, hcl, hat⟩ := World.cells?_some hc
    have hcell := hat 0 (by omega)
    refine ⟨a', z, c', ?_, hz, hI⟩
    rw [Go.Deep.add_add, Nat.mul_one, Nat.add_zero] at hcell
    exact hcell
  by_cases h0 : len0 = 0
  · subst h0
    exact ⟨some a, [], cap0, rfl, ⟨by simp, .inl rfl⟩, ⟨Nat.zero_le _, by simp⟩, fun z hz => by cases hz⟩
  · obtain ⟨a1, z1, c1, h1, _⟩ := get 0 (by omega)
    have hspot := World.cell?_spot h1
    obtain ⟨b, o, sp⟩ := a
    have hsp : sp = none := by simpa [Addr.add] using hspot
    subst hsp
    have get2 : ∀ i, i < len0 → ∃ (z : List Ev) (a' : Option Addr) (c' : Nat), w.cell? ⟨b, o + i, none⟩ = some (.slice a' z.length c') ∧ EvS w a' z ∧ ∀ e ∈ z, I64 e.k ∧ I64 e.t ∧ I64 e.o := by
      intro i hi
      obtain ⟨a', z, c', g1, g2, g3⟩ := get i hi
      rw [add_off] at g1
      exact ⟨z, a', c', g1, g2, g3⟩
    have hch : ∃ F : Nat → List Ev, ∀ i, i < len0 → ∃ (a' : Option Addr) (c' : Nat), w.cell? ⟨b, o + i, none⟩ = some (.slice a' (F i).length c') ∧ EvS w a' (F i) ∧ ∀ e ∈ F i, I64 e.k ∧ I64 e.t ∧ I64 e.o := by
      refine ⟨fun i => if h : i < len0 then Classical.choose (get2 i h) else [], fun i hi => ?_⟩
      simp only [dif_pos hi]
      exact Classical.choose_spec (get2 i hi)
    obtain ⟨F, hF⟩ := hch
    refine ⟨_, (List.range len0).map F, cap0, by simp, ⟨by simp; omega, .inr ⟨b, o, rfl, fun t ht => ?_⟩⟩, ⟨by simpa using hl, by simpa using hs1⟩, fun z hz => ?_⟩
    · have ht' : t < len0 := by simpa using ht
      obtain ⟨a', c', h1, h2, _⟩ := hF t ht'
      simp only [List.getElem_map, List.getElem_range]
      exact ⟨a', c', h1, h2⟩
    · simp only [List.mem_map, List.mem_range] at hz
      obtain ⟨i, hi, rfl⟩ := hz
      obtain ⟨_, _, _, _, h3⟩ := hF i hi
      exact h3
end
end Go.Proofs.Ytoohconipcleiaa

/- Programs of several threads, plain: what they do, step by step. An op is written as three numbers (kind, object, number), as an event is. No program. -/
namespace Go.Proofs.Ytoohconipcleiaa

def boundK (k : Int) : Int := if k = 1 ∨ k = 2 then 8 else if k = 3 then 1 else if k = 4 ∨ k = 5 then 5 else if k = 6 ∨ k = 7 then 6 else if k = 8 ∨ k = 9 then 4 else -1
def mostK (k : Int) : Int := if k = 3 then 1000 else 0
def badOp (e : Ev) : Bool := decide (e.t < 0) || decide (e.t ≥ boundK e.k) || decide (e.o < -mostK e.k) || decide (e.o > mostK e.k)
/-- What Check says. -/
def chkP (p : List (List Ev)) : Int :=
  if p.length < 1 ∨ 6 < p.length then 2 else if (p.any fun z => decide (12 < z.length)) = true then 2 else if (p.any fun z => z.any badOp) = true then 1 else 0
structure OkP (p : List (List Ev)) : Prop where
  pos : 1 ≤ p.length
  six : p.length ≤ 6
  len : ∀ z ∈ p, z.length ≤ 12
  op : ∀ z ∈ p, ∀ e ∈ z, badOp e = false
theorem chkP_ok {p : List (List Ev)} (h : chkP p = 0) : OkP p := by
  unfold chkP at h
  split at h
  · cases h
  · split at h
    · cases h
    · split at h
      · cases h
      · rename_i h1 h2 h3
        refine ⟨by omega, by omega, fun z hz => ?_, fun z hz e he => ?_⟩
        · by_cases c : z.length ≤ 12
          · exact c
          · exact absurd (List.any_eq_true.2 ⟨z, hz, decide_eq_true (by omega)⟩) h2
        · cases hb : badOp e
          · rfl
          · exact absurd (List.any_eq_true.2 ⟨z, hz, List.any_eq_true.2 ⟨e, he, hb⟩⟩) h3
structure PS where
  mem : Nat → Int
  vols : Nat → Int
  has : Nat → Int
  at_ : Nat → Nat
  begun : Nat → Bool
  owner : Nat → Int
def PS.first : PS := ⟨fun _ => 0, fun _ => 0, fun _ => 0, fun _ => 0, fun i => i == 0, fun _ => 0⟩
def upZ (f : Nat → Int) (k : Nat) (x : Int) : Nat → Int := fun i => if i = k then x else f i
def upN (f : Nat → Nat) (k : Nat) (x : Nat) : Nat → Nat := fun i => if i = k then x else f i
def upT (f : Nat → Bool) (k : Nat) : Nat → Bool := fun i => if i = k then true else f i
def plen (p : List (List Ev)) (t : Nat) : Nat := (p.getD t []).length
def opA (p : List (List Ev)) (t i : Nat) : Ev := (p.getD t []).getD i ⟨0, 0, 0⟩
/-- Has a thread that has begun an op left? -/
def nextB (p : List (List Ev)) (s : PS) (t : Int) : Bool := decide (0 ≤ t) && decide (t < p.length) && s.begun t.toNat && !(s.at_ t.toNat == plen p t.toNat)
def opN (p : List (List Ev)) (s : PS) (t : Nat) : Ev := opA p t (s.at_ t)
/-- Can it go on? -/
def canB (p : List (List Ev)) (s : PS) (t : Int) : Bool :=
  nextB p s t && (if (opN p s t.toNat).k = 4 then s.owner (opN p s t.toNat).t.toNat == 0
    else if (opN p s t.toNat).k = 7 then decide ((opN p s t.toNat).t < p.length) && !((opN p s t.toNat).t == t) && s.begun (opN p s t.toNat).t.toNat && (s.at_ (opN p s t.toNat).t.toNat == plen p (opN p s t.toNat).t.toNat)
    else true)
/-- What an op does to the world; the event that it tells. -/
def doOp (p : List (List Ev)) (s : PS) (t : Nat) (o : Ev) : PS × Option Ev :=
  if o.k = 1 then ({ s with has := upZ s.has t (s.mem o.t.toNat) }, some ⟨1, t, o.t⟩)
  else if o.k = 2 then ({ s with mem := upZ s.mem o.t.toNat (s.has t) }, some ⟨2, t, o.t⟩)
  else if o.k = 3 then ({ s with has := upZ s.has t (s.has t + o.o) }, none)
  else if o.k = 4 then ({ s with owner := upZ s.owner o.t.toNat (t + 1) }, some ⟨3, t, o.t⟩)
  else if o.k = 5 then (if s.owner o.t.toNat = t + 1 then ({ s with owner := upZ s.owner o.t.toNat 0 }, some ⟨4, t, o.t⟩) else (s, none))
  else if o.k = 6 then (if o.t < p.length ∧ s.begun o.t.toNat = false then ({ s with begun := upT s.begun o.t.toNat }, some ⟨5, t, o.t⟩) else (s, none))
  else if o.k = 7 then (s, some ⟨6, t, o.t⟩)
  else if o.k = 8 then ({ s with has := upZ s.has t (s.vols o.t.toNat) }, some ⟨7, t, o.t⟩)
  else if o.k = 9 then ({ s with vols := upZ s.vols o.t.toNat (s.has t) }, some ⟨8, t, o.t⟩)
  else (s, none)
def tick (s : PS) (t : Nat) : PS := { s with at_ := upN s.at_ t (s.at_ t + 1) }
def stepP (p : List (List Ev)) (s : PS) (t : Nat) : PS × Option Ev := doOp p (tick s t) t (opN p s t)
/-- One pick. -/
def pickP (p : List (List Ev)) (r : PS × List Ev) (t : Int) : PS × List Ev :=
  if canB p r.1 t then ((stepP p r.1 t.toNat).1, r.2 ++ (stepP p r.1 t.toNat).2.toList) else r
def runP (p : List (List Ev)) (picks : List Int) : PS × List Ev := picks.foldl (pickP p) (PS.first, [])
theorem runP_snoc (p : List (List Ev)) (picks : List Int) (t : Int) : runP p (picks ++ [t]) = pickP p (runP p picks) t := by simp [runP]
def doneB (p : List (List Ev)) (s : PS) : Bool := (List.range p.length).all fun t => !(nextB p s t)
def stuckB (p : List (List Ev)) (s : PS) : Bool := ((List.range p.length).all fun t => !(canB p s t)) && !(doneB p s)

/-! Cells. -/
def psF (s : PS) (done stuck : Bool) (i : Nat) : Value :=
  if i < 8 then .int .i64 (s.mem i) else if i < 12 then .int .i64 (s.vols (i - 8)) else if i < 18 then .int .i64 (s.has (i - 12)) else if i = 18 then .bool done else if i = 19 then .bool stuck
  else if i < 26 then .int .i64 (s.at_ (i - 20) : Nat) else if i < 32 then .bool (s.begun (i - 26)) else .int .i64 (s.owner (i - 32))
def psC (s : PS) : Array Value := ((List.range 37).map (psF s false false)).toArray
/-- What there is behind a run. -/
def endC (s : PS) (done stuck : Bool) : Array Value := ((List.range 20).map (psF s done stuck)).toArray
theorem psC_get (s : PS) {i : Nat} (h : i < 37) : (psC s)[i]? = some (psF s false false i) := by simp [psC, h]
theorem psC_set (s s' : PS) {i : Nat} (h : i < 37) {v : Value} (hv : v = psF s' false false i) (hs : ∀ j, j < 37 → j ≠ i → psF s false false j = psF s' false false j) : (psC s).setIfInBounds i v = psC s' := by
  apply Array.ext_getElem?
  intro j
  rw [Array.getElem?_setIfInBounds]
  by_cases e : i = j
  · subst e
    rw [if_pos rfl, if_pos (by simp [psC]; omega), psC_get s' h, hv]
  · rw [if_neg e]
    by_cases hj : j < 37
    · rw [psC_get s hj, psC_get s' hj, hs j hj (fun h => e h.symm)]
    · rw [Array.getElem?_eq_none (by simp [psC]; omega), Array.getElem?_eq_none (by simp [psC]; omega)]
end Go.Proofs.Ytoohconipcleiaa

/- Events that are independent, swapped: a swapped trace is valid, ends in the same state, and each thread did the same. No program. -/
namespace Go.Proofs.Ytoohconipcleiaa

/-- The group of a kind; is it mild? -/
def grp (k : Int) : Int := if k = 1 ∨ k = 2 then 1 else if k = 3 ∨ k = 4 then 2 else if k = 5 ∨ k = 6 then 3 else if k = 7 ∨ k = 8 then 4 else 0
def mildB (k : Int) : Bool := k == 1 || k == 6 || k == 7
def touchB (a b : Ev) : Bool := (a.k == 5 || a.k == 6) && a.o == b.t
def apartB (a b : Ev) : Bool := !(a.t == b.t || touchB a b || touchB b a) && (grp a.k == 0 || grp a.k != grp b.k || a.o != b.o || (mildB a.k && mildB b.k))
theorem apartB_iff {a b : Ev} : apartB a b = true ↔ a.t ≠ b.t ∧ touchB a b = false ∧ touchB b a = false ∧ (grp a.k = 0 ∨ grp a.k ≠ grp b.k ∨ a.o ≠ b.o ∨ (mildB a.k = true ∧ mildB b.k = true)) := by
  unfold apartB
  cases h1 : touchB a b <;> cases h2 : touchB b a <;> simp [or_assoc]
theorem apartB_symm (a b : Ev) : apartB a b = apartB b a := by
  have key : ∀ a b : Ev, apartB a b = true → apartB b a = true := by
    intro a b h
    obtain ⟨h1, h2, h3, h4⟩ := apartB_iff.1 h
    refine apartB_iff.2 ⟨Ne.symm h1, h3, h2, ?_⟩
    rcases h4 with h | h | h | ⟨h, h'⟩
    · by_cases e : grp b.k = 0
      · exact .inl e
      · exact .inr (.inl (by rw [h]; exact e))
    · exact .inr (.inl (Ne.symm h))
    · exact .inr (.inr (.inl (Ne.symm h)))
    · exact .inr (.inr (.inr ⟨h', h⟩))
  cases h1 : apartB a b <;> cases h2 : apartB b a
  · rfl
  · rw [key b a h2] at h1; cases h1
  · rw [key a b h1] at h2; cases h2
  · rfl
theorem apartB_self (a : Ev) : apartB a a = false := by simp [apartB]

theorem nxt_begun_iff (s : St) (e : Ev) (j : Nat) : (nxt s e).begun j = (s.begun j || (decide (e.k = 5) && decide (j = e.o.toNat))) := by
  unfold nxt
  by_cases h3 : e.k = 3
  · simp [h3]
  by_cases h4 : e.k = 4
  · simp [h4]
  by_cases h5 : e.k = 5
  · simp [h5, updB]
    by_cases hj : j = e.o.toNat <;> simp [hj]
  by_cases h6 : e.k = 6
  · simp [h6]
  · simp [h3, h4, h5, h6]
theorem nxt_over_iff (s : St) (e : Ev) (j : Nat) : (nxt s e).over j = (s.over j || (decide (e.k = 6) && decide (j = e.o.toNat))) := by
  unfold nxt
  by_cases h3 : e.k = 3
  · simp [h3]
  by_cases h4 : e.k = 4
  · simp [h4]
  by_cases h5 : e.k = 5
  · simp [h5]
  by_cases h6 : e.k = 6
  · simp [h6, updB]
    by_cases hj : j = e.o.toNat <;> simp [hj]
  · simp [h3, h4, h5, h6]
theorem nxt_owner_iff (s : St) (e : Ev) (j : Nat) : (nxt s e).owner j = if (e.k = 3 ∨ e.k = 4) ∧ j = e.o.toNat then (if e.k = 3 then e.t + 1 else 0) else s.owner j := by
  unfold nxt
  by_cases h3 : e.k = 3
  · simp [h3, updI]
  by_cases h4 : e.k = 4
  · simp [h4, updI]
  by_cases h5 : e.k = 5
  · simp [h5]
  by_cases h6 : e.k = 6
  · simp [h6]
  · simp [h3, h4, h5, h6]
theorem err_ok {s : St} {e : Ev} (h1 : isEv e = true) (h2 : s.begun e.t.toNat = true) (h3 : s.over e.t.toNat = false)
    (h4 : e.k = 3 → s.owner e.o.toNat = 0) (h5 : e.k = 4 → s.owner e.o.toNat = e.t + 1) (h6 : e.k = 5 → s.begun e.o.toNat = false) (h7 : e.k = 6 → s.begun e.o.toNat = true ∧ e.o ≠ e.t) : err s e = 0 := by
  unfold err
  rw [if_neg (by simp [h1]), if_neg (by simp [h2, h3])]
  by_cases k3 : e.k = 3
  · rw [if_pos k3, if_pos (h4 k3)]
  rw [if_neg k3]
  by_cases k4 : e.k = 4
  · rw [if_pos k4, if_pos (h5 k4)]
  rw [if_neg k4]
  by_cases k5 : e.k = 5
  · rw [if_pos k5, if_neg (by simp [h6 k5])]
  rw [if_neg k5]
  by_cases k6 : e.k = 6
  · rw [if_pos k6, if_neg (by simp [(h7 k6).1, (h7 k6).2])]
  rw [if_neg k6]
theorem touch_no {a b : Ev} (h : touchB a b = false) (hk : a.k = 5 ∨ a.k = 6) : a.o ≠ b.t := by
  intro e
  have : touchB a b = true := by rcases hk with hk | hk <;> simp [touchB, hk, e]
  rw [h] at this; cases this
/-- Two events of one group that are no two mild ones are of different things. -/
theorem apart_obj {a b : Ev} (h : apartB a b = true) (hg : grp a.k = grp b.k) (h0 : grp a.k ≠ 0) (hm : mildB a.k = false ∨ mildB b.k = false) : a.o ≠ b.o := by
  obtain ⟨_, _, _, h4⟩ := apartB_iff.1 h
  rcases h4 with h | h | h | ⟨h, h'⟩
  · exact absurd h h0
  · exact absurd hg h
  · exact h
  · rcases hm with e | e
    · rw [e] at h; cases h
    · rw [e] at h'; cases h'
theorem ev_nn {e : Ev} (h : isEv e = true) : 0 ≤ e.t ∧ 0 ≤ e.o := by
  have := isEv_iff.1 h
  omega
/-- Independent events, exchanged. -/
theorem swap_two {s : St} {a b : Ev} (hA : apartB a b = true) (h1 : err s a = 0) (h2 : err (nxt s a) b = 0) : err s b = 0 ∧ err (nxt s b) a = 0 ∧ nxt (nxt s b) a = nxt (nxt s a) b := by
  obtain ⟨hne, t1, t2, _⟩ := apartB_iff.1 hA
  obtain ⟨a1, a2, a3, a4, a5, a6, a7⟩ := err0 h1
  obtain ⟨b1, b2, b3, b4, b5, b6, b7⟩ := err0 h2
  have na := ev_nn a1
  have nb := ev_nn b1
  have u1 := fun hk => touch_no t1 hk
  have u2 := fun hk => touch_no t2 hk
  have lk : (a.k = 3 ∨ a.k = 4) → (b.k = 3 ∨ b.k = 4) → a.o.toNat ≠ b.o.toNat := by
    intro ha hb
    have := apart_obj hA (by rcases ha with e | e <;> rcases hb with e' | e' <;> simp [grp, e, e']) (by rcases ha with e | e <;> simp [grp, e]) (.inl (by rcases ha with e | e <;> simp [mildB, e]))
    omega
  have fk : (a.k = 5 ∨ a.k = 6) → (b.k = 5 ∨ b.k = 6) → (a.k = 5 ∨ b.k = 5) → a.o.toNat ≠ b.o.toNat := by
    intro ha hb hc
    have := apart_obj hA (by rcases ha with e | e <;> rcases hb with e' | e' <;> simp [grp, e, e']) (by rcases ha with e | e <;> simp [grp, e]) (by rcases hc with e | e <;> simp [mildB, e])
    omega
  rw [nxt_begun_iff] at b2
  rw [nxt_over_iff] at b3
  rw [nxt_owner_iff] at b4 b5
  rw [nxt_begun_iff] at b6 b7
  simp only [Bool.or_eq_false_iff, Bool.and_eq_false_iff, decide_eq_false_iff_not] at b3 b6
  simp only [Bool.or_eq_true, Bool.and_eq_true, decide_eq_true_eq] at b2 b7
  refine ⟨err_ok b1 ?_ b3.1 ?_ ?_ (fun k5 => (b6 k5).1) ?_, err_ok a1 ?_ ?_ ?_ ?_ ?_ ?_, ?_⟩
  · rcases b2 with h | ⟨h, h'⟩
    · exact h
    · have := u1 (.inl h); omega
  · intro k3
    have := b4 k3
    rwa [if_neg (fun hh => lk hh.1 (.inl k3) hh.2.symm)] at this
  · intro k4
    have := b5 k4
    rwa [if_neg (fun hh => lk hh.1 (.inr k4) hh.2.symm)] at this
  · intro k6
    obtain ⟨h, h'⟩ := b7 k6
    refine ⟨?_, h'⟩
    rcases h with h | ⟨h, h2⟩
    · exact h
    · exact absurd h2.symm (fk (.inl h) (.inr k6) (.inl h))
  · rw [nxt_begun_iff, a2]; rfl
  · rw [nxt_over_iff, a3]
    simp only [Bool.false_or, Bool.and_eq_false_iff, decide_eq_false_iff_not]
    by_cases k6 : b.k = 6
    · right
      have := u2 (.inr k6)
      omega
    · exact .inl k6
  · intro k3
    rw [nxt_owner_iff, if_neg (fun hh => lk (.inl k3) hh.1 hh.2)]
    exact a4 k3
  · intro k4
    rw [nxt_owner_iff, if_neg (fun hh => lk (.inr k4) hh.1 hh.2)]
    exact a5 k4
  · intro k5
    rw [nxt_begun_iff, a6 k5]
    simp only [Bool.false_or, Bool.and_eq_false_iff, decide_eq_false_iff_not]
    by_cases e : b.k = 5
    · exact .inr (fk (.inl k5) (.inl e) (.inl k5))
    · exact .inl e
  · intro k6
    obtain ⟨h, h'⟩ := a7 k6
    rw [nxt_begun_iff, h]
    exact ⟨rfl, h'⟩
  · have e1 : (nxt (nxt s b) a).begun = (nxt (nxt s a) b).begun := by
      funext j
      simp only [nxt_begun_iff]
      cases s.begun j <;> cases decide (a.k = 5) <;> cases decide (b.k = 5) <;> cases decide (j = a.o.toNat) <;> cases decide (j = b.o.toNat) <;> rfl
    have e2 : (nxt (nxt s b) a).over = (nxt (nxt s a) b).over := by
      funext j
      simp only [nxt_over_iff]
      cases s.over j <;> cases decide (a.k = 6) <;> cases decide (b.k = 6) <;> cases decide (j = a.o.toNat) <;> cases decide (j = b.o.toNat) <;> rfl
    have e3 : (nxt (nxt s b) a).owner = (nxt (nxt s a) b).owner := by
      funext j
      simp only [nxt_owner_iff]
      by_cases ha : (a.k = 3 ∨ a.k = 4) ∧ j = a.o.toNat
      · have hb : ¬ ((b.k = 3 ∨ b.k = 4) ∧ j = b.o.toNat) := fun hh => lk ha.1 hh.1 (ha.2.symm.trans hh.2)
        rw [if_pos ha, if_neg hb, if_pos ha]
      · rw [if_neg ha, if_neg ha]
    generalize nxt (nxt s b) a = x at *
    generalize nxt (nxt s a) b = y at *
    cases x; cases y
    simp only at e1 e2 e3
    subst e1 e2 e3
    rfl
theorem playL_swap (u v : List Ev) (a b : Ev) (hA : apartB a b = true) (s : St) (i : Nat) (h : (playL s i (u ++ a :: b :: v)).2.2 = 0) :
    (playL s i (u ++ b :: a :: v)).2.2 = 0 ∧ (playL s i (u ++ b :: a :: v)).1 = (playL s i (u ++ a :: b :: v)).1 := by
  rw [playL_append] at h
  rw [playL_append, playL_append]
  split at h
  · rename_i h0
    rw [if_pos h0, if_pos h0]
    simp only [playL] at h ⊢
    split at h
    · rename_i h1
      split at h
      · rename_i h2
        obtain ⟨e1, e2, e3⟩ := swap_two hA h1 h2
        rw [if_pos h1, if_pos h2, if_pos e1, if_pos e2, e3]
        exact ⟨h, rfl⟩
      · rename_i h2; exact absurd h h2
    · rename_i h1; exact absurd h h1
  · rename_i h0; exact absurd h h0
/-- A trace, two neighbours swapped. -/
def sw (l : List Ev) (i : Nat) : List Ev := (l.set i (l.getD (i + 1) ⟨0, 0, 0⟩)).set (i + 1) (l.getD i ⟨0, 0, 0⟩)
theorem sw_len (l : List Ev) (i : Nat) : (sw l i).length = l.length := by simp [sw]
theorem sw_parts {l : List Ev} {i : Nat} (h : i + 1 < l.length) : l = l.take i ++ l[i] :: l[i + 1] :: l.drop (i + 2) ∧ sw l i = l.take i ++ l[i + 1] :: l[i] :: l.drop (i + 2) := by
  have h1 : l = l.take i ++ l[i] :: l[i + 1] :: l.drop (i + 2) := by
    rw [← List.drop_eq_getElem_cons h, ← List.drop_eq_getElem_cons (show i < l.length by omega), List.take_append_drop]
  refine ⟨h1, ?_⟩
  have hl : (l.take i).length = i := by simp; omega
  have g1 : l.getD (i + 1) ⟨0, 0, 0⟩ = l[i + 1] := by simp [List.getD, h]
  have g0 : l.getD i ⟨0, 0, 0⟩ = l[i] := by simp [List.getD, show i < l.length by omega]
  unfold sw
  rw [g1, g0]
  generalize l[i + 1] = b at *
  generalize l[i] = a at *
  generalize l.drop (i + 2) = v at *
  generalize hu : l.take i = u at *
  rw [h1, List.set_append_right _ _ (by omega), List.set_append_right _ _ (by omega), hl]
  simp
theorem sw_sw {l : List Ev} {i : Nat} (h : i + 1 < l.length) : sw (sw l i) i = l := by
  obtain ⟨h1, h2⟩ := sw_parts h
  obtain ⟨h3, h4⟩ := sw_parts (l := sw l i) (i := i) (by rw [sw_len]; exact h)
  have hl : (l.take i).length = i := by simp; omega
  have hb : ((sw l i)[i]'(by rw [sw_len]; omega)) = l[i + 1] := by
    simp only [h2]
    rw [List.getElem_append_right (by omega)]
    simp [hl]
  have ha : ((sw l i)[i + 1]'(by rw [sw_len]; omega)) = l[i] := by
    simp only [h2]
    rw [List.getElem_append_right (by omega)]
    simp [hl]
  have ht : (sw l i).take i = l.take i := by rw [h2, List.take_append_of_le_length (by omega), List.take_of_length_le (by omega)]
  have hd : (sw l i).drop (i + 2) = l.drop (i + 2) := by
    rw [h2, List.drop_append, hl, List.drop_eq_nil_of_le (by omega), show i + 2 - i = 2 by omega]
    rfl
  rw [h4, ha, hb, ht, hd]
  exact h1.symm
theorem played_sw {l : List Ev} {i : Nat} (h : i + 1 < l.length) (hA : apartB l[i] l[i + 1] = true) (hp : (played l).2.2 = 0) : (played (sw l i)).2.2 = 0 ∧ (played (sw l i)).1 = (played l).1 := by
  have hl := (played_evs hp).1
  obtain ⟨h1, h2⟩ := sw_parts h
  rw [played_small hl] at hp ⊢
  rw [played_small (by rw [sw_len]; exact hl), h2]
  rw [h1] at hp
  have := playL_swap _ _ _ _ hA _ _ hp
  rw [← h1] at this
  exact this
theorem sw_thread {l : List Ev} {i : Nat} (h : i + 1 < l.length) (hA : apartB l[i] l[i + 1] = true) (t : Int) : (sw l i).filter (fun e => decide (e.t = t)) = l.filter fun e => decide (e.t = t) := by
  obtain ⟨h1, h2⟩ := sw_parts h
  have hne := (apartB_iff.1 hA).1
  have e1 : l.filter (fun e => decide (e.t = t)) = (l.take i ++ l[i] :: l[i + 1] :: l.drop (i + 2)).filter fun e => decide (e.t = t) := by rw [← h1]
  rw [e1, h2, List.filter_append, List.filter_append, List.filter_cons, List.filter_cons, List.filter_cons, List.filter_cons]
  by_cases ea : l[i].t = t <;> by_cases eb : l[i + 1].t = t
  · exact absurd (ea.trans eb.symm) hne
  · simp [ea, eb]
  · simp [ea, eb]
  · simp [ea, eb]
theorem sw_ne {l : List Ev} {i : Nat} (h : i + 1 < l.length) (hA : apartB l[i] l[i + 1] = true) : sw l i ≠ l := by
  obtain ⟨h1, h2⟩ := sw_parts h
  intro e
  have hl : (l.take i).length = i := by simp; omega
  have hb : ((sw l i)[i]'(by rw [sw_len]; omega)) = l[i + 1] := by
    simp only [h2]
    rw [List.getElem_append_right (by omega)]
    simp [hl]
  have : l[i] = l[i + 1] := by rw [← hb]; simp only [e]
  rw [this, apartB_self] at hA
  cases hA
theorem sw_apart {l : List Ev} {i : Nat} (h : i + 1 < l.length) : apartB ((sw l i)[i]'(by rw [sw_len]; omega)) ((sw l i)[i + 1]'(by rw [sw_len]; omega)) = apartB l[i] l[i + 1] := by
  obtain ⟨h1, h2⟩ := sw_parts h
  have hl : (l.take i).length = i := by simp; omega
  have hb : ((sw l i)[i]'(by rw [sw_len]; omega)) = l[i + 1] := by
    simp only [h2]
    rw [List.getElem_append_right (by omega)]
    simp [hl]
  have ha : ((sw l i)[i + 1]'(by rw [sw_len]; omega)) = l[i] := by
    simp only [h2]
    rw [List.getElem_append_right (by omega)]
    simp [hl]
  rw [ha, hb, apartB_symm]
end Go.Proofs.Ytoohconipcleiaa

/- Runs of a program, plain: what picks do; what holds behind each pick; the events of a run are a valid trace. No program. -/
namespace Go.Proofs.Ytoohconipcleiaa

theorem nextB_iff {p : List (List Ev)} {s : PS} {t : Int} : nextB p s t = true ↔ 0 ≤ t ∧ t < p.length ∧ s.begun t.toNat = true ∧ s.at_ t.toNat ≠ plen p t.toNat := by
  simp [nextB, and_assoc]
theorem canB_next {p : List (List Ev)} {s : PS} {t : Int} (h : canB p s t = true) : nextB p s t = true := by
  unfold canB at h
  rw [Bool.and_eq_true] at h
  exact h.1
theorem canB_out {p : List (List Ev)} {s : PS} {t : Int} (h : t < 0 ∨ (p.length : Int) ≤ t) : canB p s t = false := by
  cases hc : canB p s t
  · rfl
  · obtain ⟨h1, h2, _⟩ := nextB_iff.1 (canB_next hc)
    omega
theorem canB_lock {p : List (List Ev)} {s : PS} {t : Int} (h : canB p s t = true) (hk : (opN p s t.toNat).k = 4) : s.owner (opN p s t.toNat).t.toNat = 0 := by
  unfold canB at h
  rw [if_pos hk] at h
  simp at h
  exact h.2
theorem canB_join {p : List (List Ev)} {s : PS} {t : Int} (h : canB p s t = true) (hk : (opN p s t.toNat).k = 7) :
    (opN p s t.toNat).t < p.length ∧ (opN p s t.toNat).t ≠ t ∧ s.begun (opN p s t.toNat).t.toNat = true ∧ s.at_ (opN p s t.toNat).t.toNat = plen p (opN p s t.toNat).t.toNat := by
  unfold canB at h
  rw [if_neg (by omega), if_pos hk] at h
  simp only [Bool.and_eq_true, decide_eq_true_eq, Bool.not_eq_true', beq_eq_false_iff_ne, beq_iff_eq] at h
  exact ⟨h.2.1.1.1, h.2.1.1.2, h.2.1.2, h.2.2⟩
theorem pickP_no {p : List (List Ev)} {r : PS × List Ev} {t : Int} (h : canB p r.1 t = false) : pickP p r t = r := by simp [pickP, h]
theorem pickP_yes {p : List (List Ev)} {r : PS × List Ev} {t : Int} (h : canB p r.1 t = true) : pickP p r t = ((stepP p r.1 t.toNat).1, r.2 ++ (stepP p r.1 t.toNat).2.toList) := by simp [pickP, h]
theorem runP_append (p : List (List Ev)) (a b : List Int) : runP p (a ++ b) = b.foldl (pickP p) (runP p a) := by simp [runP]
/-- A pick of nobody. -/
theorem runP_insert {p : List (List Ev)} {a b : List Int} {n : Int} (h : n < 0 ∨ (p.length : Int) ≤ n) : runP p (a ++ n :: b) = runP p (a ++ b) := by
  simp only [runP, List.foldl_append, List.foldl_cons]
  rw [pickP_no (canB_out h)]
theorem fold_ext (p : List (List Ev)) : ∀ (b : List Int) (r : PS × List Ev), ∃ m, (b.foldl (pickP p) r).2 = r.2 ++ m
  | [], r => ⟨[], by simp⟩
  | t :: b, r => by
    obtain ⟨m, hm⟩ := fold_ext p b (pickP p r t)
    rw [List.foldl_cons, hm]
    cases hc : canB p r.1 t
    · rw [pickP_no hc]; exact ⟨m, rfl⟩
    · rw [pickP_yes hc]; exact ⟨_, List.append_assoc _ _ _⟩
theorem fold_stop {p : List (List Ev)} {r : PS × List Ev} (h : ∀ t, canB p r.1 t = false) : ∀ (b : List Int), b.foldl (pickP p) r = r
  | [] => rfl
  | t :: b => by rw [List.foldl_cons, pickP_no (h t)]; exact fold_stop h b
theorem done_next {p : List (List Ev)} {s : PS} (h : doneB p s = true) (t : Int) : nextB p s t = false := by
  cases hc : nextB p s t
  · rfl
  · obtain ⟨h1, h2, _⟩ := nextB_iff.1 hc
    have := List.all_eq_true.1 h t.toNat (List.mem_range.2 (by omega))
    rw [show ((t.toNat : Nat) : Int) = t by omega, hc] at this
    cases this
theorem done_stop {p : List (List Ev)} {s : PS} (h : doneB p s = true) (t : Int) : canB p s t = false := by
  cases hc : canB p s t
  · rfl
  · have := canB_next hc
    rw [done_next h t] at this
    cases this
theorem stuck_stop {p : List (List Ev)} {s : PS} (h : stuckB p s = true) (t : Int) : canB p s t = false := by
  cases hc : canB p s t
  · rfl
  · obtain ⟨h1, h2, _⟩ := nextB_iff.1 (canB_next hc)
    unfold stuckB at h
    rw [Bool.and_eq_true] at h
    have := List.all_eq_true.1 h.1 t.toNat (List.mem_range.2 (by omega))
    rw [show ((t.toNat : Nat) : Int) = t by omega, hc] at this
    cases this
theorem stuck_done (p : List (List Ev)) (s : PS) : (doneB p s && stuckB p s) = false := by
  unfold stuckB
  cases doneB p s <;> simp
/-- What follows a done or stuck state is that state. -/
theorem runP_front {p : List (List Ev)} {a b : List Int} (h : doneB p (runP p a).1 = true ∨ stuckB p (runP p a).1 = true) : runP p (a ++ b) = runP p a := by
  rw [runP_append]
  exact fold_stop (fun t => h.elim (fun h => done_stop h t) (fun h => stuck_stop h t)) b

/-! What an op is. -/
theorem bad_iff {e : Ev} : badOp e = false ↔ 0 ≤ e.t ∧ e.t < boundK e.k ∧ -mostK e.k ≤ e.o ∧ e.o ≤ mostK e.k := by
  unfold badOp
  simp only [Bool.or_eq_false_iff, decide_eq_false_iff_not]
  constructor
  · rintro ⟨⟨⟨h1, h2⟩, h3⟩, h4⟩; exact ⟨by omega, by omega, by omega, by omega⟩
  · rintro ⟨h1, h2, h3, h4⟩; exact ⟨⟨⟨by omega, by omega⟩, by omega⟩, by omega⟩
theorem boundK_pos {k : Int} (h : 0 < boundK k) : 1 ≤ k ∧ k ≤ 9 := by
  unfold boundK at h
  repeat' split at h
  all_goals omega
theorem boundK_le (k : Int) : boundK k ≤ 8 := by
  unfold boundK
  repeat' split
  all_goals omega
theorem mostK_le (k : Int) : 0 ≤ mostK k ∧ mostK k ≤ 1000 := by
  unfold mostK
  split <;> omega
theorem opA_mem {p : List (List Ev)} {t i : Nat} (hi : i < plen p t) : t < p.length ∧ ∃ z ∈ p, opA p t i ∈ z := by
  unfold plen at hi
  by_cases ht : t < p.length
  · refine ⟨ht, p[t], List.getElem_mem ht, ?_⟩
    have hz : p.getD t [] = p[t] := by simp [ht]
    unfold opA
    rw [hz] at hi ⊢
    simp [hi]
  · rw [show p.getD t [] = [] by simp [List.getElem?_eq_none (Nat.le_of_not_lt ht)]] at hi
    simp at hi
theorem OkP.at {p : List (List Ev)} (h : OkP p) {t i : Nat} (hi : i < plen p t) : badOp (opA p t i) = false := by
  obtain ⟨_, z, hz, he⟩ := opA_mem hi
  exact h.op z hz _ he
theorem OkP.plen {p : List (List Ev)} (h : OkP p) (t : Nat) : plen p t ≤ 12 := by
  unfold Go.Proofs.Ytoohconipcleiaa.plen
  by_cases ht : t < p.length
  · rw [show p.getD t [] = p[t] by simp [ht]]
    exact h.len _ (List.getElem_mem ht)
  · rw [show p.getD t [] = [] by simp [List.getElem?_eq_none (Nat.le_of_not_lt ht)]]
    simp

/-! What holds behind each pick. -/
structure IP (p : List (List Ev)) (s : PS) : Prop where
  at_le : ∀ t, s.at_ t ≤ plen p t
  begun : ∀ t, s.begun t = true → t < p.length
  fresh : ∀ t, s.begun t = false → s.at_ t = 0 ∧ s.has t = 0
  own : ∀ o, 0 ≤ s.owner o ∧ s.owner o ≤ p.length
theorem IP.first {p : List (List Ev)} (h : 1 ≤ p.length) : IP p PS.first :=
  ⟨fun t => Nat.zero_le _, fun t ht => by simp [PS.first] at ht; omega, fun t _ => ⟨rfl, rfl⟩, fun o => ⟨Int.le_refl _, by show (0 : Int) ≤ _; omega⟩⟩
/-- What an op does, kind by kind. -/
theorem do1 {p : List (List Ev)} {s : PS} {t : Nat} {o : Ev} (h : o.k = 1) : doOp p s t o = ({ s with has := upZ s.has t (s.mem o.t.toNat) }, some ⟨1, t, o.t⟩) := by simp [doOp, h]
theorem do2 {p : List (List Ev)} {s : PS} {t : Nat} {o : Ev} (h : o.k = 2) : doOp p s t o = ({ s with mem := upZ s.mem o.t.toNat (s.has t) }, some ⟨2, t, o.t⟩) := by simp [doOp, h]
theorem do3 {p : List (List Ev)} {s : PS} {t : Nat} {o : Ev} (h : o.k = 3) : doOp p s t o = ({ s with has := upZ s.has t (s.has t + o.o) }, none) := by simp [doOp, h]
theorem do4 {p : List (List Ev)} {s : PS} {t : Nat} {o : Ev} (h : o.k = 4) : doOp p s t o = ({ s with owner := upZ s.owner o.t.toNat (t + 1) }, some ⟨3, t, o.t⟩) := by simp [doOp, h]
theorem do5y {p : List (List Ev)} {s : PS} {t : Nat} {o : Ev} (h : o.k = 5) (hc : s.owner o.t.toNat = t + 1) : doOp p s t o = ({ s with owner := upZ s.owner o.t.toNat 0 }, some ⟨4, t, o.t⟩) := by simp [doOp, h, hc]
theorem do5n {p : List (List Ev)} {s : PS} {t : Nat} {o : Ev} (h : o.k = 5) (hc : ¬ s.owner o.t.toNat = t + 1) : doOp p s t o = (s, none) := by simp [doOp, h, hc]
theorem do6y {p : List (List Ev)} {s : PS} {t : Nat} {o : Ev} (h : o.k = 6) (hc : o.t < p.length ∧ s.begun o.t.toNat = false) : doOp p s t o = ({ s with begun := upT s.begun o.t.toNat }, some ⟨5, t, o.t⟩) := by simp [doOp, h, hc]
theorem do6n {p : List (List Ev)} {s : PS} {t : Nat} {o : Ev} (h : o.k = 6) (hc : ¬ (o.t < p.length ∧ s.begun o.t.toNat = false)) : doOp p s t o = (s, none) := by
  unfold doOp
  rw [if_neg (by omega), if_neg (by omega), if_neg (by omega), if_neg (by omega), if_neg (by omega), if_pos h, if_neg hc]
theorem do7 {p : List (List Ev)} {s : PS} {t : Nat} {o : Ev} (h : o.k = 7) : doOp p s t o = (s, some ⟨6, t, o.t⟩) := by simp [doOp, h]
theorem do8 {p : List (List Ev)} {s : PS} {t : Nat} {o : Ev} (h : o.k = 8) : doOp p s t o = ({ s with has := upZ s.has t (s.vols o.t.toNat) }, some ⟨7, t, o.t⟩) := by simp [doOp, h]
theorem do9 {p : List (List Ev)} {s : PS} {t : Nat} {o : Ev} (h : o.k = 9) : doOp p s t o = ({ s with vols := upZ s.vols o.t.toNat (s.has t) }, some ⟨8, t, o.t⟩) := by simp [doOp, h]
/-- The ways of an op. -/
theorem op_ways {p : List (List Ev)} {s : PS} {t : Nat} {o : Ev} (hb : badOp o = false) {Q : PS × Option Ev → Prop}
    (h1 : o.k = 1 → o.t < 8 → Q ({ s with has := upZ s.has t (s.mem o.t.toNat) }, some ⟨1, t, o.t⟩))
    (h2 : o.k = 2 → o.t < 8 → Q ({ s with mem := upZ s.mem o.t.toNat (s.has t) }, some ⟨2, t, o.t⟩))
    (h3 : o.k = 3 → -1000 ≤ o.o → o.o ≤ 1000 → Q ({ s with has := upZ s.has t (s.has t + o.o) }, none))
    (h4 : o.k = 4 → o.t < 5 → Q ({ s with owner := upZ s.owner o.t.toNat (t + 1) }, some ⟨3, t, o.t⟩))
    (h5 : o.k = 5 → o.t < 5 → s.owner o.t.toNat = t + 1 → Q ({ s with owner := upZ s.owner o.t.toNat 0 }, some ⟨4, t, o.t⟩))
    (h5' : o.k = 5 → o.t < 5 → ¬ s.owner o.t.toNat = t + 1 → Q (s, none))
    (h6 : o.k = 6 → o.t < p.length → o.t < 6 → s.begun o.t.toNat = false → Q ({ s with begun := upT s.begun o.t.toNat }, some ⟨5, t, o.t⟩))
    (h6' : o.k = 6 → ¬ (o.t < p.length ∧ s.begun o.t.toNat = false) → Q (s, none))
    (h7 : o.k = 7 → o.t < 6 → Q (s, some ⟨6, t, o.t⟩))
    (h8 : o.k = 8 → o.t < 4 → Q ({ s with has := upZ s.has t (s.vols o.t.toNat) }, some ⟨7, t, o.t⟩))
    (h9 : o.k = 9 → o.t < 4 → Q ({ s with vols := upZ s.vols o.t.toNat (s.has t) }, some ⟨8, t, o.t⟩)) : Q (doOp p s t o) := by
  obtain ⟨b1, b2, b3, b4⟩ := bad_iff.1 hb
  have hk := boundK_pos (show 0 < boundK o.k by omega)
  rcases (by omega : o.k = 1 ∨ o.k = 2 ∨ o.k = 3 ∨ o.k = 4 ∨ o.k = 5 ∨ o.k = 6 ∨ o.k = 7 ∨ o.k = 8 ∨ o.k = 9) with k | k | k | k | k | k | k | k | k
  · rw [do1 k]; rw [k] at b2; exact h1 k b2
  · rw [do2 k]; rw [k] at b2; exact h2 k b2
  · rw [do3 k]; rw [k] at b3 b4; exact h3 k b3 b4
  · rw [do4 k]; rw [k] at b2; exact h4 k b2
  · rw [k] at b2
    by_cases c : s.owner o.t.toNat = t + 1
    · rw [do5y k c]; exact h5 k b2 c
    · rw [do5n k c]; exact h5' k b2 c
  · rw [k] at b2
    by_cases c : o.t < p.length ∧ s.begun o.t.toNat = false
    · rw [do6y k c]; exact h6 k c.1 b2 c.2
    · rw [do6n k c]; exact h6' k c
  · rw [do7 k]; rw [k] at b2; exact h7 k b2
  · rw [do8 k]; rw [k] at b2; exact h8 k b2
  · rw [do9 k]; rw [k] at b2; exact h9 k b2
theorem nextB_at {p : List (List Ev)} {s : PS} {t : Int} (hI : IP p s) (h : nextB p s t = true) : s.at_ t.toNat < plen p t.toNat := by
  have := hI.at_le t.toNat
  have := (nextB_iff.1 h).2.2.2
  omega
theorem nextB_op {p : List (List Ev)} {s : PS} {t : Int} (hp : OkP p) (hI : IP p s) (h : nextB p s t = true) : badOp (opN p s t.toNat) = false := hp.at (nextB_at hI h)
theorem IP.tick {p : List (List Ev)} {s : PS} {t : Int} (hI : IP p s) (h : nextB p s t = true) : IP p (tick s t.toNat) := by
  have h1 := nextB_at hI h
  have h2 := (nextB_iff.1 h).2.2.1
  refine ⟨fun u => ?_, hI.begun, fun u hu => ?_, hI.own⟩
  · show upN s.at_ t.toNat (s.at_ t.toNat + 1) u ≤ _
    unfold upN
    split
    · rename_i e; subst e; omega
    · exact hI.at_le u
  · have hne : u ≠ t.toNat := by rintro rfl; have : s.begun t.toNat = false := hu; rw [h2] at this; cases this
    obtain ⟨a, b⟩ := hI.fresh u hu
    refine ⟨?_, b⟩
    show upN s.at_ t.toNat (s.at_ t.toNat + 1) u = 0
    unfold upN
    rw [if_neg hne]; exact a
theorem IP.setHas {p : List (List Ev)} {s : PS} {t : Nat} (hI : IP p s) (hb : s.begun t = true) (x : Int) : IP p { s with has := upZ s.has t x } :=
  ⟨hI.at_le, hI.begun, fun u hu => by
    have hne : u ≠ t := by rintro rfl; have : s.begun u = false := hu; rw [hb] at this; cases this
    obtain ⟨a, b⟩ := hI.fresh u hu
    exact ⟨a, by show upZ s.has t x u = 0; unfold upZ; rw [if_neg hne]; exact b⟩, hI.own⟩
theorem IP.setOwner {p : List (List Ev)} {s : PS} {o : Nat} {x : Int} (hI : IP p s) (h : 0 ≤ x ∧ x ≤ p.length) : IP p { s with owner := upZ s.owner o x } :=
  ⟨hI.at_le, hI.begun, hI.fresh, fun u => by show 0 ≤ upZ s.owner o x u ∧ upZ s.owner o x u ≤ _; unfold upZ; split; exact h; exact hI.own u⟩
theorem IP.setBegun {p : List (List Ev)} {s : PS} {o : Nat} (hI : IP p s) (h : o < p.length) : IP p { s with begun := upT s.begun o } :=
  ⟨hI.at_le, fun u hu => by
    have hu : upT s.begun o u = true := hu
    unfold upT at hu
    split at hu
    · rename_i e; subst e; exact h
    · exact hI.begun u hu, fun u hu => by
    have hu : upT s.begun o u = false := hu
    unfold upT at hu
    split at hu
    · cases hu
    · exact hI.fresh u hu, hI.own⟩
theorem IP.step {p : List (List Ev)} {s : PS} {t : Int} (hp : OkP p) (hI : IP p s) (h : nextB p s t = true) : IP p (stepP p s t.toNat).1 := by
  have hT := hI.tick h
  obtain ⟨t0, t1, t2, _⟩ := nextB_iff.1 h
  have hb := nextB_op hp hI h
  have hn : 0 ≤ (opN p s t.toNat).t := (bad_iff.1 hb).1
  unfold stepP
  refine op_ways (Q := fun r => IP p r.1) hb ?_ ?_ ?_ ?_ ?_ ?_ ?_ ?_ ?_ ?_ ?_
  · intro _ _; exact hT.setHas t2 _
  · intro _ _; exact ⟨hT.at_le, hT.begun, hT.fresh, hT.own⟩
  · intro _ _ _; exact hT.setHas t2 _
  · intro _ _; exact hT.setOwner (by omega)
  · intro _ _ _; exact hT.setOwner (by omega)
  · intro _ _ _; exact hT
  · intro _ a _ _; exact hT.setBegun (by omega)
  · intro _ _; exact hT
  · intro _ _; exact hT
  · intro _ _; exact hT.setHas t2 _
  · intro _ _; exact ⟨hT.at_le, hT.begun, hT.fresh, hT.own⟩
theorem IP.pick {p : List (List Ev)} {r : PS × List Ev} {t : Int} (hp : OkP p) (hI : IP p r.1) : IP p (pickP p r t).1 := by
  cases hc : canB p r.1 t
  · rw [pickP_no hc]; exact hI
  · rw [pickP_yes hc]; exact hI.step hp (canB_next hc)
/-- A law of all states of a run. -/
theorem run_ind {p : List (List Ev)} (hp : OkP p) {Q : PS × List Ev → Prop} (h0 : Q (PS.first, []))
    (h1 : ∀ r t, IP p r.1 → Q r → canB p r.1 t = true → Q ((stepP p r.1 t.toNat).1, r.2 ++ (stepP p r.1 t.toNat).2.toList)) : ∀ picks, IP p (runP p picks).1 ∧ Q (runP p picks) := by
  have key : ∀ (b : List Int) (r : PS × List Ev), IP p r.1 → Q r → IP p (b.foldl (pickP p) r).1 ∧ Q (b.foldl (pickP p) r) := by
    intro b
    induction b with
    | nil => intro r a b; exact ⟨a, b⟩
    | cons t b ih =>
      intro r hI hQ
      rw [List.foldl_cons]
      refine ih _ (hI.pick hp) ?_
      cases hc : canB p r.1 t
      · rw [pickP_no hc]; exact hQ
      · rw [pickP_yes hc]; exact h1 r t hI hQ hc
  exact fun picks => key picks _ (IP.first hp.pos) h0
theorem runP_IP {p : List (List Ev)} (hp : OkP p) (picks : List Int) : IP p (runP p picks).1 := (run_ind hp (Q := fun _ => True) trivial (fun _ _ _ _ _ => trivial) picks).1

/-! Numbers stay small. -/
def VB (s : PS) (B : Int) : Prop := ∀ i, (-B ≤ s.mem i ∧ s.mem i ≤ B) ∧ (-B ≤ s.vols i ∧ s.vols i ≤ B) ∧ (-B ≤ s.has i ∧ s.has i ≤ B)
theorem VB.mono {s : PS} {B C : Int} (h : VB s B) (k : B ≤ C) : VB s C := fun i => by have := h i; omega
theorem VB.step {p : List (List Ev)} {s : PS} {t : Nat} {B : Int} (h : VB s B) (hb : badOp (opN p s t) = false) : VB (stepP p s t).1 (B + 1000) := by
  have hT : VB (tick s t) (B + 1000) := (show VB (tick s t) B from h).mono (by omega)
  have up : ∀ (f : Nat → Int) (k : Nat) (x : Int) (i : Nat), (-(B + 1000) ≤ f i ∧ f i ≤ B + 1000) → (-(B + 1000) ≤ x ∧ x ≤ B + 1000) → -(B + 1000) ≤ upZ f k x i ∧ upZ f k x i ≤ B + 1000 := by
    intro f k x i h1 h2
    unfold upZ
    split
    · exact h2
    · exact h1
  unfold stepP
  refine op_ways (Q := fun r => VB r.1 (B + 1000)) hb ?_ ?_ ?_ ?_ ?_ ?_ ?_ ?_ ?_ ?_ ?_
  · intro _ _ i; exact ⟨(hT i).1, (hT i).2.1, up _ _ _ _ (hT i).2.2 (hT _).1⟩
  · intro _ _ i; exact ⟨up _ _ _ _ (hT i).1 (hT _).2.2, (hT i).2.1, (hT i).2.2⟩
  · intro _ a b i; exact ⟨(hT i).1, (hT i).2.1, up _ _ _ _ (hT i).2.2 (by have := (h t).2.2; have : (tick s t).has t = s.has t := rfl; omega)⟩
  · intro _ _ i; exact hT i
  · intro _ _ _ i; exact hT i
  · intro _ _ _; exact hT
  · intro _ _ _ _ i; exact hT i
  · intro _ _; exact hT
  · intro _ _; exact hT
  · intro _ _ i; exact ⟨(hT i).1, (hT i).2.1, up _ _ _ _ (hT i).2.2 (hT _).2.1⟩
  · intro _ _ i; exact ⟨(hT i).1, up _ _ _ _ (hT i).2.1 (hT _).2.2, (hT i).2.2⟩
theorem VB.first : VB PS.first 0 := fun i => by simp [PS.first]
theorem fold_VB {p : List (List Ev)} (hp : OkP p) : ∀ (b : List Int) (r : PS × List Ev) (B : Int), IP p r.1 → VB r.1 B → VB (b.foldl (pickP p) r).1 (B + 1000 * b.length)
  | [], r, B, _, h => by simpa using h
  | t :: b, r, B, hI, h => by
    rw [List.foldl_cons]
    have h1 : VB (pickP p r t).1 (B + 1000) := by
      cases hc : canB p r.1 t
      · rw [pickP_no hc]; exact h.mono (by omega)
      · rw [pickP_yes hc]; exact h.step (nextB_op hp hI (canB_next hc))
    have := fold_VB hp b _ _ (hI.pick hp (t := t)) h1
    rw [List.length_cons]
    exact this.mono (by omega)
theorem runP_VB {p : List (List Ev)} (hp : OkP p) (picks : List Int) : VB (runP p picks).1 (1000 * picks.length) := by
  have := fold_VB hp picks (PS.first, []) 0 (IP.first hp.pos) VB.first
  rw [Int.zero_add] at this
  exact this

/-! The events of a run are a valid trace. -/
/-- The trace's world and the program's state. -/
structure Agree (p : List (List Ev)) (s : PS) (st : St) : Prop where
  begun : ∀ t, st.begun t = s.begun t
  owner : ∀ o, st.owner o = s.owner o
  over : ∀ t, st.over t = true → s.begun t = true ∧ s.at_ t = plen p t
theorem Agree.ticked {p : List (List Ev)} {s : PS} {st : St} {t : Int} (h : Agree p s st) (hn : nextB p s t = true) : Agree p (tick s t.toNat) st :=
  ⟨h.begun, h.owner, fun u hu => by
    obtain ⟨a, b⟩ := h.over u hu
    refine ⟨a, ?_⟩
    show upN s.at_ t.toNat (s.at_ t.toNat + 1) u = _
    unfold upN
    rw [if_neg (by rintro rfl; exact (nextB_iff.1 hn).2.2.2 b)]
    exact b⟩
def Tells (p : List (List Ev)) (st : St) (r : PS × Option Ev) : Prop := (r.2 = none → Agree p r.1 st) ∧ ∀ e, r.2 = some e → err st e = 0 ∧ Agree p r.1 (nxt st e)
theorem Agree.step {p : List (List Ev)} {s : PS} {st : St} {t : Int} (hp : OkP p) (hI : IP p s) (h : Agree p s st) (hc : canB p s t = true) : Tells p st (stepP p s t.toNat) := by
  have hn := canB_next hc
  have hT := h.ticked hn
  obtain ⟨t0, t1, t2, t3⟩ := nextB_iff.1 hn
  have hb := nextB_op hp hI hn
  obtain ⟨o0, oM, _, _⟩ := bad_iff.1 hb
  have h6 := hp.six
  have e1 : (t.toNat : Int) = t := by omega
  have vb : st.begun t.toNat = true := by rw [h.begun]; exact t2
  have vo : st.over t.toNat = false := by
    cases c : st.over t.toNat
    · rfl
    · exact absurd (h.over _ c).2 t3
  have L := canB_lock hc
  have J := canB_join hc
  have none_ : Agree p (tick s t.toNat) st → Tells p st (tick s t.toNat, none) := fun a => ⟨fun _ => a, fun e he => by cases he⟩
  unfold stepP
  refine op_ways (Q := Tells p st) hb ?_ ?_ ?_ ?_ ?_ ?_ ?_ ?_ ?_ ?_ ?_
  · intro k a
    refine ⟨fun e => (by cases e), fun e he => ?_⟩
    cases he
    refine ⟨err_ok (isEv_iff.2 ⟨by show (0 : Int) ≤ t.toNat; omega, by show (t.toNat : Int) < 6; omega, o0, a⟩) vb vo (fun e => (by cases e)) (fun e => (by cases e)) (fun e => (by cases e)) (fun e => (by cases e)), ?_⟩
    have : nxt st ⟨1, t.toNat, (opN p s t.toNat).t⟩ = st := by simp [nxt]
    rw [this]
    exact ⟨hT.begun, hT.owner, hT.over⟩
  · intro k a
    refine ⟨fun e => (by cases e), fun e he => ?_⟩
    cases he
    refine ⟨err_ok (isEv_iff.2 ⟨by show (0 : Int) ≤ t.toNat; omega, by show (t.toNat : Int) < 6; omega, o0, a⟩) vb vo (fun e => (by cases e)) (fun e => (by cases e)) (fun e => (by cases e)) (fun e => (by cases e)), ?_⟩
    have : nxt st ⟨2, t.toNat, (opN p s t.toNat).t⟩ = st := by simp [nxt]
    rw [this]
    exact ⟨hT.begun, hT.owner, hT.over⟩
  · intro k _ _
    exact ⟨fun _ => ⟨hT.begun, hT.owner, hT.over⟩, fun e he => (by cases he)⟩
  · intro k a
    refine ⟨fun e => (by cases e), fun e he => ?_⟩
    cases he
    refine ⟨err_ok (isEv_iff.2 ⟨by show (0 : Int) ≤ t.toNat; omega, by show (t.toNat : Int) < 6; omega, o0, a⟩) vb vo (fun _ => (by show st.owner _ = 0; rw [h.owner]; exact L k)) (fun e => (by cases e)) (fun e => (by cases e)) (fun e => (by cases e)), ?_⟩
    refine ⟨fun u => ?_, fun u => ?_, fun u hu => ?_⟩
    · rw [nxt_begun_iff]; simp; exact hT.begun u
    · rw [nxt_owner_iff]; show _ = upZ s.owner _ _ u; unfold upZ; simp only [true_or, true_and, if_true]; rw [h.owner]
    · rw [nxt_over_iff] at hu; simp at hu; exact hT.over u hu
  · intro k a c
    refine ⟨fun e => (by cases e), fun e he => ?_⟩
    cases he
    refine ⟨err_ok (isEv_iff.2 ⟨by show (0 : Int) ≤ t.toNat; omega, by show (t.toNat : Int) < 6; omega, o0, a⟩) vb vo (fun e => (by cases e)) (fun _ => (by show st.owner _ = _; rw [h.owner]; exact c)) (fun e => (by cases e)) (fun e => (by cases e)), ?_⟩
    refine ⟨fun u => ?_, fun u => ?_, fun u hu => ?_⟩
    · rw [nxt_begun_iff]; simp; exact hT.begun u
    · rw [nxt_owner_iff]; show _ = upZ s.owner _ _ u; unfold upZ; simp only [or_true, true_and]; rw [h.owner]; simp
    · rw [nxt_over_iff] at hu; simp at hu; exact hT.over u hu
  · intro _ _ _; exact none_ hT
  · intro k a a6 c
    refine ⟨fun e => (by cases e), fun e he => ?_⟩
    cases he
    refine ⟨err_ok (isEv_iff.2 ⟨by show (0 : Int) ≤ t.toNat; omega, by show (t.toNat : Int) < 6; omega, o0, a6⟩) vb vo (fun e => (by cases e)) (fun e => (by cases e)) (fun _ => (by show st.begun _ = false; rw [h.begun]; exact c)) (fun e => (by cases e)), ?_⟩
    refine ⟨fun u => ?_, fun u => ?_, fun u hu => ?_⟩
    · rw [nxt_begun_iff]; show _ = upT s.begun _ u; unfold upT; rw [h.begun]; by_cases e : u = (opN p s t.toNat).t.toNat <;> simp [e]
    · rw [nxt_owner_iff]; simp; exact hT.owner u
    · rw [nxt_over_iff] at hu; simp at hu
      obtain ⟨x, y⟩ := hT.over u hu
      exact ⟨by show upT s.begun _ u = true; unfold upT; split; rfl; exact x, y⟩
  · intro _ _; exact none_ hT
  · intro k a
    obtain ⟨j1, j2, j3, j4⟩ := J k
    refine ⟨fun e => (by cases e), fun e he => ?_⟩
    cases he
    refine ⟨err_ok (isEv_iff.2 ⟨by show (0 : Int) ≤ t.toNat; omega, by show (t.toNat : Int) < 6; omega, o0, a⟩) vb vo (fun e => (by cases e)) (fun e => (by cases e)) (fun e => (by cases e)) (fun _ => ⟨by show st.begun _ = true; rw [h.begun]; exact j3, by show (opN p s t.toNat).t ≠ (t.toNat : Int); rw [e1]; exact j2⟩), ?_⟩
    refine ⟨fun u => ?_, fun u => ?_, fun u hu => ?_⟩
    · rw [nxt_begun_iff]; simp; exact hT.begun u
    · rw [nxt_owner_iff]; simp; exact hT.owner u
    · rw [nxt_over_iff] at hu; simp at hu
      rcases hu with hu | hu
      · exact hT.over u hu
      · subst hu
        refine ⟨j3, ?_⟩
        show upN s.at_ t.toNat (s.at_ t.toNat + 1) _ = _
        unfold upN
        rw [if_neg (by omega)]
        exact j4
  · intro k a
    refine ⟨fun e => (by cases e), fun e he => ?_⟩
    cases he
    refine ⟨err_ok (isEv_iff.2 ⟨by show (0 : Int) ≤ t.toNat; omega, by show (t.toNat : Int) < 6; omega, o0, a⟩) vb vo (fun e => (by cases e)) (fun e => (by cases e)) (fun e => (by cases e)) (fun e => (by cases e)), ?_⟩
    have : nxt st ⟨7, t.toNat, (opN p s t.toNat).t⟩ = st := by simp [nxt]
    rw [this]
    exact ⟨hT.begun, hT.owner, hT.over⟩
  · intro k a
    refine ⟨fun e => (by cases e), fun e he => ?_⟩
    cases he
    refine ⟨err_ok (isEv_iff.2 ⟨by show (0 : Int) ≤ t.toNat; omega, by show (t.toNat : Int) < 6; omega, o0, a⟩) vb vo (fun e => (by cases e)) (fun e => (by cases e)) (fun e => (by cases e)) (fun e => (by cases e)), ?_⟩
    have : nxt st ⟨8, t.toNat, (opN p s t.toNat).t⟩ = st := by simp [nxt]
    rw [this]
    exact ⟨hT.begun, hT.owner, hT.over⟩
theorem Agree.first (p : List (List Ev)) : Agree p PS.first St.first := ⟨fun _ => rfl, fun _ => rfl, fun t h => by cases h⟩
theorem doOp_at (p : List (List Ev)) (s : PS) (t : Nat) (o : Ev) : (doOp p s t o).1.at_ = s.at_ := by
  unfold doOp
  repeat' split
  all_goals rfl
def sumA (s : PS) : Nat := s.at_ 0 + s.at_ 1 + s.at_ 2 + s.at_ 3 + s.at_ 4 + s.at_ 5
theorem sumA_step (p : List (List Ev)) (s : PS) {t : Nat} (ht : t < 6) : sumA (stepP p s t).1 = sumA s + 1 := by
  unfold stepP sumA
  rw [doOp_at]
  revert t
  apply idx6 <;> simp [tick, upN] <;> omega
theorem sumA_le {p : List (List Ev)} {s : PS} (hp : OkP p) (hI : IP p s) : sumA s ≤ 72 := by
  have h : ∀ t, s.at_ t ≤ 12 := fun t => Nat.le_trans (hI.at_le t) (hp.plen t)
  unfold sumA
  have := h 0; have := h 1; have := h 2; have := h 3; have := h 4; have := h 5
  omega
theorem playL_snoc {l : List Ev} {e : Ev} (h : (playL St.first 0 l).2.2 = 0) (he : err (playL St.first 0 l).1 e = 0) : playL St.first 0 (l ++ [e]) = (nxt (playL St.first 0 l).1 e, 0, 0) := by
  rw [playL_append, if_pos h]
  simp [playL, he]
structure Valid (p : List (List Ev)) (r : PS × List Ev) : Prop where
  ok : (playL St.first 0 r.2).2.2 = 0
  agree : Agree p r.1 (playL St.first 0 r.2).1
  len : r.2.length ≤ sumA r.1
theorem runP_valid {p : List (List Ev)} (hp : OkP p) (picks : List Int) : Valid p (runP p picks) := by
  refine (run_ind hp (Q := Valid p) ⟨rfl, Agree.first p, Nat.zero_le _⟩ ?_ picks).2
  intro r t hI hV hc
  obtain ⟨h1, h2⟩ := hV.agree.step hp hI hc
  obtain ⟨t0, t1, _⟩ := nextB_iff.1 (canB_next hc)
  have h6 := hp.six
  have hs := sumA_step p r.1 (t := t.toNat) (by omega)
  cases he : (stepP p r.1 t.toNat).2 with
  | none =>
    simp only [Option.toList_none, List.append_nil]
    exact ⟨hV.ok, h1 he, by have := hV.len; show r.2.length ≤ sumA (stepP p r.1 t.toNat).1; omega⟩
  | some e =>
    obtain ⟨g1, g2⟩ := h2 e he
    have hq := playL_snoc hV.ok g1
    simp only [Option.toList_some]
    exact ⟨by show (playL St.first 0 (r.2 ++ [e])).2.2 = 0; rw [hq], by show Agree p _ (playL St.first 0 (r.2 ++ [e])).1; rw [hq]; exact g2, by have := hV.len; show (r.2 ++ [e]).length ≤ sumA (stepP p r.1 t.toNat).1; simp; omega⟩
theorem runP_may {p : List (List Ev)} (hp : OkP p) (picks : List Int) : mayB (runP p picks).2 = true := by
  have hV := runP_valid hp picks
  have := sumA_le hp (runP_IP hp picks)
  have := hV.len
  exact mayB_iff.2 ⟨by omega, hV.ok⟩
theorem fold_len (p : List (List Ev)) : ∀ (b : List Int) (r : PS × List Ev), (b.foldl (pickP p) r).2.length ≤ r.2.length + b.length
  | [], r => by simp
  | t :: b, r => by
    have := fold_len p b (pickP p r t)
    have h2 : (pickP p r t).2.length ≤ r.2.length + 1 := by
      cases hc : canB p r.1 t
      · rw [pickP_no hc]; omega
      · rw [pickP_yes hc]
        cases (stepP p r.1 t.toNat).2 <;> simp
    rw [List.foldl_cons, List.length_cons]
    omega
theorem runP_len (p : List (List Ev)) (picks : List Int) : (runP p picks).2.length ≤ picks.length := by simpa [runP] using fold_len p picks (PS.first, [])
end Go.Proofs.Ytoohconipcleiaa

/- A run, told again by its events: each event is the next op of its thread that tells such a one; what there is in the end hangs on the events alone. No program. -/
namespace Go.Proofs.Ytoohconipcleiaa

/-- The kind of event that an op tells. -/
def evK (k : Int) : Int := if k = 1 then 1 else if k = 2 then 2 else if k = 4 then 3 else if k = 5 then 4 else if k = 6 then 5 else if k = 7 then 6 else if k = 8 then 7 else if k = 9 then 8 else 0
def matchB (o x : Ev) : Bool := evK o.k == x.k && o.t == x.o
/-- The first op from i on that tells x. -/
def findF (z : List Ev) (x : Ev) (i : Nat) : Nat := i + (z.drop i).findIdx (matchB · x)
def addsF (z : List Ev) (i j : Nat) : Int := (((z.drop i).take (j - i)).map fun o => if o.k = 3 then o.o else 0).sum
theorem findF_le {z : List Ev} {x : Ev} {i : Nat} (h : i ≤ z.length) : findF z x i ≤ z.length := by
  have := List.findIdx_le_length (xs := z.drop i) (p := (matchB · x))
  unfold findF
  simp at this
  omega
theorem findF_at {z : List Ev} {x : Ev} {i j : Nat} (hij : i ≤ j) (hj : j < z.length) (hm : matchB z[j] x = true) (hn : ∀ k (hk : k < z.length), i ≤ k → k < j → matchB z[k] x = false) : findF z x i = j := by
  unfold findF
  have h : (z.drop i).findIdx (matchB · x) = j - i := by
    rw [List.findIdx_eq (by simp; omega)]
    refine ⟨by simp only [List.getElem_drop]; rw [show z[i + (j - i)]'(by omega) = z[j] by congr 1; omega]; exact hm, fun k hk => ?_⟩
    simp only [List.getElem_drop]
    exact hn (i + k) (by omega) (by omega) (by omega)
  omega
theorem addsF_self (z : List Ev) (i : Nat) : addsF z i i = 0 := by simp [addsF]
theorem addsF_succ {z : List Ev} {i j : Nat} (hij : i ≤ j) (hj : j < z.length) : addsF z i (j + 1) = addsF z i j + if z[j].k = 3 then z[j].o else 0 := by
  unfold addsF
  rw [show j + 1 - i = (j - i) + 1 by omega, List.take_add_one, List.getElem?_drop, show i + (j - i) = j by omega, List.getElem?_eq_getElem hj]
  simp
/-- What is told again. -/
structure RS where
  mem : Nat → Int
  vols : Nat → Int
  has : Nat → Int
  at_ : Nat → Nat
def RS.first : RS := ⟨fun _ => 0, fun _ => 0, fun _ => 0, fun _ => 0⟩
def opsP (p : List (List Ev)) (t : Nat) : List Ev := p.getD t []
theorem opsP_len (p : List (List Ev)) (t : Nat) : (opsP p t).length = plen p t := rfl
theorem opsP_at {p : List (List Ev)} {t i : Nat} (h : i < plen p t) : (opsP p t)[i]'h = opA p t i := by
  unfold opA
  show (p.getD t [])[i]'h = (p.getD t []).getD i ⟨0, 0, 0⟩
  rw [List.getD_eq_getElem?_getD (l := p.getD t []), List.getElem?_eq_getElem h]
  rfl
def rHas (p : List (List Ev)) (r : RS) (x : Ev) : Int := r.has x.t.toNat + addsF (opsP p x.t.toNat) (r.at_ x.t.toNat) (findF (opsP p x.t.toNat) x (r.at_ x.t.toNat))
def rstep (p : List (List Ev)) (r : RS) (x : Ev) : RS where
  mem := if x.k = 2 then upZ r.mem x.o.toNat (rHas p r x) else r.mem
  vols := if x.k = 8 then upZ r.vols x.o.toNat (rHas p r x) else r.vols
  has := upZ r.has x.t.toNat (if x.k = 1 then r.mem x.o.toNat else if x.k = 7 then r.vols x.o.toNat else rHas p r x)
  at_ := upN r.at_ x.t.toNat (findF (opsP p x.t.toNat) x (r.at_ x.t.toNat) + 1)
def replay (p : List (List Ev)) (l : List Ev) : RS := l.foldl (rstep p) RS.first

/-- An op that told nothing. -/
def Gap (p : List (List Ev)) (s : PS) (t : Nat) (o : Ev) : Prop := o.k = 3 ∨ (o.k = 5 ∧ s.owner o.t.toNat ≠ t + 1) ∨ (o.k = 6 ∧ ¬ (o.t < p.length ∧ s.begun o.t.toNat = false))
structure InvR (p : List (List Ev)) (s : PS) (r : RS) : Prop where
  mem : ∀ i, s.mem i = r.mem i
  vols : ∀ i, s.vols i = r.vols i
  le : ∀ t, r.at_ t ≤ s.at_ t
  gap : ∀ t i, r.at_ t ≤ i → i < s.at_ t → Gap p s t (opA p t i)
  has : ∀ t, s.has t = r.has t + addsF (opsP p t) (r.at_ t) (s.at_ t)
theorem upZ_same (f : Nat → Int) (k : Nat) (x : Int) : upZ f k x k = x := by simp [upZ]
theorem upZ_ne {f : Nat → Int} {k i : Nat} {x : Int} (h : i ≠ k) : upZ f k x i = f i := by simp [upZ, h]
theorem upN_same (f : Nat → Nat) (k : Nat) (x : Nat) : upN f k x k = x := by simp [upN]
theorem upN_ne {f : Nat → Nat} {k i : Nat} {x : Nat} (h : i ≠ k) : upN f k x i = f i := by simp [upN, h]
/-- An op that tells nothing. -/
theorem InvR.quiet {p : List (List Ev)} {s s' : PS} {r : RS} {t : Nat} (h : InvR p s r) (hlt : s.at_ t < plen p t) (hb : s'.begun = s.begun) (ho : s'.owner = s.owner) (hm : s'.mem = s.mem) (hv : s'.vols = s.vols)
    (ha : s'.at_ = upN s.at_ t (s.at_ t + 1)) (hg : Gap p s t (opN p s t)) (hh : ∀ u, s'.has u = if u = t then s.has t + (if (opN p s t).k = 3 then (opN p s t).o else 0) else s.has u) : InvR p s' r := by
  refine ⟨fun i => by rw [hm]; exact h.mem i, fun i => by rw [hv]; exact h.vols i, fun u => ?_, fun u i h1 h2 => ?_, fun u => ?_⟩
  · rw [ha]
    by_cases e : u = t
    · subst e; rw [upN_same]; exact Nat.le_succ_of_le (h.le u)
    · rw [upN_ne e]; exact h.le u
  · have hG : ∀ o, Gap p s u o → Gap p s' u o := fun o g => by unfold Gap at *; rw [hb, ho]; exact g
    rw [ha] at h2
    by_cases e : u = t
    · subst e
      rw [upN_same] at h2
      by_cases e2 : i = s.at_ u
      · subst e2; exact hG _ hg
      · exact hG _ (h.gap u i h1 (by omega))
    · rw [upN_ne e] at h2
      exact hG _ (h.gap u i h1 h2)
  · rw [hh u, ha]
    by_cases e : u = t
    · subst e
      rw [if_pos rfl, upN_same, addsF_succ (z := opsP p u) (h.le u) hlt, h.has u, opsP_at hlt]
      unfold opN
      omega
    · rw [if_neg e, upN_ne e]; exact h.has u
/-- An op that tells. -/
theorem InvR.tell {p : List (List Ev)} {s s' : PS} {r : RS} {t : Nat} {x : Ev} (h : InvR p s r) (hlt : s.at_ t < plen p t) (ht : x.t = t) (hx : matchB (opN p s t) x = true)
    (hno : ∀ o, Gap p s t o → matchB o x = false) (hk3 : (opN p s t).k ≠ 3)
    (ha : s'.at_ = upN s.at_ t (s.at_ t + 1)) (hG : ∀ u o, u ≠ t → Gap p s u o → Gap p s' u o)
    (hm : s'.mem = if x.k = 2 then upZ s.mem x.o.toNat (s.has t) else s.mem) (hv : s'.vols = if x.k = 8 then upZ s.vols x.o.toNat (s.has t) else s.vols)
    (hh : s'.has = upZ s.has t (if x.k = 1 then s.mem x.o.toNat else if x.k = 7 then s.vols x.o.toNat else s.has t)) : InvR p s' (rstep p r x) := by
  have e1 : x.t.toNat = t := by omega
  have hf : findF (opsP p t) x (r.at_ t) = s.at_ t := findF_at (h.le t) hlt (by rw [opsP_at hlt]; exact hx) (fun k hk h1 h2 => by
    rw [opsP_at (p := p) (t := t) (i := k) hk]
    exact hno _ (h.gap t k h1 h2))
  have hH : rHas p r x = s.has t := by
    unfold rHas
    rw [e1, hf]
    exact (h.has t).symm
  refine ⟨fun i => ?_, fun i => ?_, fun u => ?_, fun u i h1 h2 => ?_, fun u => ?_⟩
  · rw [hm]
    show _ = (if x.k = 2 then upZ r.mem x.o.toNat (rHas p r x) else r.mem) i
    rw [hH]
    split
    · unfold upZ; split; rfl; exact h.mem i
    · exact h.mem i
  · rw [hv]
    show _ = (if x.k = 8 then upZ r.vols x.o.toNat (rHas p r x) else r.vols) i
    rw [hH]
    split
    · unfold upZ; split; rfl; exact h.vols i
    · exact h.vols i
  · rw [ha]
    show upN r.at_ x.t.toNat _ u ≤ _
    rw [e1, hf]
    by_cases e : u = t
    · subst e; rw [upN_same, upN_same]; exact Nat.le_refl _
    · rw [upN_ne e, upN_ne e]; exact h.le u
  · have h1 : upN r.at_ x.t.toNat (findF (opsP p x.t.toNat) x (r.at_ x.t.toNat) + 1) u ≤ i := h1
    rw [e1, hf] at h1
    rw [ha] at h2
    by_cases e : u = t
    · subst e; rw [upN_same] at h1 h2; omega
    · rw [upN_ne e] at h1 h2
      exact hG u _ e (h.gap u i h1 h2)
  · rw [hh, ha]
    show _ = upZ r.has x.t.toNat (if x.k = 1 then r.mem x.o.toNat else if x.k = 7 then r.vols x.o.toNat else rHas p r x) u + addsF _ (upN r.at_ x.t.toNat (findF (opsP p x.t.toNat) x (r.at_ x.t.toNat) + 1) u) _
    rw [e1, hf, hH]
    by_cases e : u = t
    · subst e
      rw [upZ_same, upZ_same, upN_same, upN_same, addsF_self, h.mem, h.vols]
      omega
    · rw [upZ_ne e, upZ_ne e, upN_ne e, upN_ne e]; exact h.has u
def TellsR (p : List (List Ev)) (r : RS) (q : PS × Option Ev) : Prop := (q.2 = none → InvR p q.1 r) ∧ ∀ e, q.2 = some e → InvR p q.1 (rstep p r e)
theorem InvR.step {p : List (List Ev)} {s : PS} {r : RS} {t : Int} (hp : OkP p) (hI : IP p s) (h : InvR p s r) (hc : canB p s t = true) : TellsR p r (stepP p s t.toNat) := by
  have hn := canB_next hc
  have hlt := nextB_at hI hn
  have hb := nextB_op hp hI hn
  obtain ⟨o0, oM, _, _⟩ := bad_iff.1 hb
  have hK : ∀ o : Ev, Gap p s t.toNat o → (o.k = 3 ∨ o.k = 5 ∨ o.k = 6) := fun o g => by
    rcases g with g | g | g
    · exact .inl g
    · exact .inr (.inl g.1)
    · exact .inr (.inr g.1)
  have hno : ∀ k : Int, k ≠ 0 → k ≠ 4 → k ≠ 5 → ∀ o : Ev, Gap p s t.toNat o → matchB o ⟨k, t.toNat, (opN p s t.toNat).t⟩ = false := by
    intro k h0 h4 h5 o g
    have : evK o.k ≠ k := by rcases hK o g with e | e | e <;> rw [e] <;> first | exact Ne.symm h0 | exact Ne.symm h4 | exact Ne.symm h5
    simp [matchB, this]
  have hmt : ∀ k : Int, evK (opN p s t.toNat).k = k → matchB (opN p s t.toNat) ⟨k, t.toNat, (opN p s t.toNat).t⟩ = true := by
    intro k h; simp [matchB, h]
  have same : ∀ (s' : PS), s'.begun = s.begun → s'.owner = s.owner → ∀ u o, u ≠ t.toNat → Gap p s u o → Gap p s' u o := fun s' hb ho u o _ g => by unfold Gap at *; rw [hb, ho]; exact g
  unfold stepP
  refine op_ways (Q := TellsR p r) hb ?_ ?_ ?_ ?_ ?_ ?_ ?_ ?_ ?_ ?_ ?_
  · intro k a
    refine ⟨fun e => (by cases e), fun e he => ?_⟩
    cases he
    exact h.tell hlt rfl (hmt 1 (by rw [k]; rfl)) (hno 1 (by decide) (by decide) (by decide)) (by omega) rfl (same _ rfl rfl) rfl rfl rfl
  · intro k a
    refine ⟨fun e => (by cases e), fun e he => ?_⟩
    cases he
    refine h.tell hlt rfl (hmt 2 (by rw [k]; rfl)) (hno 2 (by decide) (by decide) (by decide)) (by omega) rfl (same _ rfl rfl) rfl rfl ?_
    funext u; show s.has u = upZ s.has _ (s.has _) u; unfold upZ; split
    · rename_i e; rw [e]
    · rfl
  · intro k _ _
    refine ⟨fun _ => ?_, fun e he => (by cases he)⟩
    exact h.quiet hlt rfl rfl rfl rfl rfl (.inl k) (fun u => by
      show upZ s.has t.toNat (s.has t.toNat + _) u = _
      rw [if_pos k]; unfold upZ; rfl)
  · intro k a
    refine ⟨fun e => (by cases e), fun e he => ?_⟩
    cases he
    refine h.tell hlt rfl (hmt 3 (by rw [k]; rfl)) (hno 3 (by decide) (by decide) (by decide)) (by omega) rfl ?_ rfl rfl ?_
    · intro u o hu g
      rcases g with g | g | g
      · exact .inl g
      · refine .inr (.inl ⟨g.1, ?_⟩)
        show upZ s.owner _ _ _ ≠ _
        unfold upZ
        split
        · omega
        · exact g.2
      · exact .inr (.inr g)
    · funext u; show s.has u = upZ s.has _ (s.has _) u; unfold upZ; split
      · rename_i e; rw [e]
      · rfl
  · intro k a c
    refine ⟨fun e => (by cases e), fun e he => ?_⟩
    cases he
    refine h.tell hlt rfl (hmt 4 (by rw [k]; rfl)) ?_ (by omega) rfl ?_ rfl rfl ?_
    · intro o g
      rcases g with g | g | g
      · simp [matchB, evK, g]
      · have : o.t ≠ (opN p s t.toNat).t := fun e => g.2 (by rw [e]; exact c)
        simp [matchB, this]
      · simp [matchB, evK, g.1]
    · intro u o hu g
      rcases g with g | g | g
      · exact .inl g
      · refine .inr (.inl ⟨g.1, ?_⟩)
        show upZ s.owner _ _ _ ≠ _
        unfold upZ
        split
        · omega
        · exact g.2
      · exact .inr (.inr g)
    · funext u; show s.has u = upZ s.has _ (s.has _) u; unfold upZ; split
      · rename_i e; rw [e]
      · rfl
  · intro k a c
    refine ⟨fun _ => ?_, fun e he => (by cases he)⟩
    exact h.quiet hlt rfl rfl rfl rfl rfl (.inr (.inl ⟨k, c⟩)) (fun u => by
      rw [show (if (opN p s t.toNat).k = 3 then (opN p s t.toNat).o else 0) = 0 from if_neg (by omega)]
      show s.has u = _
      split
      · rename_i e; rw [e]; omega
      · rfl)
  · intro k a a6 c
    refine ⟨fun e => (by cases e), fun e he => ?_⟩
    cases he
    refine h.tell hlt rfl (hmt 5 (by rw [k]; rfl)) ?_ (by omega) rfl ?_ rfl rfl ?_
    · intro o g
      rcases g with g | g | g
      · simp [matchB, evK, g]
      · simp [matchB, evK, g.1]
      · have : o.t ≠ (opN p s t.toNat).t := fun e => g.2 (by rw [e]; exact ⟨a, c⟩)
        simp [matchB, this]
    · intro u o hu g
      rcases g with g | g | g
      · exact .inl g
      · exact .inr (.inl g)
      · refine .inr (.inr ⟨g.1, fun hh => g.2 ⟨hh.1, ?_⟩⟩)
        have hh2 : upT s.begun (opN p s t.toNat).t.toNat o.t.toNat = false := hh.2
        unfold upT at hh2
        split at hh2
        · cases hh2
        · exact hh2
    · funext u; show s.has u = upZ s.has _ (s.has _) u; unfold upZ; split
      · rename_i e; rw [e]
      · rfl
  · intro k c
    refine ⟨fun _ => ?_, fun e he => (by cases he)⟩
    exact h.quiet hlt rfl rfl rfl rfl rfl (.inr (.inr ⟨k, c⟩)) (fun u => by
      rw [show (if (opN p s t.toNat).k = 3 then (opN p s t.toNat).o else 0) = 0 from if_neg (by omega)]
      show s.has u = _
      split
      · rename_i e; rw [e]; omega
      · rfl)
  · intro k a
    refine ⟨fun e => (by cases e), fun e he => ?_⟩
    cases he
    refine h.tell hlt rfl (hmt 6 (by rw [k]; rfl)) (hno 6 (by decide) (by decide) (by decide)) (by omega) rfl (same _ rfl rfl) rfl rfl ?_
    funext u; show s.has u = upZ s.has _ (s.has _) u; unfold upZ; split
    · rename_i e; rw [e]
    · rfl
  · intro k a
    refine ⟨fun e => (by cases e), fun e he => ?_⟩
    cases he
    exact h.tell hlt rfl (hmt 7 (by rw [k]; rfl)) (hno 7 (by decide) (by decide) (by decide)) (by omega) rfl (same _ rfl rfl) rfl rfl rfl
  · intro k a
    refine ⟨fun e => (by cases e), fun e he => ?_⟩
    cases he
    refine h.tell hlt rfl (hmt 8 (by rw [k]; rfl)) (hno 8 (by decide) (by decide) (by decide)) (by omega) rfl (same _ rfl rfl) rfl rfl ?_
    funext u; show s.has u = upZ s.has _ (s.has _) u; unfold upZ; split
    · rename_i e; rw [e]
    · rfl
theorem InvR.first (p : List (List Ev)) : InvR p PS.first RS.first := ⟨fun _ => rfl, fun _ => rfl, fun _ => Nat.le_refl _, fun t i _ h => absurd h (Nat.not_lt_zero _), fun t => by simp [PS.first, RS.first, addsF]⟩
theorem replay_snoc (p : List (List Ev)) (l : List Ev) (e : Ev) : replay p (l ++ [e]) = rstep p (replay p l) e := by simp [replay]
theorem runP_replay {p : List (List Ev)} (hp : OkP p) (picks : List Int) : InvR p (runP p picks).1 (replay p (runP p picks).2) := by
  refine (run_ind hp (Q := fun r => InvR p r.1 (replay p r.2)) (InvR.first p) ?_ picks).2
  intro r t hI h hc
  obtain ⟨h1, h2⟩ := InvR.step hp hI h hc
  cases he : (stepP p r.1 t.toNat).2 with
  | none =>
    simp only [Option.toList_none, List.append_nil]
    exact h1 he
  | some e =>
    simp only [Option.toList_some, replay_snoc]
    exact h2 e he
end Go.Proofs.Ytoohconipcleiaa

/- Each event of a run: its thread is one of the program's, and an op of that thread, behind the one that told the thread's last event, tells it. No program. -/
namespace Go.Proofs.Ytoohconipcleiaa

theorem doOp_thread {p : List (List Ev)} {s : PS} {t : Nat} {o e : Ev} (h : (doOp p s t o).2 = some e) : e.t = t := by
  unfold doOp at h
  (repeat' split at h) <;> first | (cases h; done) | (simp only [Option.some.injEq] at h; subst h; rfl)
/-- What the law asks of each event. -/
def OrdR (p : List (List Ev)) (l : List Ev) : Prop :=
  ∀ j (h : j < l.length), 0 ≤ l[j].t ∧ l[j].t < p.length ∧ findF (opsP p l[j].t.toNat) l[j] ((replay p (l.take j)).at_ l[j].t.toNat) < plen p l[j].t.toNat
theorem runP_order {p : List (List Ev)} (hp : OkP p) (picks : List Int) : OrdR p (runP p picks).2 := by
  refine (run_ind hp (Q := fun r => InvR p r.1 (replay p r.2) ∧ OrdR p r.2) ⟨InvR.first p, fun j h => absurd h (Nat.not_lt_zero _)⟩ ?_ picks).2.2
  intro r t hI ⟨h, hO⟩ hc
  obtain ⟨h1, h2⟩ := InvR.step hp hI h hc
  have hn := canB_next hc
  have hI' := hI.step hp hn
  obtain ⟨t0, t1, _, _⟩ := nextB_iff.1 hn
  cases he : (stepP p r.1 t.toNat).2 with
  | none =>
    simp only [Option.toList_none, List.append_nil]
    exact ⟨h1 he, hO⟩
  | some e =>
    simp only [Option.toList_some, replay_snoc]
    refine ⟨h2 e he, fun j hj => ?_⟩
    by_cases hlt : j < r.2.length
    · have := hO j hlt
      rw [List.getElem_append_left hlt, List.take_append_of_le_length (Nat.le_of_lt hlt)]
      exact this
    · have hje : j = r.2.length := by simp at hj; omega
      subst hje
      have ht : e.t = (t.toNat : Int) := doOp_thread he
      have e1 : e.t.toNat = t.toNat := by omega
      simp only [List.getElem_concat_length, List.take_left']
      refine ⟨by omega, by omega, ?_⟩
      have hle := (h2 e he).le e.t.toNat
      have hat : (rstep p (replay p r.2) e).at_ e.t.toNat = findF (opsP p e.t.toNat) e ((replay p r.2).at_ e.t.toNat) + 1 := by
        show upN _ _ _ _ = _
        rw [upN_same]
      rw [hat] at hle
      have := hI'.at_le e.t.toNat
      omega
theorem rstep_at (p : List (List Ev)) (r : RS) (x : Ev) : (rstep p r x).at_ = upN r.at_ x.t.toNat (findF (opsP p x.t.toNat) x (r.at_ x.t.toNat) + 1) := rfl
theorem replay_le {p : List (List Ev)} {l : List Ev} (h : OrdR p l) : ∀ j, j ≤ l.length → ∀ t, (replay p (l.take j)).at_ t ≤ plen p t := by
  intro j
  induction j with
  | zero => intro _ t; simp [replay, RS.first]
  | succ j ih =>
    intro hj t
    have hlt : j < l.length := by omega
    rw [List.take_succ_eq_append_getElem hlt, replay_snoc, rstep_at]
    obtain ⟨_, _, h3⟩ := h j hlt
    by_cases e : t = l[j].t.toNat
    · subst e; rw [upN_same]; omega
    · rw [upN_ne e]; exact ih (by omega) t
theorem findF_ge (z : List Ev) (x : Ev) (i : Nat) : i ≤ findF z x i := Nat.le_add_right _ _
theorem findF_lo {z : List Ev} {x : Ev} {i m : Nat} (h1 : i ≤ m) (h2 : m < findF z x i) (hm : m < z.length) : matchB z[m] x = false := by
  unfold findF at h2
  have h3 : m - i < (z.drop i).findIdx (matchB · x) := by omega
  have := List.not_of_lt_findIdx h3
  have e : (z.drop i)[m - i]'(by simp; omega) = z[m] := by rw [List.getElem_drop]; congr 1; omega
  rw [e] at this
  simpa using this
theorem findF_hi {z : List Ev} {x : Ev} {i : Nat} (h : findF z x i < z.length) : matchB z[findF z x i] x = true := by
  have hlt : (z.drop i).findIdx (matchB · x) < (z.drop i).length := by unfold findF at h; simp; omega
  have := List.findIdx_getElem (w := hlt)
  rw [List.getElem_drop] at this
  exact this
end Go.Proofs.Ytoohconipcleiaa

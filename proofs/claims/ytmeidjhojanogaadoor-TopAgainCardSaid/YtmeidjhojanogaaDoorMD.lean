/- Joined texts. -/
import Derived.Test.YtmeidjhojanogaaDoorBase
import Derived.Test.YtmeidjhojanogaaDoorMX
import Derived.Test.YtmeidjhojanogaaDoorMA
import Derived.Maps.AppendAt
import Derived.Deep.AppendLies
import Derived.OwnWalk

/- Slices of ints; membership and equality of lists. No program. -/
namespace Go.Proofs.YtmeidjhojanogaaDoor
open Go.RowKit

/-- Is it in a list? (a plain definition, which the walk leaves alone) -/
def hasB {α : Type} [DecidableEq α] (l : List α) (x : α) : Bool := decide (x ∈ l)
theorem hasB_iff {α : Type} [DecidableEq α] {l : List α} {x : α} : hasB l x = true ↔ x ∈ l := by simp [hasB]
/-- Are two lists equal? -/
def eqB {α : Type} [DecidableEq α] (l m : List α) : Bool := decide (l = m)
theorem eqB_iff {α : Type} [DecidableEq α] {l m : List α} : eqB l m = true ↔ l = m := by simp [eqB]

/-- A slice of ints: its elements read as a list. -/
structure IntS (w : World) (a : Option Addr) (l : List Int) : Prop where
  big : l.length < 4611686018427387904
  ok : l = [] ∨ ∃ b o, a = some ⟨b, o, none⟩ ∧ ∀ i (h : i < l.length), w.cell? ⟨b, o + i, none⟩ = some (.int .i64 l[i])
theorem IntS.below {w w' : World} {a : Option Addr} {l : List Int} (h : IntS w a l) (k : Below w.heap.size w w') : IntS w' a l := by
  refine ⟨h.big, ?_⟩
  rcases h.ok with h0 | ⟨b, o, ha, hc⟩
  · exact .inl h0
  · exact .inr ⟨b, o, ha, fun i hi => (k.cell (World.block_lt_of_cell? w _ (hc i hi))).trans (hc i hi)⟩
theorem IntS.at {w : World} {a : Option Addr} {l : List Int} (h : IntS w a l) {i : Nat} (hi : i < l.length) : ∃ b o, a = some ⟨b, o, none⟩ ∧ w.cell? ⟨b, o + i, none⟩ = some (.int .i64 l[i]) := by
  rcases h.ok with h0 | ⟨b, o, ha, hc⟩
  · simp [h0] at hi
  · exact ⟨b, o, ha, hc i hi⟩

end Go.Proofs.YtmeidjhojanogaaDoor

/- Slices of events and of ints; contracts: may, two. -/
namespace Go.Proofs.YtmeidjhojanogaaDoor
open Go.RowKit

/-- The cells of a list of events. -/
def evL (l : List Ev) : List Value := l.flatMap fun e => [.int .i64 e.k, .int .i64 e.t, .int .i64 e.o]
theorem evL_append (l m : List Ev) : evL (l ++ m) = evL l ++ evL m := by simp [evL]
theorem evL_length (l : List Ev) : (evL l).length = l.length * 3 := by
  induction l with
  | nil => rfl
  | cons e l ih => simp [evL] at *; omega
theorem evL_get (l : List Ev) : ∀ (i : Nat) (h : i < l.length), (evL l)[i * 3]? = some (.int .i64 l[i].k) ∧ (evL l)[i * 3 + 1]? = some (.int .i64 l[i].t) ∧ (evL l)[i * 3 + 2]? = some (.int .i64 l[i].o) := by
  induction l with
  | nil => intro i h; simp at h
  | cons e l ih =>
    intro i h
    have hc : evL (e :: l) = .int .i64 e.k :: .int .i64 e.t :: .int .i64 e.o :: evL l := rfl
    cases i with
    | zero => simp [hc]
    | succ i =>
      obtain ⟨h1, h2, h3⟩ := ih i (by simpa using h)
      rw [hc, show (i + 1) * 3 = i * 3 + 1 + 1 + 1 by omega]
      simp only [List.getElem?_cons_succ, List.getElem_cons_succ]
      exact ⟨h1, h2, h3⟩

/-- A slice of events that owns its cells reads as its list. -/
theorem evS_own {w : World} {base : Nat} {e : TypeId} {v : Value} {l : List Ev} (h : w.ownsRow base e 3 v l.length (evL l)) (hb : l.length < 4611686018427387904) : ∃ a c, v = .slice a l.length c ∧ EvS w a l ∧ (∀ k, v.ownBlock = some k → base ≤ k) := by
  have hlt := h.lt
  rcases h.2 with ⟨rfl, hn⟩ | ⟨g, cap, cur, rfl, hg, hh, _⟩
  · exact ⟨none, 0, by rw [hn], ⟨hb, .inl (List.eq_nil_of_length_eq_zero hn)⟩, fun k hk => (hlt k hk).1⟩
  · refine ⟨_, _, rfl, ⟨hb, .inr ⟨g, 0, rfl, fun i hi => ?_⟩⟩, fun k hk => (hlt k hk).1⟩
    have hc := h.cells (g := g) rfl
    obtain ⟨h1, h2, h3⟩ := evL_get l i hi
    have e1 := hc _ _ h1
    have e2 := hc _ _ h2
    have e3 := hc _ _ h3
    have hadd : ∀ n, (⟨g, 0, none⟩ : Addr).add n = ⟨g, 0 + n, none⟩ := by intro n; unfold Addr.add; split <;> simp_all
    rw [hadd] at e1 e2 e3
    exact ⟨e1, e2, e3⟩
theorem intS_own {w : World} {base : Nat} {e : TypeId} {v : Value} {l : List Int} (h : w.ownsRow base e 1 v l.length (l.map fun n => Value.int .i64 n)) (hb : l.length < 4611686018427387904) : ∃ a c, v = .slice a l.length c ∧ IntS w a l ∧ (∀ k, v.ownBlock = some k → base ≤ k) := by
  have hlt := h.lt
  rcases h.2 with ⟨rfl, hn⟩ | ⟨g, cap, cur, rfl, hg, hh, _⟩
  · exact ⟨none, 0, by rw [hn], ⟨hb, .inl (List.eq_nil_of_length_eq_zero hn)⟩, fun k hk => (hlt k hk).1⟩
  · refine ⟨_, _, rfl, ⟨hb, .inr ⟨g, 0, rfl, fun i hi => ?_⟩⟩, fun k hk => (hlt k hk).1⟩
    have e1 := h.cells (g := g) rfl i (.int .i64 l[i]) (by simp [hi])
    have hadd : ∀ n, (⟨g, 0, none⟩ : Addr).add n = ⟨g, 0 + n, none⟩ := by intro n; unfold Addr.add; split <;> simp_all
    rw [hadd] at e1
    exact e1
/-- A row that is wholly full is owned. -/
theorem own_full {w : World} {base e : Nat} {size n : Nat} {cs : Array Value} {g : Nat} (h : Has w g cs e) (hb : base ≤ g) (hs : cs.size = n * size) (hn : n ≤ maxLen) : w.ownsRow base e size (.slice (some ⟨g, 0, none⟩) n n) n cs.toList :=
  ⟨by simpa using hs, .inr ⟨g, n, cs, rfl, hb, h.out, Nat.le_refl _, hn, hs, by rw [List.take_of_length_le (by simp [hs])]⟩⟩

theorem may_any (l : List Ev) (a : Option Addr) (c : Nat) (w : World) (h : EvS w a l) :
    Calls Tryd.prog 13 #[.slice a l.length c] w fun r w' => r = .returned (.bool (mayB l)) ∧ Below w.heap.size w w' := by
  go_enter Tryd.func13, Tryd.ntmps13
  go_wp2_with fail
  refine (check_any l a c _ h).mono ?_
  rintro r w' ⟨rfl, hb⟩
  go_wp2
  go_ret
  exact ⟨rfl, hb⟩

/-- The trace of the closed facts. -/
def twoL : List Ev := [⟨5, 0, 1⟩, ⟨2, 0, 0⟩, ⟨2, 1, 0⟩]
theorem two_any (w : World) : Calls Tryd.prog 22 #[] w fun r w' => r = .returned (.slice (some ⟨w.heap.size, 0, none⟩) 3 3) ∧ Has w' w.heap.size (evL twoL).toArray 30 ∧ Below w.heap.size w w' := by
  go_enter Tryd.func22, Tryd.ntmps22
  go_wp2
  go_ret
  exact ⟨rfl, (Has.new w _ _).to rfl, (Below.refl _ _).alloc (by simp) _⟩
theorem infoI : (Tryd.prog.info? 3).map (fun i => (i.zero, i.size, i.bytes)) = some (some (.int .i64 0), 1, 8) := by kernel_rfl

/-- A slice of ints that is wholly full reads as its list. -/
theorem intS_full {w : World} {g : Nat} {cs : Array Value} {l : List Int} {e : TypeId} (h : Has w g cs e) (hc : cs = (ints l).toArray) (hb : l.length < 4611686018427387904) : IntS w (some ⟨g, 0, none⟩) l :=
  ⟨hb, .inr ⟨g, 0, rfl, fun i hi => by rw [Nat.zero_add]; exact h.cell (by subst hc; simp [hi])⟩⟩
theorem evS_full {w : World} {g : Nat} {cs : Array Value} {l : List Ev} {e : TypeId} (h : Has w g cs e) (hc : cs = (evL l).toArray) (hb : l.length < 4611686018427387904) : EvS w (some ⟨g, 0, none⟩) l :=
  ⟨hb, .inr ⟨g, 0, rfl, fun i hi => by
    obtain ⟨h1, h2, h3⟩ := evL_get l i hi
    subst hc
    rw [Nat.zero_add]
    exact ⟨h.cell (by simpa using h1), h.cell (by simpa using h2), h.cell (by simpa using h3)⟩⟩⟩
theorem infoE : (Tryd.prog.info? 30).map (fun i => (i.zero, i.size, i.bytes)) = some (some (evV ⟨0, 0, 0⟩), 3, 24) := by kernel_rfl

theorem EvS.take {w : World} {a : Option Addr} {l : List Ev} (h : EvS w a l) (n : Nat) : EvS w a (l.take n) := by
  refine ⟨by have := h.big; simp; omega, ?_⟩
  rcases h.ok with h0 | ⟨b, o, ha, hc⟩
  · left; simp [h0]
  · right
    refine ⟨b, o, ha, fun i hi => ?_⟩
    rw [List.getElem_take]
    exact hc i (by simp at hi; omega)
theorem may_n (l : List Ev) (n : Nat) (hn : l.length = n) (a : Option Addr) (c : Nat) (w : World) (h : EvS w a l) :
    Calls Tryd.prog 13 #[.slice a n c] w fun r w' => r = .returned (.bool (mayB l)) ∧ Below w.heap.size w w' := by
  subst hn; exact may_any l a c w h
theorem check_n (l : List Ev) (n : Nat) (hn : l.length = n) (a : Option Addr) (c : Nat) (w : World) (h : EvS w a l) :
    Calls Tryd.prog 23 #[.slice a n c] w fun r w' => r = .returned (.tuple #[.int .i64 (played l).2.1, .int .i64 (played l).2.2]) ∧ Below w.heap.size w w' := by
  subst hn; exact check_any l a c w h
end Go.Proofs.YtmeidjhojanogaaDoor

/- append onto a row that the call made, the source whatever it is (nil, empty, a row): run, in a plain region, in a region that draws. -/
namespace Go.Proofs.YtmeidjhojanogaaDoor
open Go.RowKit

/-- A source: m elements of 'size' cells, read at the slice's address. -/
structure Src (w : World) (size : Nat) (A : Option Addr) (m : Nat) (news : List Value) : Prop where
  len : news.length = m * size
  ok : news = [] ∧ m = 0 ∨ ∃ ad, A = some ad ∧ ∀ j u, news[j]? = some u → w.cell? (ad.add j) = some u
theorem Src.below {w w' : World} {size m : Nat} {A : Option Addr} {news : List Value} (h : Src w size A m news) (k : Below w.heap.size w w') : Src w' size A m news := by
  refine ⟨h.len, ?_⟩
  rcases h.ok with h0 | ⟨ad, ha, hc⟩
  · exact .inl h0
  · exact .inr ⟨ad, ha, fun j u hu => (k.cell (World.block_lt_of_cell? w _ (hc j u hu))).trans (hc j u hu)⟩

/-- What append leaves: the row owned, longer; only that row and new blocks are touched. -/
structure Appended (w w' : World) (base e size : Nat) (v v' : Value) (n : Nat) (xs : List Value) : Prop where
  own : w'.ownsRow base e size v' n xs
  grown : w.grownBy w' v.ownBlock
  lies : v'.ownBlock = v.ownBlock ∨ v'.ownBlock = some w.heap.size

section
variable {P : Program} (w : World)
theorem app_run {base : Nat} {t ty e : TypeId} {i : TypeInfo} {z : Value} {size bytes : Nat} (ht : P.underlying t = some (.slice e)) (hi : P.info? e = some i) (hz : i.zero = some z)
    (hsize : i.size = size) (hby : i.bytes = bytes) (hzs : z.cells.size = size) (hsz : 0 < size)
    {v : Value} {n : Nat} {xs : List Value} (hown : w.ownsRow base e size v n xs) {A : Option Addr} {m c : Nat} {news : List Value} (hs : Src w size A m news) (h1 : ∀ u ∈ news, u.oneCell' = true)
    (h63 : n + m ≤ maxLen) (hbytes : (n + m) * bytes ≤ 140737488355328) (hbase : base ≤ w.heap.size) :
    ∃ v' w', (Builtin.append_ #[t, t] ty #[v, .slice A m c]).run P w = .ok v' w' ∧ Appended w w' base e size v v' (n + m) (xs ++ news) := by
  rcases hs.ok with ⟨rfl, rfl⟩ | ⟨ad, rfl, hc⟩
  · rcases A with _ | ad
    · refine ⟨v, w, ?_, by simpa using hown, World.grownBy.refl w _, .inl rfl⟩
      rcases hown.2 with ⟨rfl, rfl⟩ | ⟨g, cap, cur, rfl, _, _, hnc, _⟩
      · simp [Builtin.append_, run_underlying ht, sizeOf, typeInfo, hi, Builtin.lenOf, Builtin.firstCells]
      · simp [Builtin.append_, run_underlying ht, sizeOf, typeInfo, hi, Builtin.lenOf, Builtin.firstCells, hnc, storeCells]
    · obtain ⟨v', w', r, a, b, _, d⟩ := run_append_own_at (P := P) w base t ty e i z size bytes ht hi hz hsize hby hzs hsz v n xs hown ad 0 c [] (by simp) (by simp) (by simp) h63 hbytes hbase
      exact ⟨v', w', r, a, b, d⟩
  · obtain ⟨v', w', r, a, b, _, d⟩ := run_append_own_at (P := P) w base t ty e i z size bytes ht hi hz hsize hby hzs hsz v n xs hown ad m c news hs.len hc h1 h63 hbytes hbase
    exact ⟨v', w', r, a, b, d⟩

theorem app_wp {o : Oper} {a : Act} {K : Act → World → Prop} {Q : Exit → Act → World → Prop} (s x : Operand) (t : TypeId) (ho : o.op = .call { callee := .builtin .append, args := #[s, x], argTypes := #[t, t] })
    {base : Nat} {e : TypeId} {i : TypeInfo} {z : Value} {size bytes : Nat} (ht : P.underlying t = some (.slice e)) (hi : P.info? e = some i) (hz : i.zero = some z)
    (hsize : i.size = size) (hby : i.bytes = bytes) (hzs : z.cells.size = size) (hsz : 0 < size)
    {v : Value} {n : Nat} {xs : List Value} (hv : a.eval s = v) (hown : w.ownsRow base e size v n xs) {A : Option Addr} {m c : Nat} {news : List Value} (hx : a.eval x = .slice A m c) (hs : Src w size A m news) (h1 : ∀ u ∈ news, u.oneCell' = true)
    (h63 : n + m ≤ maxLen) (hbytes : (n + m) * bytes ≤ 140737488355328) (hbase : base ≤ w.heap.size)
    (h : ∀ v' w', Appended w w' base e size v v' (n + m) (xs ++ news) → K (a.put o.dst v') w') : o.wp P a w K Q := by
  obtain ⟨v', w', hrun, hA⟩ := app_run (P := P) (ty := o.type) w ht hi hz hsize hby hzs hsz hown (c := c) hs h1 h63 hbytes hbase
  unfold Oper.wp execOp
  simp only [ho, resolve, invoke, builtin, Sem.run_bind, Sem.run_pure, Result.andThen_ok, List.map_toArray, List.map_cons, List.map_nil, hv, hx, hrun]
  exact h v' w' hA

/-- In a plain region: behind 'at_builtin'. -/
theorem app_list {ops : Array Oper} {rest : List Oper} {o : Oper} {a : Act} {Q : Exit → Act → World → Prop} (hgd : o.guard = none) (s x : Operand) (t : TypeId) (ho : o.op = .call { callee := .builtin .append, args := #[s, x], argTypes := #[t, t] })
    {base : Nat} {e : TypeId} {i : TypeInfo} {z : Value} {size bytes : Nat} (ht : P.underlying t = some (.slice e)) (hi : P.info? e = some i) (hz : i.zero = some z)
    (hsize : i.size = size) (hby : i.bytes = bytes) (hzs : z.cells.size = size) (hsz : 0 < size)
    {v : Value} {n : Nat} {xs : List Value} (hv : a.eval s = v) (hown : w.ownsRow base e size v n xs) {A : Option Addr} {m c : Nat} {news : List Value} (hx : a.eval x = .slice A m c) (hs : Src w size A m news) (h1 : ∀ u ∈ news, u.oneCell' = true)
    (h63 : n + m ≤ maxLen) (hbytes : (n + m) * bytes ≤ 140737488355328) (hbase : base ≤ w.heap.size)
    (h : ∀ v' w', Appended w w' base e size v v' (n + m) (xs ++ news) → wpList P ops Q rest (a.put o.dst v') w') : wpList P ops Q (o :: rest) a w :=
  wpList_plain hgd fun _ hK => app_wp w s x t ho ht hi hz hsize hby hzs hsz hv hown hx hs h1 h63 hbytes hbase fun v' w' hA => hK _ _ (h v' w' hA)

/-- In a region that draws. -/
theorem app_step {ops : Array Oper} {o : Oper} {a : Act} {K : Act → World → Prop} {Q : Exit → Act → World → Prop} {E : Prop} (hgd : o.guard = none) (s x : Operand) (t : TypeId) (ho : o.op = .call { callee := .builtin .append, args := #[s, x], argTypes := #[t, t] })
    {base : Nat} {e : TypeId} {i : TypeInfo} {z : Value} {size bytes : Nat} (ht : P.underlying t = some (.slice e)) (hi : P.info? e = some i) (hz : i.zero = some z)
    (hsize : i.size = size) (hby : i.bytes = bytes) (hzs : z.cells.size = size) (hsz : 0 < size)
    {v : Value} {n : Nat} {xs : List Value} (hv : a.eval s = v) (hown : w.ownsRow base e size v n xs) {A : Option Addr} {m c : Nat} {news : List Value} (hx : a.eval x = .slice A m c) (hs : Src w size A m news) (h1 : ∀ u ∈ news, u.oneCell' = true)
    (h63 : n + m ≤ maxLen) (hbytes : (n + m) * bytes ≤ 140737488355328) (hbase : base ≤ w.heap.size)
    (h : ∀ v' w', Appended w w' base e size v v' (n + m) (xs ++ news) → K (a.put o.dst v') w') :
    if Region.wanted o (yielded ops a.tmps) = true then Oper.wp P o a w K Q else E := by
  have hw : Region.wanted o (yielded ops a.tmps) = true := by simp [Region.wanted, hgd]
  rw [if_pos hw]
  exact app_wp w s x t ho ht hi hz hsize hby hzs hsz hv hown hx hs h1 h63 hbytes hbase h
end
theorem own_below {w w' : World} {base e size : Nat} {v : Value} {n : Nat} {xs : List Value} (h : w.ownsRow base e size v n xs) (k : Below w.heap.size w w') : w'.ownsRow base e size v n xs :=
  h.kept (row := none) ⟨k.os, k.tape, k.output, k.size, fun j hj _ => k.block j hj⟩ (by cases v.ownBlock <;> simp)
/-- The row's own block is one of the call's. -/
theorem Appended.below {w0 w w' : World} {base e size : Nat} {v v' : Value} {n n' : Nat} {xs ys : List Value} (h : Appended w w' base e size v v' n xs) (ho : w.ownsRow base e size v n' ys) (hb : Below base w0 w) (hbase : base ≤ w.heap.size) : Below base w0 w' :=
  hb.grown h.grown hbase fun k hk => (ho.lt k hk).1
end Go.Proofs.YtmeidjhojanogaaDoor

/- Slices of events as sources of an append; what an append of events leaves. -/
namespace Go.Proofs.YtmeidjhojanogaaDoor
open Go.RowKit

theorem EvS.src {w : World} {a : Option Addr} {l : List Ev} (h : EvS w a l) : Src w 3 a l.length (evL l) := by
  refine ⟨evL_length l, ?_⟩
  rcases h.ok with rfl | ⟨b, o, ha, hc⟩
  · exact .inl ⟨rfl, rfl⟩
  · right
    refine ⟨_, ha, fun j u hu => ?_⟩
    have hj : j < l.length * 3 := by rw [← evL_length]; exact (List.getElem?_eq_some_iff.1 hu).1
    have hi : j / 3 < l.length := by omega
    obtain ⟨h1, h2, h3⟩ := evL_get l (j / 3) hi
    obtain ⟨c1, c2, c3⟩ := hc (j / 3) hi
    have hadd : (⟨b, o, none⟩ : Addr).add j = ⟨b, o + j, none⟩ := by unfold Addr.add; split <;> simp_all
    rw [hadd]
    rcases (by omega : j = j / 3 * 3 ∨ j = j / 3 * 3 + 1 ∨ j = j / 3 * 3 + 2) with e | e | e
    · rw [e] at hu ⊢; rw [h1] at hu; rw [← Option.some.inj hu]; rw [← e] at c1 ⊢; exact c1
    · rw [e] at hu ⊢; rw [h2] at hu; rw [← Option.some.inj hu]; exact c2
    · rw [e] at hu ⊢; rw [h3] at hu; rw [← Option.some.inj hu]; exact c3
theorem evL_one (l : List Ev) : ∀ u ∈ evL l, u.oneCell' = true := by
  intro u hu
  simp only [evL, List.mem_flatMap] at hu
  obtain ⟨e, _, he⟩ := hu
  simp at he
  rcases he with rfl | rfl | rfl <;> rfl
theorem EvS.drop {w : World} {b o : Nat} {l : List Ev} (h : EvS w (some ⟨b, o, none⟩) l) (n : Nat) : EvS w (some ⟨b, o + n * 3, none⟩) (l.drop n) := by
  refine ⟨by have := h.big; simp; omega, ?_⟩
  rcases h.ok with h0 | ⟨b', o', ha, hc⟩
  · left; simp [h0]
  · right
    cases ha
    refine ⟨b, o + n * 3, rfl, fun i hi => ?_⟩
    rw [List.getElem_drop]
    have := hc (n + i) (by simp at hi; omega)
    rw [show o + n * 3 + i * 3 = o + (n + i) * 3 by omega]
    exact this
theorem EvS.drew {w : World} {a : Option Addr} {l : List Ev} (h : EvS w a l) : EvS w.drew a l := h.below (Below.refl _ _).drew
/-- The tail of a slice, as the model cuts it. -/
theorem EvS.tail {w : World} {b o : Nat} {l : List Ev} (h : EvS w (some ⟨b, o, none⟩) l) (n c : Nat) (hc : l.length ≤ c) : EvS w (if c = n then some ⟨b, o, none⟩ else some ⟨b, o + n * 3, none⟩) (l.drop n) := by
  split
  · rename_i e
    have : l.drop n = [] := List.drop_eq_nil_of_le (by omega)
    rw [this]
    exact ⟨by simp, .inl rfl⟩
  · exact h.drop n
/-- Nothing that was there is touched by an append onto nil. -/
theorem Appended.fresh {w w' : World} {base e size : Nat} {v' : Value} {n : Nat} {xs : List Value} (h : Appended w w' base e size (.slice none 0 0) v' n xs) : Below w.heap.size w w' :=
  (Below.refl _ _).grown h.grown (Nat.le_refl _) (fun k hk => by simp [Value.ownBlock] at hk)
theorem Appended.fresh2 {w w1 w2 : World} {base e size : Nat} {v1 v2 : Value} {n n' : Nat} {xs ys : List Value} (h : Appended w w1 base e size (.slice none 0 0) v1 n xs) (h2 : Appended w1 w2 base e size v1 v2 n' ys) : Below w.heap.size w w2 :=
  h.fresh.grown h2.grown h.fresh.size (fun k hk => by
    rcases h.lies with e | e <;> rw [e] at hk
    · simp [Value.ownBlock] at hk
    · rw [← Option.some.inj hk]; exact Nat.le_refl _)
/-- A slice of events that an append left. -/
theorem Appended.evs {w0 w : World} {base e : Nat} {v v' : Value} {n : Nat} {l : List Ev} {xs : List Value} (h : Appended w0 w base e 3 v v' n xs) (hx : xs = evL l) (hn : n = l.length) (hb : l.length < 4611686018427387904) :
    ∃ a c, v' = .slice a l.length c ∧ EvS w a l := by
  have ho := h.own
  rw [hx, hn] at ho
  obtain ⟨a, c, h1, h2, _⟩ := evS_own ho hb
  exact ⟨a, c, h1, h2⟩
end Go.Proofs.YtmeidjhojanogaaDoor

/- A slice of events at a place. No program. -/
namespace Go.Proofs.YtmeidjhojanogaaDoor
theorem EvS.at {w : World} {a : Option Addr} {l : List Ev} (h : EvS w a l) {i : Nat} (hi : i < l.length) : ∃ b o, a = some ⟨b, o, none⟩ ∧ w.cell? ⟨b, o + i * 3, none⟩ = some (.int .i64 l[i].k) ∧ w.cell? ⟨b, o + i * 3 + 1, none⟩ = some (.int .i64 l[i].t) ∧ w.cell? ⟨b, o + i * 3 + 2, none⟩ = some (.int .i64 l[i].o) := by
  rcases h.ok with h0 | ⟨b, o, ha, hc⟩
  · simp [h0] at hi
  · exact ⟨b, o, ha, hc i hi⟩
end Go.Proofs.YtmeidjhojanogaaDoor

/- Slices of pairs; lists of pairs of places. No program but the pair's type. -/
namespace Go.Proofs.YtmeidjhojanogaaDoor
open Go.RowKit

abbrev prC (p : Int × Int) : Array Value := #[.int .i64 p.1, .int .i64 p.2]
abbrev prV (p : Int × Int) : Value := .agg (prC p)
def prL (l : List (Int × Int)) : List Value := l.flatMap fun p => [.int .i64 p.1, .int .i64 p.2]
theorem prL_append (l m : List (Int × Int)) : prL (l ++ m) = prL l ++ prL m := by simp [prL]
theorem prL_length (l : List (Int × Int)) : (prL l).length = l.length * 2 := by
  induction l with
  | nil => rfl
  | cons e l ih => simp [prL] at *; omega
theorem prL_get (l : List (Int × Int)) : ∀ (i : Nat) (h : i < l.length), (prL l)[i * 2]? = some (.int .i64 l[i].1) ∧ (prL l)[i * 2 + 1]? = some (.int .i64 l[i].2) := by
  induction l with
  | nil => intro i h; simp at h
  | cons e l ih =>
    intro i h
    have hc : prL (e :: l) = .int .i64 e.1 :: .int .i64 e.2 :: prL l := rfl
    cases i with
    | zero => simp [hc]
    | succ i =>
      obtain ⟨h1, h2⟩ := ih i (by simpa using h)
      rw [hc, show (i + 1) * 2 = i * 2 + 1 + 1 by omega]
      simp only [List.getElem?_cons_succ, List.getElem_cons_succ]
      exact ⟨h1, h2⟩
theorem prL_one (l : List (Int × Int)) : ∀ u ∈ prL l, u.oneCell' = true := by
  intro u hu
  simp only [prL, List.mem_flatMap] at hu
  obtain ⟨e, _, he⟩ := hu
  simp at he
  rcases he with rfl | rfl <;> rfl
/-- A slice of pairs: its elements read as a list. -/
structure PrS (w : World) (a : Option Addr) (l : List (Int × Int)) : Prop where
  big : l.length < 4611686018427387904
  ok : l = [] ∨ ∃ b o, a = some ⟨b, o, none⟩ ∧ ∀ i (h : i < l.length), w.cell? ⟨b, o + i * 2, none⟩ = some (.int .i64 l[i].1) ∧ w.cell? ⟨b, o + i * 2 + 1, none⟩ = some (.int .i64 l[i].2)
theorem PrS.below {w w' : World} {a : Option Addr} {l : List (Int × Int)} (h : PrS w a l) (k : Below w.heap.size w w') : PrS w' a l := by
  refine ⟨h.big, ?_⟩
  rcases h.ok with h0 | ⟨b, o, ha, hc⟩
  · exact .inl h0
  · refine .inr ⟨b, o, ha, fun i hi => ?_⟩
    obtain ⟨h1, h2⟩ := hc i hi
    exact ⟨(k.cell (World.block_lt_of_cell? w _ h1)).trans h1, (k.cell (World.block_lt_of_cell? w _ h2)).trans h2⟩
theorem PrS.at {w : World} {a : Option Addr} {l : List (Int × Int)} (h : PrS w a l) {i : Nat} (hi : i < l.length) : ∃ b o, a = some ⟨b, o, none⟩ ∧ w.cell? ⟨b, o + i * 2, none⟩ = some (.int .i64 l[i].1) ∧ w.cell? ⟨b, o + i * 2 + 1, none⟩ = some (.int .i64 l[i].2) := by
  rcases h.ok with h0 | ⟨b, o, ha, hc⟩
  · simp [h0] at hi
  · exact ⟨b, o, ha, hc i hi⟩
theorem prS_own {w : World} {base : Nat} {e : TypeId} {v : Value} {l : List (Int × Int)} (h : w.ownsRow base e 2 v l.length (prL l)) (hb : l.length < 4611686018427387904) : ∃ a c, v = .slice a l.length c ∧ PrS w a l := by
  rcases h.2 with ⟨rfl, hn⟩ | ⟨g, cap, cur, rfl, hg, hh, _⟩
  · exact ⟨none, 0, by rw [hn], ⟨hb, .inl (List.eq_nil_of_length_eq_zero hn)⟩⟩
  · refine ⟨_, _, rfl, ⟨hb, .inr ⟨g, 0, rfl, fun i hi => ?_⟩⟩⟩
    have hc := h.cells (g := g) rfl
    obtain ⟨h1, h2⟩ := prL_get l i hi
    have e1 := hc _ _ h1
    have e2 := hc _ _ h2
    have hadd : ∀ n, (⟨g, 0, none⟩ : Addr).add n = ⟨g, 0 + n, none⟩ := by intro n; unfold Addr.add; split <;> simp_all
    rw [hadd] at e1 e2
    exact ⟨e1, e2⟩
theorem prS_full {w : World} {g : Nat} {cs : Array Value} {l : List (Int × Int)} {e : TypeId} (h : Has w g cs e) (hc : cs = (prL l).toArray) (hb : l.length < 4611686018427387904) : PrS w (some ⟨g, 0, none⟩) l :=
  ⟨hb, .inr ⟨g, 0, rfl, fun i hi => by
    obtain ⟨h1, h2⟩ := prL_get l i hi
    subst hc
    rw [Nat.zero_add]
    exact ⟨h.cell (by simpa using h1), h.cell (by simpa using h2)⟩⟩⟩

/-- The pairs with first place i and a second one below j; with a first place below i. -/
def rowP (H : Nat → Nat → Bool) (i j : Nat) : List (Int × Int) := ((List.range j).filter fun k => decide (i < k) && H i k).map fun k : Nat => ((i : Int), (k : Int))
def allP (H : Nat → Nat → Bool) (n i : Nat) : List (Int × Int) := (List.range i).flatMap fun a => rowP H a n
theorem rowP_start (H : Nat → Nat → Bool) (i : Nat) : rowP H i (i + 1) = [] := by
  simp [rowP, List.filter_eq_nil_iff]
  intro a ha h; omega
theorem rowP_yes (H : Nat → Nat → Bool) (i j : Nat) (h : i < j) (hH : H i j = true) : rowP H i (j + 1) = rowP H i j ++ [((i : Int), (j : Int))] := by
  simp [rowP, List.range_succ, List.filter_append, h, hH]
theorem rowP_no (H : Nat → Nat → Bool) (i j : Nat) (hH : H i j = false) : rowP H i (j + 1) = rowP H i j := by
  simp [rowP, List.range_succ, List.filter_append, hH]
theorem allP_succ (H : Nat → Nat → Bool) (n i : Nat) : allP H n (i + 1) = allP H n i ++ rowP H i n := by
  simp [allP, List.range_succ]
theorem rowP_len (H : Nat → Nat → Bool) (i j : Nat) : (rowP H i j).length ≤ j := by
  simpa [rowP] using List.length_filter_le (fun k => decide (i < k) && H i k) (List.range j)
theorem allP_len (H : Nat → Nat → Bool) (n : Nat) : ∀ i, (allP H n i).length ≤ i * n
  | 0 => by simp [allP]
  | i + 1 => by
    rw [allP_succ, List.length_append, Nat.succ_mul]
    have := allP_len H n i
    have := rowP_len H i n
    omega
theorem mem_allP {H : Nat → Nat → Bool} {n : Nat} {p : Int × Int} : p ∈ allP H n n ↔ ∃ i j : Nat, p = ((i : Int), (j : Int)) ∧ i < j ∧ j < n ∧ H i j = true := by
  simp only [allP, List.mem_flatMap, List.mem_range, rowP, List.mem_map, List.mem_filter, Bool.and_eq_true, decide_eq_true_eq]
  constructor
  · rintro ⟨a, ha, k, ⟨h1, h2, h3⟩, rfl⟩
    exact ⟨a, k, rfl, h2, h1, h3⟩
  · rintro ⟨i, j, rfl, h1, h2, h3⟩
    exact ⟨i, by omega, j, ⟨h2, h1, h3⟩, rfl⟩
end Go.Proofs.YtmeidjhojanogaaDoor

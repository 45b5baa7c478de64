/- Joined texts. -/
import Derived.Test.YtfjbnhacfficnaaGreatDoorZA
import Derived.Maps.AppendAt
import Derived.Deep.AppendLies
import Derived.OwnWalk
import Derived.Lib.SliceRun
import Derived.Laws.OwnMore
import Derived.IntWalk
import Derived.Deep.DeepCutAuto
import Derived.Deep.RegionLaw
import Derived.Test.YtfjbnhacfficnaaGreatDoorChecked
import Derived.Deep.MidRow

/- Slices of events and of ints; contracts: may, two. -/
namespace Go.Proofs.YtfjbnhacfficnaaGreatDoor
open Go.RowKit

/-- The cells of a list of events. -/
def evL (l : List Ev) : List Value := l.flatMap fun e => [.int .i64 e.k, .int .i64 e.t, .int .i64 e.o]
theorem evL_append (l m : List Ev) : evL (l ++ m) = evL l ++ evL m := by simp [evL]
theorem evL_length (l : List Ev) : (evL l).length = l.length * 3 := by
  induction l with
  | nil => rfl
  | cons e l ih => simp [evL] at *; omega
theorem evL_get (l : List Ev) : ∀ (i : Nat) (h : i < l.length), (evL l)[i * 3]? = some (.int .i64 l[i].k) ∧ (evL l)[i * 3 + 1]? = some (.int .i64 l[i].t) ∧ (evL l)[i * 3 + 2]? = some (.int .i64 l[i].o) := by
  induction l with
  | nil => intro i h; simp at h
  | cons e l ih =>
    intro i h
    have hc : evL (e :: l) = .int .i64 e.k :: .int .i64 e.t :: .int .i64 e.o :: evL l := rfl
    cases i with
    | zero => simp [hc]
    | succ i =>
      obtain ⟨h1, h2, h3⟩ := ih i (by simpa using h)
      rw [hc, show (i + 1) * 3 = i * 3 + 1 + 1 + 1 by omega]
      simp only [List.getElem?_cons_succ, List.getElem_cons_succ]
      exact ⟨h1, h2, h3⟩

/-- A slice of events that owns its cells reads as its list. -/
theorem evS_own {w : World} {base : Nat} {e : TypeId} {v : Value} {l : List Ev} (h : w.ownsRow base e 3 v l.length (evL l)) (hb : l.length < 4611686018427387904) : ∃ a c, v = .slice a l.length c ∧ EvS w a l ∧ (∀ k, v.ownBlock = some k → base ≤ k) := by
  have hlt := h.lt
  rcases h.2 with ⟨rfl, hn⟩ | ⟨g, cap, cur, rfl, hg, hh, _⟩
  · exact ⟨none, 0, by rw [hn], ⟨hb, .inl (List.eq_nil_of_length_eq_zero hn)⟩, fun k hk => (hlt k hk).1⟩
  · refine ⟨_, _, rfl, ⟨hb, .inr ⟨g, 0, rfl, fun i hi => ?_⟩⟩, fun k hk => (hlt k hk).1⟩
    have hc := h.cells (g := g) rfl
    obtain ⟨h1, h2, h3⟩ := evL_get l i hi
    have e1 := hc _ _ h1
    have e2 := hc _ _ h2
    have e3 := hc _ _ h3
    have hadd : ∀ n, (⟨g, 0, none⟩ : Addr).add n = ⟨g, 0 + n, none⟩ := by intro n; unfold Addr.add; split <;> simp_all
    rw [hadd] at e1 e2 e3
    exact ⟨e1, e2, e3⟩
theorem intS_own {w : World} {base : Nat} {e : TypeId} {v : Value} {l : List Int} (h : w.ownsRow base e 1 v l.length (l.map fun n => Value.int .i64 n)) (hb : l.length < 4611686018427387904) : ∃ a c, v = .slice a l.length c ∧ IntS w a l ∧ (∀ k, v.ownBlock = some k → base ≤ k) := by
  have hlt := h.lt
  rcases h.2 with ⟨rfl, hn⟩ | ⟨g, cap, cur, rfl, hg, hh, _⟩
  · exact ⟨none, 0, by rw [hn], ⟨hb, .inl (List.eq_nil_of_length_eq_zero hn)⟩, fun k hk => (hlt k hk).1⟩
  · refine ⟨_, _, rfl, ⟨hb, .inr ⟨g, 0, rfl, fun i hi => ?_⟩⟩, fun k hk => (hlt k hk).1⟩
    have e1 := h.cells (g := g) rfl i (.int .i64 l[i]) (by simp [hi])
    have hadd : ∀ n, (⟨g, 0, none⟩ : Addr).add n = ⟨g, 0 + n, none⟩ := by intro n; unfold Addr.add; split <;> simp_all
    rw [hadd] at e1
    exact e1
/-- A row that is wholly full is owned. -/
theorem own_full {w : World} {base e : Nat} {size n : Nat} {cs : Array Value} {g : Nat} (h : Has w g cs e) (hb : base ≤ g) (hs : cs.size = n * size) (hn : n ≤ maxLen) : w.ownsRow base e size (.slice (some ⟨g, 0, none⟩) n n) n cs.toList :=
  ⟨by simpa using hs, .inr ⟨g, n, cs, rfl, hb, h.out, Nat.le_refl _, hn, hs, by rw [List.take_of_length_le (by simp [hs])]⟩⟩


/-- The trace of the closed facts. -/
def twoL : List Ev := [⟨5, 0, 1⟩, ⟨2, 0, 0⟩, ⟨2, 1, 0⟩]
theorem infoI : (Tryz.prog.info? 3).map (fun i => (i.zero, i.size, i.bytes)) = some (some (.int .i64 0), 1, 8) := by kernel_rfl

/-- A slice of ints that is wholly full reads as its list. -/
theorem intS_full {w : World} {g : Nat} {cs : Array Value} {l : List Int} {e : TypeId} (h : Has w g cs e) (hc : cs = (ints l).toArray) (hb : l.length < 4611686018427387904) : IntS w (some ⟨g, 0, none⟩) l :=
  ⟨hb, .inr ⟨g, 0, rfl, fun i hi => by rw [Nat.zero_add]; exact h.cell (by subst hc; simp [hi])⟩⟩
theorem evS_full {w : World} {g : Nat} {cs : Array Value} {l : List Ev} {e : TypeId} (h : Has w g cs e) (hc : cs = (evL l).toArray) (hb : l.length < 4611686018427387904) : EvS w (some ⟨g, 0, none⟩) l :=
  ⟨hb, .inr ⟨g, 0, rfl, fun i hi => by
    obtain ⟨h1, h2, h3⟩ := evL_get l i hi
    subst hc
    rw [Nat.zero_add]
    exact ⟨h.cell (by simpa using h1), h.cell (by simpa using h2), h.cell (by simpa using h3)⟩⟩⟩
theorem infoE : (Tryz.prog.info? 55).map (fun i => (i.zero, i.size, i.bytes)) = some (some (evV ⟨0, 0, 0⟩), 3, 24) := by kernel_rfl

theorem EvS.take {w : World} {a : Option Addr} {l : List Ev} (h : EvS w a l) (n : Nat) : EvS w a (l.take n) := by
  refine ⟨by have := h.big; simp; omega, ?_⟩
  rcases h.ok with h0 | ⟨b, o, ha, hc⟩
  · left; simp [h0]
  · right
    refine ⟨b, o, ha, fun i hi => ?_⟩
    rw [List.getElem_take]
    exact hc i (by simp at hi; omega)
theorem check_n (l : List Ev) (n : Nat) (hn : l.length = n) (a : Option Addr) (c : Nat) (w : World) (h : EvS w a l) :
    Calls Tryz.prog 30 #[.slice a n c] w fun r w' => r = .returned (.tuple #[.int .i64 (played l).2.1, .int .i64 (played l).2.2]) ∧ Below w.heap.size w w' := by
  subst hn; exact check_any l a c w h
end Go.Proofs.YtfjbnhacfficnaaGreatDoor

/- append onto a row that the call made, the source whatever it is (nil, empty, a row): run, in a plain region, in a region that draws. -/
namespace Go.Proofs.YtfjbnhacfficnaaGreatDoor
open Go.RowKit

/-- A source: m elements of 'size' cells, read at the slice's address. -/
structure Src (w : World) (size : Nat) (A : Option Addr) (m : Nat) (news : List Value) : Prop where
  len : news.length = m * size
  ok : news = [] ∧ m = 0 ∨ ∃ ad, A = some ad ∧ ∀ j u, news[j]? = some u → w.cell? (ad.add j) = some u
theorem Src.below {w w' : World} {size m : Nat} {A : Option Addr} {news : List Value} (h : Src w size A m news) (k : Below w.heap.size w w') : Src w' size A m news := by
  refine ⟨h.len, ?_⟩
  rcases h.ok with h0 | ⟨ad, ha, hc⟩
  · exact .inl h0
  · exact .inr ⟨ad, ha, fun j u hu => (k.cell (World.block_lt_of_cell? w _ (hc j u hu))).trans (hc j u hu)⟩

/-- What append leaves: the row owned, longer; only that row and new blocks are touched. -/
structure Appended (w w' : World) (base e size : Nat) (v v' : Value) (n : Nat) (xs : List Value) : Prop where
  own : w'.ownsRow base e size v' n xs
  grown : w.grownBy w' v.ownBlock
  lies : v'.ownBlock = v.ownBlock ∨ v'.ownBlock = some w.heap.size

section
variable {P : Program} (w : World)
theorem app_run {base : Nat} {t ty e : TypeId} {i : TypeInfo} {z : Value} {size bytes : Nat} (ht : P.underlying t = some (.slice e)) (hi : P.info? e = some i) (hz : i.zero = some z)
    (hsize : i.size = size) (hby : i.bytes = bytes) (hzs : z.cells.size = size) (hsz : 0 < size)
    {v : Value} {n : Nat} {xs : List Value} (hown : w.ownsRow base e size v n xs) {A : Option Addr} {m c : Nat} {news : List Value} (hs : Src w size A m news) (h1 : ∀ u ∈ news, u.oneCell' = true)
    (h63 : n + m ≤ maxLen) (hbytes : (n + m) * bytes ≤ 140737488355328) (hbase : base ≤ w.heap.size) :
    ∃ v' w', (Builtin.append_ #[t, t] ty #[v, .slice A m c]).run P w = .ok v' w' ∧ Appended w w' base e size v v' (n + m) (xs ++ news) := by
  rcases hs.ok with ⟨rfl, rfl⟩ | ⟨ad, rfl, hc⟩
  · rcases A with _ | ad
    · refine ⟨v, w, ?_, by simpa using hown, World.grownBy.refl w _, .inl rfl⟩
      rcases hown.2 with ⟨rfl, rfl⟩ | ⟨g, cap, cur, rfl, _, _, hnc, _⟩
      · simp [Builtin.append_, run_underlying ht, sizeOf, typeInfo, hi, Builtin.lenOf, Builtin.firstCells]
      · simp [Builtin.append_, run_underlying ht, sizeOf, typeInfo, hi, Builtin.lenOf, Builtin.firstCells, hnc, storeCells]
    · obtain ⟨v', w', r, a, b, _, d⟩ := run_append_own_at (P := P) w base t ty e i z size bytes ht hi hz hsize hby hzs hsz v n xs hown ad 0 c [] (by simp) (by simp) (by simp) h63 hbytes hbase
      exact ⟨v', w', r, a, b, d⟩
  · obtain ⟨v', w', r, a, b, _, d⟩ := run_append_own_at (P := P) w base t ty e i z size bytes ht hi hz hsize hby hzs hsz v n xs hown ad m c news hs.len hc h1 h63 hbytes hbase
    exact ⟨v', w', r, a, b, d⟩

theorem app_wp {o : Oper} {a : Act} {K : Act → World → Prop} {Q : Exit → Act → World → Prop} (s x : Operand) (t : TypeId) (ho : o.op = .call { callee := .builtin .append, args := #[s, x], argTypes := #[t, t] })
    {base : Nat} {e : TypeId} {i : TypeInfo} {z : Value} {size bytes : Nat} (ht : P.underlying t = some (.slice e)) (hi : P.info? e = some i) (hz : i.zero = some z)
    (hsize : i.size = size) (hby : i.bytes = bytes) (hzs : z.cells.size = size) (hsz : 0 < size)
    {v : Value} {n : Nat} {xs : List Value} (hv : a.eval s = v) (hown : w.ownsRow base e size v n xs) {A : Option Addr} {m c : Nat} {news : List Value} (hx : a.eval x = .slice A m c) (hs : Src w size A m news) (h1 : ∀ u ∈ news, u.oneCell' = true)
    (h63 : n + m ≤ maxLen) (hbytes : (n + m) * bytes ≤ 140737488355328) (hbase : base ≤ w.heap.size)
    (h : ∀ v' w', Appended w w' base e size v v' (n + m) (xs ++ news) → K (a.put o.dst v') w') : o.wp P a w K Q := by
  obtain ⟨v', w', hrun, hA⟩ := app_run (P := P) (ty := o.type) w ht hi hz hsize hby hzs hsz hown (c := c) hs h1 h63 hbytes hbase
  unfold Oper.wp execOp
  simp only [ho, resolve, invoke, builtin, Sem.run_bind, Sem.run_pure, Result.andThen_ok, List.map_toArray, List.map_cons, List.map_nil, hv, hx, hrun]
  exact h v' w' hA

/-- In a plain region: behind 'at_builtin'. -/
theorem app_list {ops : Array Oper} {rest : List Oper} {o : Oper} {a : Act} {Q : Exit → Act → World → Prop} (hgd : o.guard = none) (s x : Operand) (t : TypeId) (ho : o.op = .call { callee := .builtin .append, args := #[s, x], argTypes := #[t, t] })
    {base : Nat} {e : TypeId} {i : TypeInfo} {z : Value} {size bytes : Nat} (ht : P.underlying t = some (.slice e)) (hi : P.info? e = some i) (hz : i.zero = some z)
    (hsize : i.size = size) (hby : i.bytes = bytes) (hzs : z.cells.size = size) (hsz : 0 < size)
    {v : Value} {n : Nat} {xs : List Value} (hv : a.eval s = v) (hown : w.ownsRow base e size v n xs) {A : Option Addr} {m c : Nat} {news : List Value} (hx : a.eval x = .slice A m c) (hs : Src w size A m news) (h1 : ∀ u ∈ news, u.oneCell' = true)
    (h63 : n + m ≤ maxLen) (hbytes : (n + m) * bytes ≤ 140737488355328) (hbase : base ≤ w.heap.size)
    (h : ∀ v' w', Appended w w' base e size v v' (n + m) (xs ++ news) → wpList P ops Q rest (a.put o.dst v') w') : wpList P ops Q (o :: rest) a w :=
  wpList_plain hgd fun _ hK => app_wp w s x t ho ht hi hz hsize hby hzs hsz hv hown hx hs h1 h63 hbytes hbase fun v' w' hA => hK _ _ (h v' w' hA)

/-- In a region that draws. -/
theorem app_step {ops : Array Oper} {o : Oper} {a : Act} {K : Act → World → Prop} {Q : Exit → Act → World → Prop} {E : Prop} (hgd : o.guard = none) (s x : Operand) (t : TypeId) (ho : o.op = .call { callee := .builtin .append, args := #[s, x], argTypes := #[t, t] })
    {base : Nat} {e : TypeId} {i : TypeInfo} {z : Value} {size bytes : Nat} (ht : P.underlying t = some (.slice e)) (hi : P.info? e = some i) (hz : i.zero = some z)
    (hsize : i.size = size) (hby : i.bytes = bytes) (hzs : z.cells.size = size) (hsz : 0 < size)
    {v : Value} {n : Nat} {xs : List Value} (hv : a.eval s = v) (hown : w.ownsRow base e size v n xs) {A : Option Addr} {m c : Nat} {news : List Value} (hx : a.eval x = .slice A m c) (hs : Src w size A m news) (h1 : ∀ u ∈ news, u.oneCell' = true)
    (h63 : n + m ≤ maxLen) (hbytes : (n + m) * bytes ≤ 140737488355328) (hbase : base ≤ w.heap.size)
    (h : ∀ v' w', Appended w w' base e size v v' (n + m) (xs ++ news) → K (a.put o.dst v') w') :
    if Region.wanted o (yielded ops a.tmps) = true then Oper.wp P o a w K Q else E := by
  have hw : Region.wanted o (yielded ops a.tmps) = true := by simp [Region.wanted, hgd]
  rw [if_pos hw]
  exact app_wp w s x t ho ht hi hz hsize hby hzs hsz hv hown hx hs h1 h63 hbytes hbase h
end
theorem own_below {w w' : World} {base e size : Nat} {v : Value} {n : Nat} {xs : List Value} (h : w.ownsRow base e size v n xs) (k : Below w.heap.size w w') : w'.ownsRow base e size v n xs :=
  h.kept (row := none) ⟨k.os, k.tape, k.output, k.size, fun j hj _ => k.block j hj⟩ (by cases v.ownBlock <;> simp)
/-- The row's own block is one of the call's. -/
theorem Appended.below {w0 w w' : World} {base e size : Nat} {v v' : Value} {n n' : Nat} {xs ys : List Value} (h : Appended w w' base e size v v' n xs) (ho : w.ownsRow base e size v n' ys) (hb : Below base w0 w) (hbase : base ≤ w.heap.size) : Below base w0 w' :=
  hb.grown h.grown hbase fun k hk => (ho.lt k hk).1
end Go.Proofs.YtfjbnhacfficnaaGreatDoor

/- Slices of events as sources of an append; what an append of events leaves. -/
namespace Go.Proofs.YtfjbnhacfficnaaGreatDoor
open Go.RowKit

theorem EvS.src {w : World} {a : Option Addr} {l : List Ev} (h : EvS w a l) : Src w 3 a l.length (evL l) := by
  refine ⟨evL_length l, ?_⟩
  rcases h.ok with rfl | ⟨b, o, ha, hc⟩
  · exact .inl ⟨rfl, rfl⟩
  · right
    refine ⟨_, ha, fun j u hu => ?_⟩
    have hj : j < l.length * 3 := by rw [← evL_length]; exact (List.getElem?_eq_some_iff.1 hu).1
    have hi : j / 3 < l.length := by omega
    obtain ⟨h1, h2, h3⟩ := evL_get l (j / 3) hi
    obtain ⟨c1, c2, c3⟩ := hc (j / 3) hi
    have hadd : (⟨b, o, none⟩ : Addr).add j = ⟨b, o + j, none⟩ := by unfold Addr.add; split <;> simp_all
    rw [hadd]
    rcases (by omega : j = j / 3 * 3 ∨ j = j / 3 * 3 + 1 ∨ j = j / 3 * 3 + 2) with e | e | e
    · rw [e] at hu ⊢; rw [h1] at hu; rw [← Option.some.inj hu]; rw [← e] at c1 ⊢; exact c1
    · rw [e] at hu ⊢; rw [h2] at hu; rw [← Option.some.inj hu]; exact c2
    · rw [e] at hu ⊢; rw [h3] at hu; rw [← Option.some.inj hu]; exact c3
theorem evL_one (l : List Ev) : ∀ u ∈ evL l, u.oneCell' = true := by
  intro u hu
  simp only [evL, List.mem_flatMap] at hu
  obtain ⟨e, _, he⟩ := hu
  simp at he
  rcases he with rfl | rfl | rfl <;> rfl
theorem EvS.drop {w : World} {b o : Nat} {l : List Ev} (h : EvS w (some ⟨b, o, none⟩) l) (n : Nat) : EvS w (some ⟨b, o + n * 3, none⟩) (l.drop n) := by
  refine ⟨by have := h.big; simp; omega, ?_⟩
  rcases h.ok with h0 | ⟨b', o', ha, hc⟩
  · left; simp [h0]
  · right
    cases ha
    refine ⟨b, o + n * 3, rfl, fun i hi => ?_⟩
    rw [List.getElem_drop]
    have := hc (n + i) (by simp at hi; omega)
    rw [show o + n * 3 + i * 3 = o + (n + i) * 3 by omega]
    exact this
theorem EvS.drew {w : World} {a : Option Addr} {l : List Ev} (h : EvS w a l) : EvS w.drew a l := h.below (Below.refl _ _).drew
/-- The tail of a slice, as the model cuts it. -/
theorem EvS.tail {w : World} {b o : Nat} {l : List Ev} (h : EvS w (some ⟨b, o, none⟩) l) (n c : Nat) (hc : l.length ≤ c) : EvS w (if c = n then some ⟨b, o, none⟩ else some ⟨b, o + n * 3, none⟩) (l.drop n) := by
  split
  · rename_i e
    have : l.drop n = [] := List.drop_eq_nil_of_le (by omega)
    rw [this]
    exact ⟨by simp, .inl rfl⟩
  · exact h.drop n
/-- Nothing that was there is touched by an append onto nil. -/
theorem Appended.fresh {w w' : World} {base e size : Nat} {v' : Value} {n : Nat} {xs : List Value} (h : Appended w w' base e size (.slice none 0 0) v' n xs) : Below w.heap.size w w' :=
  (Below.refl _ _).grown h.grown (Nat.le_refl _) (fun k hk => by simp [Value.ownBlock] at hk)
theorem Appended.fresh2 {w w1 w2 : World} {base e size : Nat} {v1 v2 : Value} {n n' : Nat} {xs ys : List Value} (h : Appended w w1 base e size (.slice none 0 0) v1 n xs) (h2 : Appended w1 w2 base e size v1 v2 n' ys) : Below w.heap.size w w2 :=
  h.fresh.grown h2.grown h.fresh.size (fun k hk => by
    rcases h.lies with e | e <;> rw [e] at hk
    · simp [Value.ownBlock] at hk
    · rw [← Option.some.inj hk]; exact Nat.le_refl _)
/-- A slice of events that an append left. -/
theorem Appended.evs {w0 w : World} {base e : Nat} {v v' : Value} {n : Nat} {l : List Ev} {xs : List Value} (h : Appended w0 w base e 3 v v' n xs) (hx : xs = evL l) (hn : n = l.length) (hb : l.length < 4611686018427387904) :
    ∃ a c, v' = .slice a l.length c ∧ EvS w a l := by
  have ho := h.own
  rw [hx, hn] at ho
  obtain ⟨a, c, h1, h2, _⟩ := evS_own ho hb
  exact ⟨a, c, h1, h2⟩
end Go.Proofs.YtfjbnhacfficnaaGreatDoor

/- A slice of events at a place. No program. -/
namespace Go.Proofs.YtfjbnhacfficnaaGreatDoor
theorem EvS.at {w : World} {a : Option Addr} {l : List Ev} (h : EvS w a l) {i : Nat} (hi : i < l.length) : ∃ b o, a = some ⟨b, o, none⟩ ∧ w.cell? ⟨b, o + i * 3, none⟩ = some (.int .i64 l[i].k) ∧ w.cell? ⟨b, o + i * 3 + 1, none⟩ = some (.int .i64 l[i].t) ∧ w.cell? ⟨b, o + i * 3 + 2, none⟩ = some (.int .i64 l[i].o) := by
  rcases h.ok with h0 | ⟨b, o, ha, hc⟩
  · simp [h0] at hi
  · exact ⟨b, o, ha, hc i hi⟩
end Go.Proofs.YtfjbnhacfficnaaGreatDoor

/- Slices of pairs; lists of pairs of places. No program but the pair's type. -/
namespace Go.Proofs.YtfjbnhacfficnaaGreatDoor
open Go.RowKit

abbrev prC (p : Int × Int) : Array Value := #[.int .i64 p.1, .int .i64 p.2]
abbrev prV (p : Int × Int) : Value := .agg (prC p)
def prL (l : List (Int × Int)) : List Value := l.flatMap fun p => [.int .i64 p.1, .int .i64 p.2]
theorem prL_append (l m : List (Int × Int)) : prL (l ++ m) = prL l ++ prL m := by simp [prL]
theorem prL_length (l : List (Int × Int)) : (prL l).length = l.length * 2 := by
  induction l with
  | nil => rfl
  | cons e l ih => simp [prL] at *; omega
theorem prL_get (l : List (Int × Int)) : ∀ (i : Nat) (h : i < l.length), (prL l)[i * 2]? = some (.int .i64 l[i].1) ∧ (prL l)[i * 2 + 1]? = some (.int .i64 l[i].2) := by
  induction l with
  | nil => intro i h; simp at h
  | cons e l ih =>
    intro i h
    have hc : prL (e :: l) = .int .i64 e.1 :: .int .i64 e.2 :: prL l := rfl
    cases i with
    | zero => simp [hc]
    | succ i =>
      obtain ⟨h1, h2⟩ := ih i (by simpa using h)
      rw [hc, show (i + 1) * 2 = i * 2 + 1 + 1 by omega]
      simp only [List.getElem?_cons_succ, List.getElem_cons_succ]
      exact ⟨h1, h2⟩
theorem prL_one (l : List (Int × Int)) : ∀ u ∈ prL l, u.oneCell' = true := by
  intro u hu
  simp only [prL, List.mem_flatMap] at hu
  obtain ⟨e, _, he⟩ := hu
  simp at he
  rcases he with rfl | rfl <;> rfl
/-- A slice of pairs: its elements read as a list. -/
structure PrS (w : World) (a : Option Addr) (l : List (Int × Int)) : Prop where
  big : l.length < 4611686018427387904
  ok : l = [] ∨ ∃ b o, a = some ⟨b, o, none⟩ ∧ ∀ i (h : i < l.length), w.cell? ⟨b, o + i * 2, none⟩ = some (.int .i64 l[i].1) ∧ w.cell? ⟨b, o + i * 2 + 1, none⟩ = some (.int .i64 l[i].2)
theorem PrS.below {w w' : World} {a : Option Addr} {l : List (Int × Int)} (h : PrS w a l) (k : Below w.heap.size w w') : PrS w' a l := by
  refine ⟨h.big, ?_⟩
  rcases h.ok with h0 | ⟨b, o, ha, hc⟩
  · exact .inl h0
  · refine .inr ⟨b, o, ha, fun i hi => ?_⟩
    obtain ⟨h1, h2⟩ := hc i hi
    exact ⟨(k.cell (World.block_lt_of_cell? w _ h1)).trans h1, (k.cell (World.block_lt_of_cell? w _ h2)).trans h2⟩
theorem PrS.at {w : World} {a : Option Addr} {l : List (Int × Int)} (h : PrS w a l) {i : Nat} (hi : i < l.length) : ∃ b o, a = some ⟨b, o, none⟩ ∧ w.cell? ⟨b, o + i * 2, none⟩ = some (.int .i64 l[i].1) ∧ w.cell? ⟨b, o + i * 2 + 1, none⟩ = some (.int .i64 l[i].2) := by
  rcases h.ok with h0 | ⟨b, o, ha, hc⟩
  · simp [h0] at hi
  · exact ⟨b, o, ha, hc i hi⟩
theorem prS_own {w : World} {base : Nat} {e : TypeId} {v : Value} {l : List (Int × Int)} (h : w.ownsRow base e 2 v l.length (prL l)) (hb : l.length < 4611686018427387904) : ∃ a c, v = .slice a l.length c ∧ PrS w a l := by
  rcases h.2 with ⟨rfl, hn⟩ | ⟨g, cap, cur, rfl, hg, hh, _⟩
  · exact ⟨none, 0, by rw [hn], ⟨hb, .inl (List.eq_nil_of_length_eq_zero hn)⟩⟩
  · refine ⟨_, _, rfl, ⟨hb, .inr ⟨g, 0, rfl, fun i hi => ?_⟩⟩⟩
    have hc := h.cells (g := g) rfl
    obtain ⟨h1, h2⟩ := prL_get l i hi
    have e1 := hc _ _ h1
    have e2 := hc _ _ h2
    have hadd : ∀ n, (⟨g, 0, none⟩ : Addr).add n = ⟨g, 0 + n, none⟩ := by intro n; unfold Addr.add; split <;> simp_all
    rw [hadd] at e1 e2
    exact ⟨e1, e2⟩
theorem prS_full {w : World} {g : Nat} {cs : Array Value} {l : List (Int × Int)} {e : TypeId} (h : Has w g cs e) (hc : cs = (prL l).toArray) (hb : l.length < 4611686018427387904) : PrS w (some ⟨g, 0, none⟩) l :=
  ⟨hb, .inr ⟨g, 0, rfl, fun i hi => by
    obtain ⟨h1, h2⟩ := prL_get l i hi
    subst hc
    rw [Nat.zero_add]
    exact ⟨h.cell (by simpa using h1), h.cell (by simpa using h2)⟩⟩⟩

/-- The pairs with first place i and a second one below j; with a first place below i. -/
def rowP (H : Nat → Nat → Bool) (i j : Nat) : List (Int × Int) := ((List.range j).filter fun k => decide (i < k) && H i k).map fun k : Nat => ((i : Int), (k : Int))
def allP (H : Nat → Nat → Bool) (n i : Nat) : List (Int × Int) := (List.range i).flatMap fun a => rowP H a n
theorem rowP_start (H : Nat → Nat → Bool) (i : Nat) : rowP H i (i + 1) = [] := by
  simp [rowP, List.filter_eq_nil_iff]
  intro a ha h; omega
theorem rowP_yes (H : Nat → Nat → Bool) (i j : Nat) (h : i < j) (hH : H i j = true) : rowP H i (j + 1) = rowP H i j ++ [((i : Int), (j : Int))] := by
  simp [rowP, List.range_succ, List.filter_append, h, hH]
theorem rowP_no (H : Nat → Nat → Bool) (i j : Nat) (hH : H i j = false) : rowP H i (j + 1) = rowP H i j := by
  simp [rowP, List.range_succ, List.filter_append, hH]
theorem allP_succ (H : Nat → Nat → Bool) (n i : Nat) : allP H n (i + 1) = allP H n i ++ rowP H i n := by
  simp [allP, List.range_succ]
theorem rowP_len (H : Nat → Nat → Bool) (i j : Nat) : (rowP H i j).length ≤ j := by
  simpa [rowP] using List.length_filter_le (fun k => decide (i < k) && H i k) (List.range j)
theorem allP_len (H : Nat → Nat → Bool) (n : Nat) : ∀ i, (allP H n i).length ≤ i * n
  | 0 => by simp [allP]
  | i + 1 => by
    rw [allP_succ, List.length_append, Nat.succ_mul]
    have := allP_len H n i
    have := rowP_len H i n
    omega
theorem mem_allP {H : Nat → Nat → Bool} {n : Nat} {p : Int × Int} : p ∈ allP H n n ↔ ∃ i j : Nat, p = ((i : Int), (j : Int)) ∧ i < j ∧ j < n ∧ H i j = true := by
  simp only [allP, List.mem_flatMap, List.mem_range, rowP, List.mem_map, List.mem_filter, Bool.and_eq_true, decide_eq_true_eq]
  constructor
  · rintro ⟨a, ha, k, ⟨h1, h2, h3⟩, rfl⟩
    exact ⟨a, k, rfl, h2, h1, h3⟩
  · rintro ⟨i, j, rfl, h1, h2, h3⟩
    exact ⟨i, by omega, j, ⟨h2, h1, h3⟩, rfl⟩
end Go.Proofs.YtfjbnhacfficnaaGreatDoor

/- Two rows of the call's own that lie apart; what is kept of a slice's first places. -/
namespace Go.Proofs.YtfjbnhacfficnaaGreatDoor
open Go.RowKit

/-- Two rows of the call's own that lie apart. -/
def Dis (v u : Value) : Prop := v.ownBlock = none ∨ v.ownBlock ≠ u.ownBlock
theorem Dis.symm {v u : Value} (h : Dis v u) : Dis u v := by
  rcases h with h | h
  · by_cases e : u.ownBlock = none
    · exact .inl e
    · exact .inr (by rw [h]; exact e)
  · exact .inr (Ne.symm h)
theorem Dis.app {w w' : World} {base e size n base2 e2 size2 m : Nat} {v v' u : Value} {xs ys : List Value} (hd : Dis v u) (h : Appended w w' base e size v v' n xs) (hu : w.ownsRow base2 e2 size2 u m ys) : Dis v' u ∧ w'.ownsRow base2 e2 size2 u m ys := by
  constructor
  · rcases h.lies with h1 | h1
    · rw [Dis, h1]; exact hd
    · right
      rw [h1]
      intro e
      have := (hu.lt _ e.symm).2
      omega
  · refine hu.kept h.grown ?_
    rcases hd with h1 | h1
    · by_cases e : u.ownBlock = none
      · exact .inl e
      · exact .inr (by rw [h1]; exact e)
    · exact .inr (Ne.symm h1)
def fK (p : Ev → Bool) (l : List Ev) (k : Nat) : List Ev := (l.take k).filter p
theorem fK_yes {p : Ev → Bool} {l : List Ev} {k : Nat} (hk : k < l.length) (h : p l[k] = true) : fK p l (k + 1) = fK p l k ++ [l[k]] := by
  unfold fK
  rw [List.take_add_one, List.getElem?_eq_getElem hk, Option.toList_some, List.filter_append]
  simp [h]
theorem fK_no {p : Ev → Bool} {l : List Ev} {k : Nat} (hk : k < l.length) (h : p l[k] = false) : fK p l (k + 1) = fK p l k := by
  unfold fK
  rw [List.take_add_one, List.getElem?_eq_getElem hk, Option.toList_some, List.filter_append]
  simp [h]
theorem fK_len (p : Ev → Bool) (l : List Ev) (k : Nat) : (fK p l k).length ≤ l.length := by
  unfold fK
  have h1 := List.length_filter_le p (l.take k)
  have h2 : (l.take k).length ≤ l.length := by simp; omega
  omega
theorem fK_mem {p : Ev → Bool} {l : List Ev} {k : Nat} {e : Ev} (h : e ∈ fK p l k) : p e = true := (List.mem_filter.1 h).2
theorem fK_all (p : Ev → Bool) (l : List Ev) : fK p l l.length = l.filter p := by unfold fK; rw [List.take_length]
theorem evL_set (l : List Ev) : ∀ {i : Nat} (hi : i < l.length) (x : Int), (evL l).set (i * 3) (.int .i64 x) = evL (l.set i ⟨x, l[i].t, l[i].o⟩) := by
  induction l with
  | nil => intro i hi; simp at hi
  | cons e l ih =>
    intro i hi x
    cases i with
    | zero => simp [evL]
    | succ i =>
      have := ih (i := i) (by simpa using hi) x
      rw [show (i + 1) * 3 = i * 3 + 1 + 1 + 1 by omega]
      simp only [evL, List.flatMap_cons, List.cons_append, List.nil_append, List.set_cons_succ, List.getElem_cons_succ] at this ⊢
      rw [this]
/-- A row of the call's own, to be written to. -/
def RowO (w : World) (e : TypeId) (a : Option Addr) (l : List Ev) : Prop := l = [] ∨ ∃ g cur, a = some ⟨g, 0, none⟩ ∧ Has w g cur e ∧ cur.toList.take (l.length * 3) = evL l
theorem RowO.of_own {w : World} {base : Nat} {e : TypeId} {v : Value} {l : List Ev} (h : w.ownsRow base e 3 v l.length (evL l)) : ∃ a c, v = .slice a l.length c ∧ RowO w e a l ∧ ∀ g, a = some ⟨g, 0, none⟩ → base ≤ g := by
  rcases h.2 with ⟨rfl, hn⟩ | ⟨g, cap, cur, rfl, hg, hh, _, _, _, ht⟩
  · exact ⟨none, 0, by rw [hn], .inl (List.eq_nil_of_length_eq_zero hn), fun g e => by cases e⟩
  · exact ⟨_, _, rfl, .inr ⟨g, cur, rfl, ⟨hh⟩, ht⟩, fun g' e => by cases e; exact hg⟩
theorem RowO.below {w w' : World} {e : TypeId} {a : Option Addr} {l : List Ev} (h : RowO w e a l) (k : Below w.heap.size w w') : RowO w' e a l := by
  rcases h with h | ⟨g, cur, ha, hh, ht⟩
  · exact .inl h
  · exact .inr ⟨g, cur, ha, hh.below k hh.lt, ht⟩
theorem RowO.evs {w : World} {e : TypeId} {a : Option Addr} {l : List Ev} (h : RowO w e a l) (hb : l.length < 4611686018427387904) : EvS w a l := by
  refine ⟨hb, ?_⟩
  rcases h with h | ⟨g, cur, rfl, hh, ht⟩
  · exact .inl h
  · refine .inr ⟨g, 0, rfl, fun i hi => ?_⟩
    obtain ⟨h1, h2, h3⟩ := evL_get l i hi
    have hc : ∀ j v, j < l.length * 3 → (evL l)[j]? = some v → w.cell? ⟨g, 0 + j, none⟩ = some v := by
      intro j v hj hv
      rw [Nat.zero_add]
      refine hh.cell ?_
      rw [← ht, List.getElem?_take_of_lt hj] at hv
      simpa using hv
    refine ⟨hc _ _ (by omega) h1, ?_, ?_⟩
    · have := hc (i * 3 + 1) _ (by omega) h2; simpa [Nat.add_assoc] using this
    · have := hc (i * 3 + 2) _ (by omega) h3; simpa [Nat.add_assoc] using this
theorem RowO.set {w : World} {e : TypeId} {g : Nat} {l : List Ev} (h : RowO w e (some ⟨g, 0, none⟩) l) {i : Nat} (hi : i < l.length) (x : Int) :
    RowO (w.setCell ⟨g, i * 3, none⟩ (.int .i64 x)) e (some ⟨g, 0, none⟩) (l.set i ⟨x, l[i].t, l[i].o⟩) := by
  rcases h with h | ⟨g', cur, ha, hh, ht⟩
  · subst h; simp at hi
  · cases ha
    refine .inr ⟨g, _, rfl, hh.setCell (i * 3) _, ?_⟩
    rw [List.length_set, ← evL_set l hi x, ← ht, Array.toList_setIfInBounds, List.take_set]
theorem evL_set3 (l : List Ev) : ∀ {i : Nat} (_ : i < l.length) (x : Ev), (((evL l).set (i * 3) (.int .i64 x.k)).set (i * 3 + 1) (.int .i64 x.t)).set (i * 3 + 2) (.int .i64 x.o) = evL (l.set i x) := by
  induction l with
  | nil => intro i hi; simp at hi
  | cons e l ih =>
    intro i hi x
    cases i with
    | zero => simp [evL]
    | succ i =>
      have := ih (i := i) (by simpa using hi) x
      rw [show (i + 1) * 3 = i * 3 + 1 + 1 + 1 by omega, show i * 3 + 1 + 1 + 1 + 1 = (i * 3 + 1) + 1 + 1 + 1 by omega, show i * 3 + 1 + 1 + 1 + 2 = (i * 3 + 2) + 1 + 1 + 1 by omega]
      simp only [evL, List.flatMap_cons, List.cons_append, List.nil_append, List.set_cons_succ] at this ⊢
      rw [this]
theorem RowO.setEv {w : World} {e : TypeId} {g : Nat} {l : List Ev} (h : RowO w e (some ⟨g, 0, none⟩) l) {i : Nat} (hi : i < l.length) (x : Ev) :
    RowO (((w.setCell ⟨g, i * 3, none⟩ (.int .i64 x.k)).setCell ⟨g, i * 3 + 1, none⟩ (.int .i64 x.t)).setCell ⟨g, i * 3 + 2, none⟩ (.int .i64 x.o)) e (some ⟨g, 0, none⟩) (l.set i x) := by
  rcases h with h | ⟨g', cur, ha, hh, ht⟩
  · subst h; simp at hi
  · cases ha
    refine .inr ⟨g, _, rfl, ((hh.setCell (i * 3) _).setCell (i * 3 + 1) _).setCell (i * 3 + 2) _, ?_⟩
    rw [List.length_set, ← evL_set3 l hi x, ← ht, Array.toList_setIfInBounds, Array.toList_setIfInBounds, Array.toList_setIfInBounds, List.take_set, List.take_set, List.take_set]
theorem RowO.free {w : World} {e : TypeId} {g : Nat} {l : List Ev} (h : RowO w e (some ⟨g, 0, none⟩) l) (hl : l ≠ []) (i : Nat) : w.frozen? ⟨g, i, none⟩ = false := by
  rcases h with h | ⟨g', cur, ha, hh, ht⟩
  · exact absurd h hl
  · cases ha; exact hh.free i
theorem EvS.setFar {w : World} {a : Option Addr} {l : List Ev} (h : EvS w a l) {p : Addr} (hp : ∀ g o, a = some ⟨g, o, none⟩ → p.block ≠ g) (v : Value) : EvS (w.setCell p v) a l := by
  refine ⟨h.big, ?_⟩
  rcases h.ok with h0 | ⟨b, o, ha, hc⟩
  · exact .inl h0
  · have hne := hp b o ha
    have hk : ∀ j, (w.setCell p v).cell? ⟨b, j, none⟩ = w.cell? ⟨b, j, none⟩ := fun j => World.cell?_setCell_other w p _ v (fun e => hne (by rw [e]))
    exact .inr ⟨b, o, ha, fun i hi => by rw [hk, hk, hk]; exact hc i hi⟩
theorem IntS.setFar {w : World} {a : Option Addr} {l : List Int} (h : IntS w a l) {p : Addr} (hp : ∀ g o, a = some ⟨g, o, none⟩ → p.block ≠ g) (v : Value) : IntS (w.setCell p v) a l := by
  refine ⟨h.big, ?_⟩
  rcases h.ok with h0 | ⟨b, o, ha, hc⟩
  · exact .inl h0
  · have hne := hp b o ha
    have hk : ∀ j, (w.setCell p v).cell? ⟨b, j, none⟩ = w.cell? ⟨b, j, none⟩ := fun j => World.cell?_setCell_other w p _ v (fun e => hne (by rw [e]))
    exact .inr ⟨b, o, ha, fun i hi => by rw [hk]; exact hc i hi⟩
end Go.Proofs.YtfjbnhacfficnaaGreatDoor

/- Contracts: Clone of events whatever the slice; Delete of one event out of an own row (where package swap is not reached). -/
namespace Go.Proofs.YtfjbnhacfficnaaGreatDoor
open Go.RowKit

theorem erase_len {l : List Ev} {b : Nat} (h : b < l.length) : (l.eraseIdx b).length = l.length - 1 := by
  rw [List.length_eraseIdx, if_pos h]
theorem nil_ev (b o n c : Nat) (w : World) : (binOp .eql 29 (.slice (some ⟨b, o, none⟩) n c) (.slice none 0 0)).run Tryz.prog w = .ok (.bool false) w := by kernel_rfl
/-- A copy. -/
def ClonePost (l : List Ev) (w : World) (r : Ending) (w' : World) : Prop := ∃ v, r = .returned v ∧ w'.ownsRow w.heap.size 55 3 v l.length (evL l) ∧ Below w.heap.size w w'
set_option maxRecDepth 100000 in
set_option maxHeartbeats 1000000 in
theorem cloneEv_any (l : List Ev) (a : Option Addr) (c : Nat) (w : World) (h : EvS w a l) (hl : l ≠ []) (h24 : l.length * 24 ≤ 140737488351232) :
    Calls Tryz.prog 71 #[.slice a l.length c] w (ClonePost l w) := by
  obtain ⟨i0, hi, hz0, hz1, hz2⟩ := info_parts infoE
  obtain ⟨b, o, rfl⟩ : ∃ b o, a = some ⟨b, o, none⟩ := by
    rcases h.ok with h0 | ⟨b, o, ha, _⟩
    · exact absurd h0 hl
    · exact ⟨b, o, ha⟩
  have hN := Has.new w #[] 55
  have hown := own_full (base := w.heap.size) (size := 3) (n := 0) hN (Nat.le_refl _) rfl (by decide)
  have hb := (Below.refl w.heap.size w).alloc (Nat.le_refl _) (.cells #[] 55)
  have S1 := (h.below hb).src
  have hbig := h.big
  have hnil := nil_ev b o l.length c
  go_enter Tryz.func71, Tryz.ntmps71
  go_wp2_with (at_builtin; refine app_list _ rfl (.tmp 5) (.tmp 6) 29 rfl Tryz.underlying29 hi hz0 hz1 hz2 rfl (by decide) rfl hown rfl S1 (evL_one _) ?c3 ?c4 ?c5 ?_)
  case c3 => unfold maxLen; omega
  case c4 => omega
  intro v w2 hAp
  have hb2 := hAp.below hown hb (by simp)
  go_wp2
  go_ret
  refine ⟨_, rfl, ?_, hb2⟩
  have := hAp.own
  simpa using this
theorem nil_ev2 (c : Nat) (w : World) : (binOp .eql 29 (.slice none 0 c) (.slice none 0 0)).run Tryz.prog w = .ok (.bool true) w := by kernel_rfl
theorem nil_ev3 (x : Addr) (c : Nat) (w : World) : (binOp .eql 29 (.slice (some x) 0 c) (.slice none 0 0)).run Tryz.prog w = .ok (.bool false) w := by kernel_rfl
set_option maxRecDepth 100000 in
set_option maxHeartbeats 1000000 in
theorem clone_all (l : List Ev) (a : Option Addr) (c : Nat) (w : World) (h : EvS w a l) (h24 : l.length * 24 ≤ 140737488351232) :
    Calls Tryz.prog 71 #[.slice a l.length c] w (ClonePost l w) := by
  by_cases hl : l = []
  · subst hl
    rw [List.length_nil]
    cases a with
    | none =>
      have hnil := nil_ev2 c
      go_enter Tryz.func71, Tryz.ntmps71
      go_wp2
      go_ret
      exact ⟨_, rfl, World.ownsRow_nil _ _ _ _, Below.refl _ _⟩
    | some x =>
      obtain ⟨i0, hi, hz0, hz1, hz2⟩ := info_parts infoE
      have hN := Has.new w #[] 55
      have hown := own_full (base := w.heap.size) (size := 3) (n := 0) hN (Nat.le_refl _) rfl (by decide)
      have hb := (Below.refl w.heap.size w).alloc (Nat.le_refl _) (.cells #[] 55)
      have S1 : Src (w.alloc (.cells #[] 55)) 3 (some x) 0 [] := ⟨rfl, .inl ⟨rfl, rfl⟩⟩
      have hnil := nil_ev3 x c
      go_enter Tryz.func71, Tryz.ntmps71
      go_wp2_with (at_builtin; refine app_list _ rfl (.tmp 5) (.tmp 6) 29 rfl Tryz.underlying29 hi hz0 hz1 hz2 rfl (by decide) rfl hown rfl S1 (by intro u hu; cases hu) (by decide) (by decide) (by simp) ?_)
      intro v w2 hAp
      have hb2 := hAp.below hown hb (by simp)
      go_wp2
      go_ret
      exact ⟨_, rfl, hAp.own, hb2⟩
  · exact cloneEv_any l a c w h hl h24

section
variable {P : Program} (w : World)
/-- An append for which there is room. In a region that draws. -/
theorem fits_step {ops : Array Oper} {o : Oper} {a : Act} {K : Act → World → Prop} {Q : Exit → Act → World → Prop} {E : Prop} (hgd : o.guard = none) (s x : Operand) (t : TypeId) (ho : o.op = .call { callee := .builtin .append, args := #[s, x], argTypes := #[t, t] })
    {base : Nat} {e : TypeId} {i : TypeInfo} {size : Nat} (ht : P.underlying t = some (.slice e)) (hi : P.info? e = some i) (hsize : i.size = size)
    {g n cap : Nat} {xs : List Value} (hv : a.eval s = .slice (some ⟨g, 0, none⟩) n cap) (hown : w.ownsRow base e size (.slice (some ⟨g, 0, none⟩) n cap) n xs)
    {ad : Addr} {m c : Nat} {news : List Value} (hx : a.eval x = .slice (some ad) m c) (hl : news.length = m * size) (hnews : ∀ j u, news[j]? = some u → w.cell? (ad.add j) = some u) (h1 : ∀ u ∈ news, u.oneCell' = true)
    (hroom : n + m ≤ cap)
    (h : ∀ w', w'.ownsRow base e size (.slice (some ⟨g, 0, none⟩) (n + m) cap) (n + m) (xs ++ news) → w.grownBy w' (some g) → K (a.put o.dst (.slice (some ⟨g, 0, none⟩) (n + m) cap)) w') :
    if Region.wanted o (yielded ops a.tmps) = true then Oper.wp P o a w K Q else E := by
  have hw : Region.wanted o (yielded ops a.tmps) = true := by simp [Region.wanted, hgd]
  rw [if_pos hw]
  obtain ⟨w', hrun, r1, r2⟩ := run_append_fits (P := P) w base t o.type e i size ht hi hsize g n cap xs hown ad m c news hl hnews h1 hroom
  unfold Oper.wp
  simp [execOp, ho, resolve, invoke, builtin, hv, hx, hrun, Result.andThen]
  exact h w' r1 r2
end
theorem zero_ev (w : World) : (zeroValue 55).run Tryz.prog w = .ok (.agg #[.int .i64 0, .int .i64 0, .int .i64 0]) w := by kernel_rfl
/-- 'clear' of one event at the end of an own row. -/
theorem clear_one {w : World} {base g N cap : Nat} {xs : List Value} (h : w.ownsRow base 55 3 (.slice (some ⟨g, 0, none⟩) N cap) N xs) (hN : N < cap) (c : Nat) :
    ∃ w', (∀ ty, (Builtin.clear_ #[29] ty #[.slice (some ⟨g, N * 3, none⟩) 1 c]).run Tryz.prog w = .ok (.tuple #[]) w') ∧ w'.ownsRow base 55 3 (.slice (some ⟨g, 0, none⟩) N cap) N xs ∧ w.grownBy w' (some g) := by
  rcases h.2 with ⟨e, _⟩ | ⟨g', cap', cur, e, hbg, hh, hnc, hcm, hcs, ht⟩
  · cases e
  · simp only [Value.slice.injEq, Option.some.injEq, Addr.mk.injEq, and_true, true_and] at e
    obtain ⟨rfl, rfl⟩ := e
    have hst : (storeCells ⟨g, N * 3, none⟩ [Value.int .i64 0, .int .i64 0, .int .i64 0] 0).run Tryz.prog w = .ok () (w.setRow g (cur.toList.take (N * 3) ++ [Value.int .i64 0, .int .i64 0, .int .i64 0] ++ cur.toList.drop (N * 3 + 3)).toArray) :=
      run_storeCells_at Tryz.prog g (N * 3) 55 [.int .i64 0, .int .i64 0, .int .i64 0] 0 cur w hh (by simp; omega) (by intro v hv; simp at hv; subst hv; rfl)
    have hzc : (Builtin.zeroCells #[Value.int .i64 0, .int .i64 0, .int .i64 0] 1).toList = [.int .i64 0, .int .i64 0, .int .i64 0] := by kernel_rfl
    have hcl : ∀ ty, (Builtin.clear_ #[29] ty #[.slice (some ⟨g, N * 3, none⟩) 1 c]).run Tryz.prog w = .ok (.tuple #[]) (w.setRow g (cur.toList.take (N * 3) ++ [Value.int .i64 0, .int .i64 0, .int .i64 0] ++ cur.toList.drop (N * 3 + 3)).toArray) := fun ty => by
      have hu := run_underlying (w := w) Tryz.underlying29
      simp [Builtin.clear_, hu, hzc, hst, Value.cells]
    refine ⟨_, hcl, ⟨h.1, .inr ⟨g, cap, _, rfl, hbg, setRow_heap w g cur _ _ _ hh, hnc, hcm, ?_, ?_⟩⟩, ⟨rfl, rfl, rfl, by simp, fun k _ hk => setRow_other w g k _ (fun e => hk (by simp [e]))⟩⟩
    · simp
      omega
    · rw [List.append_assoc, List.take_append_of_le_length (by simp; omega), List.take_take, Nat.min_self, ht]
theorem ownsRow_take {w : World} {base e g n cap k : Nat} {l : List Ev} (h : w.ownsRow base e 3 (.slice (some ⟨g, 0, none⟩) n cap) n (evL l)) (hl : l.length = n) (hk : k ≤ n) :
    w.ownsRow base e 3 (.slice (some ⟨g, 0, none⟩) k cap) k (evL (l.take k)) := by
  have hlen : (l.take k).length = k := by simp; omega
  rcases h.2 with ⟨e, _⟩ | ⟨g', cap', cur, e, hbg, hh, hnc, hcm, hcs, ht⟩
  · cases e
  · simp only [Value.slice.injEq, Option.some.injEq, Addr.mk.injEq, and_true, true_and] at e
    obtain ⟨rfl, rfl⟩ := e
    refine ⟨by rw [evL_length, hlen], .inr ⟨g, cap, cur, rfl, hbg, hh, by omega, hcm, hcs, ?_⟩⟩
    have h1 : evL l = evL (l.take k) ++ evL (l.drop k) := by rw [← evL_append, List.take_append_drop]
    have h2 : cur.toList.take (k * 3) = (cur.toList.take (n * 3)).take (k * 3) := by rw [List.take_take, Nat.min_eq_left (by omega)]
    rw [h2, ht, h1, List.take_append_of_le_length (by rw [evL_length, hlen]; exact Nat.le_refl _), List.take_of_length_le (by rw [evL_length, hlen]; exact Nat.le_refl _)]
theorem ownsRow_cells {w : World} {base e g n cap : Nat} {l : List Ev} (h : w.ownsRow base e 3 (.slice (some ⟨g, 0, none⟩) n cap) n (evL l)) (k : Nat) :
    ∀ j u, (evL (l.drop k))[j]? = some u → w.cell? ((⟨g, k * 3, none⟩ : Addr).add j) = some u := by
  intro j u hj
  have hk : k ≤ l.length := by
    rcases Nat.lt_or_ge l.length k with h1 | h1
    · rw [List.drop_eq_nil_of_le (by omega)] at hj
      simp [evL] at hj
    · exact h1
  have hlen : (evL (l.take k)).length = k * 3 := by rw [evL_length]; simp; omega
  have h1 : evL l = evL (l.take k) ++ evL (l.drop k) := by rw [← evL_append, List.take_append_drop]
  have h2 : (evL l)[k * 3 + j]? = some u := by
    rw [h1, List.getElem?_append_right (by omega), hlen, Nat.add_sub_cancel_left]
    exact hj
  have h3 := h.cells (g := g) rfl _ _ h2
  have hadd : ∀ o n, (⟨g, o, none⟩ : Addr).add n = ⟨g, o + n, none⟩ := by intro o n; unfold Addr.add; split <;> simp_all
  rw [hadd] at h3 ⊢
  rw [Nat.zero_add] at h3
  exact h3
/-- What is left behind a Delete. -/
def DelPost (base g cap N : Nat) (l : List Ev) (w : World) (r : Ending) (w' : World) : Prop := r = .returned (.slice (some ⟨g, 0, none⟩) N cap) ∧ w'.ownsRow base 55 3 (.slice (some ⟨g, 0, none⟩) N cap) N (evL l) ∧ w.grownBy w' (some g)
theorem erase_parts (l : List Ev) (b : Nat) : evL (l.take b) ++ evL (l.drop (b + 1)) = evL (l.eraseIdx b) := by
  rw [← evL_append, List.eraseIdx_eq_take_drop_succ]
set_option maxRecDepth 100000 in
set_option maxHeartbeats 4000000 in
theorem delete_one (l : List Ev) (N b g cap base : Nat) (hl : l.length = N + 1) (hb : b ≤ N) (w : World) (hown : w.ownsRow base 55 3 (.slice (some ⟨g, 0, none⟩) (N + 1) cap) (N + 1) (evL l)) :
    Calls Tryz.prog 100 #[.slice (some ⟨g, 0, none⟩) ((N + 1 : Nat)) cap, .int .i64 (b : Int), .int .i64 ((b : Int) + 1)] w (DelPost base g cap N (l.eraseIdx b) w) := by
  obtain ⟨i0, hi, hz0, hz1, hz2⟩ := info_parts infoE
  have hcap : N + 1 ≤ cap := by
    rcases hown.2 with ⟨e, _⟩ | ⟨g', cap', cur, e, _, _, hnc, _⟩
    · cases e
    · cases e; exact hnc
  have HE := Lib.hid (erase_parts l b)
  have t1 : ((b : Int) == (b : Int) + 1) = false := by rw [beq_eq_false_iff_ne]; omega
  have b0 : (0 : Int) ≤ b := by omega
  have b1 : (b : Int) ≤ (b : Int) + 1 := by omega
  have b2 : (b : Int) + 1 ≤ (N : Int) + 1 := by omega
  have b3 : (N : Int) + 1 ≤ cap := by omega
  have b4 : (0 : Int) ≤ (b : Int) + 1 := by omega
  have b5 : (b : Int) ≤ cap := by omega
  have b6 : (b : Int) + 1 ≤ cap := by omega
  have hbN : b + (N - b) = N := by omega
  have hnb : N + 1 - (b + 1) = N - b := by omega
  have htk := ownsRow_take hown hl (show b ≤ N + 1 by omega)
  have hdl : (evL (l.drop (b + 1))).length = (N - b) * 3 := by rw [evL_length]; simp; omega
  have hcd := ownsRow_cells hown (b + 1)
  by_cases hcb : cap = b + 1
  · obtain rfl : N = b := by omega
    subst hcb
    go_enter Tryz.func100, Tryz.ntmps100
    go_upto_region 5 with fail
    go_region_law (first
      | (refine fits_step _ rfl (.tmp 22) (.tmp 25) 29 rfl Tryz.underlying29 hi hz1 (by conv => lhs; simp [go_sem]) (own_below htk ((Below.refl _ _).drew)) (ad := ⟨g, 0, none⟩) (m := 0) (c := 0) (news := evL []) (by simp [go_sem]) rfl (fun j u hu => by simp [evL] at hu) (evL_one _) (by omega) ?_; intro w6 ho6 hg6))
    all_goals
      have hd0 : l.drop (N + 1) = [] := List.drop_eq_nil_of_le (by omega)
      rw [Nat.add_zero] at ho6
      have ho7 : w6.ownsRow base 55 3 (.slice (some ⟨g, 0, none⟩) N (N + 1)) N (evL (l.eraseIdx N)) := by
        rw [← HE.out, hd0]
        exact ho6
      have hgd : w.grownBy w6 (some g) := ⟨hg6.os, hg6.tape, hg6.output, hg6.size, hg6.block⟩
      obtain ⟨w7, hcl, ho8, hg8⟩ := clear_one ho7 (Nat.lt_succ_self N) 1
      clear ho6 ho7 hcd htk hdl HE hown
      go_wp2
      go_ret
      exact ⟨rfl, ho8, hgd.trans hg8⟩
  · have hcb2 : b + 1 < cap := by omega
    go_enter Tryz.func100, Tryz.ntmps100
    go_upto_region 5 with fail
    go_region_law (first
      | (refine fits_step _ rfl (.tmp 22) (.tmp 25) 29 rfl Tryz.underlying29 hi hz1 (by conv => lhs; simp [go_sem]) (own_below htk ((Below.refl _ _).drew)) (ad := ⟨g, (b + 1) * 3, none⟩) (m := N - b) (c := cap - (b + 1)) (news := evL (l.drop (b + 1))) (by simp [go_sem]) hdl hcd (evL_one _) (by omega) ?_; intro w6 ho6 hg6))
    all_goals
      rw [hbN] at ho6
      have ho7 : w6.ownsRow base 55 3 (.slice (some ⟨g, 0, none⟩) N cap) N (evL (l.eraseIdx b)) := by
        rw [← HE.out]
        exact ho6
      have hgd : w.grownBy w6 (some g) := ⟨hg6.os, hg6.tape, hg6.output, hg6.size, hg6.block⟩
      obtain ⟨w7, hcl, ho8, hg8⟩ := clear_one ho7 (show N < cap by omega) (cap - N)
      have hnc : ¬ cap = N := by omega
      have n1 : (N : Int) ≤ (N : Int) + 1 := by omega
      have n0 : (0 : Int) ≤ N := by omega
      clear ho6 ho7 hcd htk hdl HE hown
      go_wp2
      go_ret
      exact ⟨rfl, ho8, hgd.trans hg8⟩
end Go.Proofs.YtfjbnhacfficnaaGreatDoor

/- Slices of strings: read as lists; owned rows; equality of two. -/
namespace Go.Proofs.YtfjbnhacfficnaaGreatDoor
open Go.RowKit

/-- A slice of strings: its elements read as a list. -/
structure StrS (w : World) (a : Option Addr) (l : List ByteArray) : Prop where
  big : l.length < 4611686018427387904
  ok : l = [] ∨ ∃ b o, a = some ⟨b, o, none⟩ ∧ ∀ i (h : i < l.length), w.cell? ⟨b, o + i, none⟩ = some (.string l[i])
theorem StrS.below {w w' : World} {a : Option Addr} {l : List ByteArray} (h : StrS w a l) (k : Below w.heap.size w w') : StrS w' a l := by
  refine ⟨h.big, ?_⟩
  rcases h.ok with h0 | ⟨b, o, ha, hc⟩
  · exact .inl h0
  · exact .inr ⟨b, o, ha, fun i hi => (k.cell (World.block_lt_of_cell? w _ (hc i hi))).trans (hc i hi)⟩
theorem StrS.at {w : World} {a : Option Addr} {l : List ByteArray} (h : StrS w a l) {i : Nat} (hi : i < l.length) : ∃ b o, a = some ⟨b, o, none⟩ ∧ w.cell? ⟨b, o + i, none⟩ = some (.string l[i]) := by
  rcases h.ok with h0 | ⟨b, o, ha, hc⟩
  · simp [h0] at hi
  · exact ⟨b, o, ha, hc i hi⟩
theorem StrS.nil (w : World) : StrS w none [] := ⟨by decide, .inl rfl⟩
theorem StrS.take {w : World} {a : Option Addr} {l : List ByteArray} (h : StrS w a l) (n : Nat) : StrS w a (l.take n) := by
  refine ⟨by have := h.big; simp; omega, ?_⟩
  rcases h.ok with h0 | ⟨b, o, ha, hc⟩
  · left; simp [h0]
  · right
    refine ⟨b, o, ha, fun i hi => ?_⟩
    rw [List.getElem_take]
    exact hc i (by simp at hi; omega)
theorem StrS.drop {w : World} {b o : Nat} {l : List ByteArray} (h : StrS w (some ⟨b, o, none⟩) l) (n : Nat) : StrS w (some ⟨b, o + n, none⟩) (l.drop n) := by
  refine ⟨by have := h.big; simp; omega, ?_⟩
  rcases h.ok with h0 | ⟨b', o', ha, hc⟩
  · left; simp [h0]
  · right
    cases ha
    refine ⟨b, o + n, rfl, fun i hi => ?_⟩
    rw [List.getElem_drop]
    have := hc (n + i) (by simp at hi; omega)
    rw [Nat.add_assoc]
    exact this
/-- The cells of a list of strings. -/
def stL (l : List ByteArray) : List Value := l.map Value.string
theorem stL_append (l m : List ByteArray) : stL (l ++ m) = stL l ++ stL m := by simp [stL]
theorem stL_one (l : List ByteArray) : ∀ u ∈ stL l, u.oneCell' = true := by
  intro u hu
  obtain ⟨s, _, rfl⟩ := List.mem_map.1 hu
  rfl
theorem StrS.src {w : World} {a : Option Addr} {l : List ByteArray} (h : StrS w a l) : Src w 1 a l.length (stL l) := by
  refine ⟨by simp [stL], ?_⟩
  rcases h.ok with h0 | ⟨b, o, ha, hc⟩
  · subst h0; exact .inl ⟨rfl, rfl⟩
  · refine .inr ⟨_, ha, fun j u hu => ?_⟩
    unfold stL at hu
    obtain ⟨hj, hu⟩ := List.getElem?_eq_some_iff.1 hu
    have := hc j (by simpa using hj)
    have hadd : (⟨b, o, none⟩ : Addr).add j = ⟨b, o + j, none⟩ := by unfold Addr.add; split <;> simp_all
    rw [hadd, this, ← hu]
    simp
/-- A slice of strings that owns its cells reads as its list. -/
theorem strS_own {w : World} {base : Nat} {e : TypeId} {v : Value} {l : List ByteArray} (h : w.ownsRow base e 1 v l.length (stL l)) (hb : l.length < 4611686018427387904) : ∃ a c, v = .slice a l.length c ∧ StrS w a l ∧ l.length ≤ c := by
  rcases h.2 with ⟨rfl, hn⟩ | ⟨g, cap, cur, rfl, hg, hh, hcap, _⟩
  · exact ⟨none, 0, by rw [hn], ⟨hb, .inl (List.eq_nil_of_length_eq_zero hn)⟩, by omega⟩
  · refine ⟨_, _, rfl, ⟨hb, .inr ⟨g, 0, rfl, fun i hi => ?_⟩⟩, hcap⟩
    have e1 := h.cells (g := g) rfl i (.string l[i]) (by simp [stL, hi])
    have hadd : ∀ n, (⟨g, 0, none⟩ : Addr).add n = ⟨g, 0 + n, none⟩ := by intro n; unfold Addr.add; split <;> simp_all
    rw [hadd] at e1
    exact e1
theorem strS_full {w : World} {g : Nat} {cs : Array Value} {l : List ByteArray} {e : TypeId} (h : Has w g cs e) (hc : cs = (stL l).toArray) (hb : l.length < 4611686018427387904) : StrS w (some ⟨g, 0, none⟩) l :=
  ⟨hb, .inr ⟨g, 0, rfl, fun i hi => by rw [Nat.zero_add]; exact h.cell (by subst hc; simp [stL, hi])⟩⟩
theorem infoSt : (Tryz.prog.info? 9).map (fun i => (i.zero, i.size, i.bytes)) = some (some (.string ⟨#[]⟩), 1, 16) := by kernel_rfl
end Go.Proofs.YtfjbnhacfficnaaGreatDoor

/- Blocks of ints, known by a function; ranges of six of them. No program. -/
namespace Go.Proofs.YtfjbnhacfficnaaGreatDoor
open Go.RowKit

/-- A row of n ints. -/
def rowI (n : Nat) (f : Nat → Int) : Array Value := ((List.range n).map fun i => Value.int .i64 (f i)).toArray
theorem rowI_get (n : Nat) (f : Nat → Int) {k : Nat} (hk : k < n) : (rowI n f)[k]? = some (.int .i64 (f k)) := by simp [rowI, hk]
theorem rowI_size (n : Nat) (f : Nat → Int) : (rowI n f).size = n := by simp [rowI]
theorem rowI_congr {n : Nat} {f g : Nat → Int} (h : ∀ i, i < n → f i = g i) : rowI n f = rowI n g := by
  unfold rowI
  congr 1
  exact List.map_congr_left fun i hi => by rw [h i (List.mem_range.1 hi)]
theorem rowI_set (n : Nat) (f : Nat → Int) (k : Nat) (x : Int) : (rowI n f).setIfInBounds k (.int .i64 x) = rowI n fun i => if i = k then x else f i := by
  apply Array.ext_getElem?
  intro i
  rw [Array.getElem?_setIfInBounds]
  by_cases hk : k = i
  · subst hk
    by_cases hn : k < n
    · simp [rowI, hn]
    · simp [rowI, hn]
  · have hne : ¬ i = k := fun e => hk e.symm
    by_cases hn : i < n
    · rw [rowI_get n _ hn, rowI_get n _ hn]; simp [hk, hne]
    · simp [rowI, hk, List.getElem?_eq_none (show (List.range n).length ≤ i by simp; omega)]
theorem Has.addI {w : World} {b : Nat} {n : Nat} {f : Nat → Int} {t : TypeId} (h : Has w b (rowI n f) t) {k : Nat} (hk : k < n) : w.cell? ⟨b, k, none⟩ = some (.int .i64 (f k)) := h.cell (rowI_get n f hk)
/-- Six of the row. -/
theorem Has.six {w : World} {b : Nat} {n : Nat} {f : Nat → Int} {t : TypeId} (h : Has w b (rowI n f) t) {o : Nat} (ho : o + 6 ≤ n) (g : Nat → Int) (hg : ∀ i, i < 6 → g i = f (o + i)) : w.rangeAt b o (clkC g).toList := by
  intro j v hv
  have hj : j < 6 := by have := (List.getElem?_eq_some_iff.1 hv).1; simpa [clkC] using this
  rw [Array.getElem?_toList, clkC_get g j hj] at hv
  rw [← hv, hg j hj]
  exact h.addI (by omega)
theorem Has.there6 {w : World} {b : Nat} {n : Nat} {f : Nat → Int} {t : TypeId} (h : Has w b (rowI n f) t) {o m : Nat} (ho : o + m ≤ n) : w.there b o m := by
  intro j hj
  refine ⟨by rw [h.addI (show o + j < n by omega)]; rfl, h.free _⟩
theorem Has.setSix {w : World} {b : Nat} {n : Nat} {f : Nat → Int} {t : TypeId} (h : Has w b (rowI n f) t) (o : Nat) (g F : Nat → Int) (hF : ∀ i, i < n → F i = if o ≤ i ∧ i < o + 6 then g (i - o) else f i) : Has (w.setCells b o (clkC g).toList) b (rowI n F) t := by
  have h6 := ((((((h.setCell o (.int .i64 (g 0))).setCell (o + 1) (.int .i64 (g 1))).setCell (o + 1 + 1) (.int .i64 (g 2))).setCell (o + 1 + 1 + 1) (.int .i64 (g 3))).setCell (o + 1 + 1 + 1 + 1) (.int .i64 (g 4))).setCell (o + 1 + 1 + 1 + 1 + 1) (.int .i64 (g 5)))
  simp only [rowI_set] at h6
  refine Has.to h6 (rowI_congr fun i hi => ?_)
  rw [hF i hi]
  by_cases e : o ≤ i ∧ i < o + 6
  · rw [if_pos e]
    rcases (by omega : i = o ∨ i = o + 1 ∨ i = o + 2 ∨ i = o + 3 ∨ i = o + 4 ∨ i = o + 5) with rfl | rfl | rfl | rfl | rfl | rfl
    all_goals
      simp only [Nat.add_assoc, Nat.reduceAdd, Nat.add_sub_cancel_left, Nat.sub_self, Nat.add_left_cancel_iff, if_true, if_false, Nat.reduceEqDiff]
      try (first | rfl | (repeat (first | rw [if_neg (by omega)] | rw [if_pos (by omega)])))
  · rw [if_neg e]
    have e0 : ¬ i = o := by omega
    have e1 : ¬ i = o + 1 := by omega
    have e2 : ¬ i = o + 1 + 1 := by omega
    have e3 : ¬ i = o + 1 + 1 + 1 := by omega
    have e4 : ¬ i = o + 1 + 1 + 1 + 1 := by omega
    have e5 : ¬ i = o + 1 + 1 + 1 + 1 + 1 := by omega
    simp only [e0, e1, e2, e3, e4, e5, if_false]
theorem Has.setCells_ne {w : World} {b b' : Nat} {t : TypeId} {cs : Array Value} (h : Has w b cs t) (hb : b ≠ b') : ∀ (vs : List Value) (o : Nat), Has (w.setCells b' o vs) b cs t := by
  intro vs
  induction vs generalizing w with
  | nil => intro o; exact h
  | cons v vs ih => intro o; exact ih (h.setCell_ne (by exact hb) v) (o + 1)
theorem setCells_size (b : Nat) : ∀ (vs : List Value) (o : Nat) (w : World), (w.setCells b o vs).heap.size = w.heap.size
  | [], _, _ => rfl
  | v :: r, o, w => by rw [World.setCells, setCells_size b r]; simp [World.setCell]
theorem grownBy_setCells {w w' : World} {b : Nat} (h : w.grownBy w' (some b)) : ∀ (vs : List Value) (o : Nat), w.grownBy (w'.setCells b o vs) (some b) := by
  intro vs
  induction vs generalizing w' with
  | nil => intro o; exact h
  | cons v vs ih =>
    intro o
    have hs : w.grownBy (w'.setCell ⟨b, o, none⟩ v) (some b) := ⟨h.os, h.tape, h.output, by simpa [World.setCell] using h.size, fun k hk hne => (Below.heap_setCell w' ⟨b, o, none⟩ v k (by intro e; exact hne (by rw [e]))).trans (h.block k hk hne)⟩
    exact ih hs (o + 1)
theorem Below.setCells' {B : Nat} {w w' : World} {b : Nat} (h : Below B w w') (hb : B ≤ b) : ∀ (vs : List Value) (o : Nat), Below B w (w'.setCells b o vs) := by
  intro vs
  induction vs generalizing w' with
  | nil => intro o; exact h
  | cons v vs ih => intro o; exact ih (h.setCell (by exact hb) v) (o + 1)
theorem _root_.Go.World.grownBy.trans_below {w w1 w2 : World} {row : Option Nat} (h : w.grownBy w1 row) (k : Below w1.heap.size w1 w2) : w.grownBy w2 row :=
  ⟨k.os.trans h.os, k.tape.trans h.tape, k.output.trans h.output, Nat.le_trans h.size k.size, fun i hi hne => (k.block i (Nat.lt_of_lt_of_le hi h.size)).trans (h.block i hi hne)⟩
theorem clkC_one (g : Nat → Int) : (clkC g).all (·.oneCell') = true := by simp [clkC, Value.oneCell']
end Go.Proofs.YtfjbnhacfficnaaGreatDoor

/- A block read whole, stored whole. -/
namespace Go.Proofs.YtfjbnhacfficnaaGreatDoor
open Go.RowKit

theorem Has.rangeW {w : World} {b : Nat} {cs : Array Value} {t : TypeId} (h : Has w b cs t) : w.rangeAt b 0 cs.toList := by
  intro j v hv
  rw [Array.getElem?_toList] at hv
  rw [Nat.zero_add]
  exact h.cell hv
theorem Has.load {P : Program} {w : World} {b : Nat} {cs : Array Value} {t : TypeId} {d : TypeDesc} (h : Has w b cs t) (hu : P.underlying t = some d) (hd : d.isRow = true) (hi : (P.info? t).map (·.size) = some cs.size) :
    (Instr.loadAt t (.pointer (some ⟨b, 0, none⟩))).run P w = .ok (.agg cs) w := by
  have := run_loadAt_mid (P := P) w b 0 t cs.toList d h.rangeW hu hd (by simpa using hi)
  simpa using this
theorem Has.loadVar {P : Program} {w : World} {b : Nat} {cs : Array Value} {t : TypeId} {d : TypeDesc} (h : Has w b cs t) (hu : P.underlying t = some d) (hd : d.isRow = true) (hi : (P.info? t).map (·.size) = some cs.size) :
    (loadVar t ⟨b, 0, none⟩).run P w = .ok (.agg cs) w := by
  have := run_loadVar_mid (P := P) w b 0 t cs.toList d h.rangeW hu hd (by simpa using hi)
  simpa using this
theorem Has.thereW {w : World} {b : Nat} {cs : Array Value} {t : TypeId} (h : Has w b cs t) : w.there b 0 cs.size := by
  intro j hj
  rw [Nat.zero_add]
  refine ⟨?_, h.free j⟩
  rw [h.cell (Array.getElem?_eq_getElem hj)]
  rfl
theorem Has.store {P : Program} {w : World} {b : Nat} {cs new : Array Value} {t : TypeId} (h : Has w b cs t) (hi : (P.info? t).map (·.size) = some new.size) (hs : new.size = cs.size) (h1 : new.all (·.oneCell') = true) :
    (Instr.storeAt t (.pointer (some ⟨b, 0, none⟩)) (.agg new)).run P w = .ok () (w.setCells b 0 new.toList) :=
  run_storeAt_mid (P := P) w b 0 t new (by rw [hs]; exact h.thereW) hi h1
theorem Has.setSame {w : World} {b : Nat} {cs : Array Value} {t : TypeId} (h : Has w b cs t) {i : Nat} {v : Value} (hv : cs[i]? = some v) : w.setCell ⟨b, i, none⟩ v = w := by
  have hb := h.out
  unfold World.setCell
  have : w.heap.modify b (fun o => match o with | .cells c t f => .cells (c.setIfInBounds i v) t f | o => o) = w.heap := by
    apply Array.ext_getElem?
    intro j
    rw [Array.getElem?_modify]
    split
    · rename_i e
      subst e
      rw [hb]
      simp only [Option.map_some]
      congr 2
      apply Array.ext_getElem?
      intro k
      rw [Array.getElem?_setIfInBounds]
      split
      · rename_i e2
        subst e2
        split
        · exact hv.symm
        · rename_i hk
          have := (Array.getElem?_eq_some_iff.1 hv).1
          exact absurd this hk
      · rfl
    · rfl
  exact congrArg (fun x => { w with heap := x }) this
theorem Has.setSames {w : World} {b : Nat} {cs : Array Value} {t : TypeId} (h : Has w b cs t) : ∀ (vs : List Value) (o : Nat), (∀ j v, vs[j]? = some v → cs[o + j]? = some v) → w.setCells b o vs = w
  | [], _, _ => rfl
  | v :: vs, o, hv => by
    rw [World.setCells, h.setSame (i := o) (by simpa using hv 0 v rfl)]
    exact h.setSames vs (o + 1) fun j u hu => by rw [show o + 1 + j = o + (j + 1) by omega]; exact hv (j + 1) u hu
/-- What lies there is stored again: nothing changes. -/
theorem Has.storeSame {P : Program} {w : World} {b : Nat} {cs : Array Value} {t : TypeId} (h : Has w b cs t) (hi : (P.info? t).map (·.size) = some cs.size) (h1 : cs.all (·.oneCell') = true) :
    (Instr.storeAt t (.pointer (some ⟨b, 0, none⟩)) (.agg cs)).run P w = .ok () w := by
  rw [h.store hi rfl h1, h.setSames cs.toList 0 fun j v hv => by rw [Nat.zero_add, ← Array.getElem?_toList]; exact hv]
theorem setCells_append (b : Nat) : ∀ (vs us : List Value) (o : Nat) (w : World), w.setCells b o (vs ++ us) = (w.setCells b o vs).setCells b (o + vs.length) us
  | [], us, o, w => by simp [World.setCells]
  | v :: vs, us, o, w => by
    simp only [List.cons_append, World.setCells, List.length_cons]
    rw [setCells_append b vs us (o + 1), show o + 1 + vs.length = o + (vs.length + 1) by omega]
theorem rowI_one (n : Nat) (f : Nat → Int) : (rowI n f).all (·.oneCell') = true := by
  refine all_oneCell_toArray fun v hv => ?_
  simp only [List.mem_map] at hv
  obtain ⟨i, _, rfl⟩ := hv
  rfl
/-- Another row of as many ints is stored. -/
theorem Has.setAll {w : World} {b n : Nat} {f g : Nat → Int} {t : TypeId} (h : Has w b (rowI n f) t) : Has (w.setCells b 0 (rowI n g).toList) b (rowI n g) t := by
  have key : ∀ k, k ≤ n → Has (w.setCells b 0 ((List.range k).map fun i => Value.int .i64 (g i))) b (rowI n fun i => if i < k then g i else f i) t := by
    intro k
    induction k with
    | zero => intro _; exact h.to (rowI_congr fun i _ => by simp)
    | succ k ih =>
      intro hk
      have h2 := (ih (by omega)).setCell k (.int .i64 (g k))
      rw [rowI_set] at h2
      rw [List.range_succ, List.map_append, setCells_append]
      simp only [List.length_map, List.length_range, Nat.zero_add, List.map_cons, List.map_nil, World.setCells]
      refine h2.to (rowI_congr fun i _ => ?_)
      by_cases e : i = k
      · subst e; simp
      · by_cases e2 : i < k
        · rw [if_neg e, if_pos e2, if_pos (by omega)]
        · rw [if_neg e, if_neg e2, if_neg (by omega)]
  have := key n (Nat.le_refl _)
  rw [rowI]
  refine Has.to this (rowI_congr fun i hi => by rw [if_pos hi])
end Go.Proofs.YtfjbnhacfficnaaGreatDoor

/- Equality of flags, of slices of flags. -/
namespace Go.Proofs.YtfjbnhacfficnaaGreatDoor
open Go.RowKit

theorem equalIn_fl (x y : Ev) (w : World) : (Op.equalIn 10000 78 (evV x) (evV y)).run Tryz.prog w = .ok (decide (x = y)) w := by
  obtain ⟨k, t, o⟩ := x
  obtain ⟨k', t', o'⟩ := y
  rw [run_equalIn_agg (P := Tryz.prog) w 9999 _ _ _ (by kernel_rfl) (by kernel_rfl)]
  simp [go_sem]
  by_cases h1 : k = k' <;> by_cases h2 : t = t' <;> by_cases h3 : o = o' <;> simp [h1, h2, h3]
theorem neq_fl (x y : Ev) (w : World) : (binOp .neq 78 (evV x) (evV y)).run Tryz.prog w = .ok (.bool (!decide (x = y))) w := by
  rw [run_neq_struct, equalIn_fl]; rfl
theorem eql_fl (x y : Ev) (w : World) : (binOp .eql 78 (evV x) (evV y)).run Tryz.prog w = .ok (.bool (decide (x = y))) w := by
  rw [run_eql_struct, equalIn_fl]; rfl
end Go.Proofs.YtfjbnhacfficnaaGreatDoor

/- Contract of Rest. -/
namespace Go.Proofs.YtfjbnhacfficnaaGreatDoor
open Go.RowKit

end Go.Proofs.YtfjbnhacfficnaaGreatDoor

/- Contract of Eq at ints. -/
namespace Go.Proofs.YtfjbnhacfficnaaGreatDoor
open Go.RowKit

end Go.Proofs.YtfjbnhacfficnaaGreatDoor

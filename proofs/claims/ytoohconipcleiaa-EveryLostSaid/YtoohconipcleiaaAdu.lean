/- Contract of adders, without a lock. Printed by a program. -/
import Derived.Test.YtoohconipcleiaaLos
import Derived.Test.YtoohconipcleiaaStp
import Derived.Test.YtoohconipcleiaaRest
import Derived.OneCell
namespace Go.Proofs.Ytoohconipcleiaa
open Go.RowKit

section
variable {w w' : World} {base e size n : Nat} {v : Value} {xs : List Value}
theorem own_types {b2 e2 s2 n2 : Nat} {v2 : Value} {x2 : List Value} (h : w.ownsRow base e size v n xs) (h2 : w.ownsRow b2 e2 s2 v2 n2 x2) (ht : e ≠ e2) : v.ownBlock = none ∨ v.ownBlock ≠ v2.ownBlock := by
  rcases h.2 with ⟨rfl, _⟩ | ⟨g, cap, cur, rfl, _, hg, _⟩
  · exact .inl rfl
  · right
    intro e1
    rcases h2.2 with ⟨rfl, _⟩ | ⟨g2, cap2, cur2, rfl, _, hg2, _⟩
    · simp [Value.ownBlock] at e1
    · simp only [Value.ownBlock, Option.some.injEq] at e1
      subst e1
      rw [hg] at hg2
      simp only [Option.some.injEq, Obj.cells.injEq] at hg2
      exact ht hg2.2.1
theorem own_base {b2 : Nat} (h : w.ownsRow base e size v n xs) (hb : b2 ≤ base) : w.ownsRow b2 e size v n xs := by
  refine ⟨h.1, ?_⟩
  rcases h.2 with h0 | ⟨g, cap, cur, hv, hg, r⟩
  · exact .inl h0
  · exact .inr ⟨g, cap, cur, hv, Nat.le_trans hb hg, r⟩
/-- A row that is not empty lies in a block. -/
theorem own_at (h : w.ownsRow base e size v (n + 1) xs) : ∃ g cap, v = .slice (some ⟨g, 0, none⟩) (n + 1) cap ∧ n + 1 ≤ cap ∧ base ≤ g ∧ g < w.heap.size := by
  have hl := h.lt
  rcases h.2 with ⟨_, h0⟩ | ⟨g, cap, cur, rfl, hg, hh, hnc, _⟩
  · cases h0
  · exact ⟨g, cap, rfl, hnc, hg, (hl g rfl).2⟩
end
/-- The rows of a program under way: v6 the slice, v0 the forks, the others. -/
structure AduI (w : World) (base k : Nat) (ns : List Int) (v6 v0 : Value) (rest : List Value) : Prop where
  len : rest.length = k
  p : w.ownsRow base 38 1 v6 (k + 1) (v0 :: rest)
  f : w.ownsRow base 40 3 v0 k (evL (frkT k))
  r : ∀ i (h : i < rest.length), w.ownsRow base 40 3 rest[i] 3 (evL (addU (ns.getD i 0))) ∧ rest[i].ownBlock ≠ v0.ownBlock
theorem AduI.below {w w' : World} {base k : Nat} {ns : List Int} {v6 v0 : Value} {rest : List Value} (h : AduI w base k ns v6 v0 rest) (b : Below w.heap.size w w') : AduI w' base k ns v6 v0 rest :=
  ⟨h.len, own_below h.p b, own_below h.f b, fun i hi => ⟨own_below (h.r i hi).1 b, (h.r i hi).2⟩⟩
/-- A fork more, a row more. -/
theorem AduI.step {w5 w6 w7 w8 w9 w10 : World} {base k : Nat} {ns : List Int} {v6 v0 v37 v46 v51 : Value} {rest : List Value} {g cap m : Nat}
    (h : AduI w5 base k ns v6 v0 rest) (hv6 : v6 = .slice (some ⟨g, 0, none⟩) (k + 1) cap) (hnew : w5.ownsRow m 40 3 v37 3 (evL (addU (ns.getD k 0)))) (hm : base ≤ m)
    (hfar : ∀ b, v0.ownBlock = some b → b < m) (hsome : v37.ownBlock ≠ none)
    (h6 : w5.grownBy w6 none) (hA : Appended w6 w7 base 40 3 v0 v46 (k + 1) (evL (frkT (k + 1)))) (h8 : w8 = w7.setCell ⟨g, 0, none⟩ v46) (h9 : w8.grownBy w9 none)
    (hB : Appended w9 w10 base 38 1 v6 v51 (k + 2) ((v46 :: rest) ++ [v37])) : AduI w10 base (k + 1) ns v51 v46 (rest ++ [v37]) := by
  have hno : ∀ {w w' : World}, w.grownBy w' none → ∀ {b e s n : Nat} {v : Value} {xs : List Value}, w.ownsRow b e s v n xs → w'.ownsRow b e s v n xs := fun hg _ _ _ _ v _ ho => ho.kept hg (by cases hv : v.ownBlock <;> simp)
  have p6 := hno h6 h.p
  have f6 := hno h6 h.f
  have n6 := hno h6 hnew
  have p7 := p6.kept hA.grown (own_types p6 f6 (by decide))
  have n7 : w7.ownsRow m 40 3 v37 3 (evL (addU (ns.getD k 0))) := n6.kept hA.grown (by
    right
    intro e
    cases hv : v37.ownBlock with
    | none => exact hsome hv
    | some b =>
      have h1 := (n6.lt b hv).1
      have h2 := hfar b (by rw [← e]; exact hv)
      omega)
  have f7 := hA.own
  have hb46 : ∀ x : Value, (∀ b, x.ownBlock = some b → b < w6.heap.size) → x.ownBlock ≠ none → x.ownBlock ≠ v0.ownBlock → x.ownBlock ≠ v46.ownBlock := by
    intro x hx hn hne e
    rcases hA.lies with l | l
    · exact hne (e.trans l)
    · rw [l] at e
      have := hx _ e
      omega
  have ne37 : v37.ownBlock ≠ v46.ownBlock := hb46 v37 (fun b hb => (n6.lt b hb).2) hsome (by
    intro e
    cases hv : v37.ownBlock with
    | none => exact hsome hv
    | some b =>
      have h1 := (n6.lt b hv).1
      have h2 := hfar b (by rw [← e]; exact hv)
      omega)
  have r7 : ∀ i (hi : i < rest.length), w7.ownsRow base 40 3 rest[i] 3 (evL (addU (ns.getD i 0))) ∧ rest[i].ownBlock ≠ v46.ownBlock := fun i hi => by
    obtain ⟨o, hne⟩ := h.r i hi
    have o6 := hno h6 o
    refine ⟨o6.kept hA.grown (.inr hne), hb46 _ (fun b hb => (o6.lt b hb).2) ?_ hne⟩
    intro e0
    rcases o6.2 with ⟨_, h0⟩ | ⟨g', cap', cur', hv', _⟩
    · cases h0
    · rw [hv'] at e0; cases e0
  -- the store
  subst hv6
  obtain ⟨p8, hg8⟩ := p7.stored 0 v46
  rw [← h8] at p8 hg8
  have s8 : ∀ {b s n : Nat} {v : Value} {xs : List Value}, w7.ownsRow b 40 s v n xs → w8.ownsRow b 40 s v n xs := fun ho => ho.kept hg8 (by
    have := own_types ho p7 (by decide)
    simpa [Value.ownBlock] using this)
  have t10 : ∀ {b s n : Nat} {v : Value} {xs : List Value}, w7.ownsRow b 40 s v n xs → w10.ownsRow b 40 s v n xs := fun ho =>
    (hno h9 (s8 ho)).kept hB.grown (own_types (hno h9 (s8 ho)) (hno h9 p8) (by decide))
  refine ⟨by simp [h.len], ?_, t10 f7, fun i hi => ?_⟩
  · have := hB.own
    simpa using this
  · by_cases c : i < rest.length
    · rw [List.getElem_append_left c]
      exact ⟨t10 (r7 i c).1, (r7 i c).2⟩
    · have e : i = rest.length := by simp at hi; omega
      subst e
      have e2 : (rest ++ [v37])[rest.length]'hi = v37 := by simp
      rw [e2, h.len]
      exact ⟨own_base (t10 n7) hm, ne37⟩
theorem frkT_succ (k : Nat) : frkT (k + 1) = frkT k ++ [⟨6, ((k + 1 : Nat) : Int), 0⟩] := by simp [frkT, List.range_succ]
theorem frkT_len (k : Nat) : (frkT k).length = k := by simp [frkT]
/-- The program as it is read. -/
theorem AduI.pgS {w : World} {base : Nat} {ns : List Int} {v6 v0 : Value} {rest : List Value} (h : AduI w base ns.length ns v6 v0 rest) (hn : ns.length ≤ 1000) : ∃ a c, v6 = .slice a (adU ns).length c ∧ PgS w a (adU ns) := by
  obtain ⟨g, cap, hv, _⟩ := own_at h.p
  have hp := h.p
  rw [hv] at hp
  refine ⟨_, cap, by rw [hv, adU_len], ⟨by rw [adU_len]; omega, .inr ⟨g, 0, rfl, fun t ht => ?_⟩⟩⟩
  have hcell := hp.cellAt t (by rw [adU_len] at ht; omega)
  rw [Nat.zero_add, hcell]
  cases t with
  | zero =>
    obtain ⟨a, c, h1, h2, _⟩ := evS_own (l := frkT ns.length) (by rw [frkT_len]; exact h.f) (by rw [frkT_len]; omega)
    refine ⟨a, c, ?_, h2⟩
    show some v0 = _
    rw [h1]; rfl
  | succ i =>
    have hi : i < ns.length := by rw [adU_len] at ht; omega
    have hir : i < rest.length := by rw [h.len]; exact hi
    obtain ⟨a, c, h1, h2, _⟩ := evS_own (l := addU (ns.getD i 0)) (h.r i hir).1 (by show 3 < 4611686018427387904; decide)
    have e : (adU ns)[i + 1] = addU (ns.getD i 0) := by
      simp [adU, List.getD_eq_getElem?_getD, hi]
    rw [e]
    refine ⟨a, c, ?_, h2⟩
    rw [List.getElem?_cons_succ, List.getElem?_eq_getElem hir, h1]
theorem infoOp2 : (Try.prog.info? 40).map (fun i => (i.zero, i.size, i.bytes)) = some (some (evV ⟨0, 0, 0⟩), 3, 24) := by kernel_rfl
theorem infoOps : (Try.prog.info? 38).map (fun i => (i.zero, i.size, i.bytes)) = some (some (.slice none 0 0), 1, 24) := by kernel_rfl
/-- The numbers that are added. -/
def addM (l : List Int) : List Int := l.map fun n => n % 100 + 1
theorem addM_len (l : List Int) : (addM l).length = l.length := by simp [addM]
theorem addM_get (l : List Int) {k : Nat} (h : k < l.length) : (addM l).getD k 0 = l[k] % 100 + 1 := by
  unfold addM
  rw [List.getD_eq_getElem?_getD, List.getElem?_map, List.getElem?_eq_getElem h]
  rfl
theorem addM_small (l : List Int) : Small100 (addM l) := fun k hk => by
  rw [addM_len] at hk
  rw [addM_get l hk]
  have := Int.emod_nonneg l[k] (show (100 : Int) ≠ 0 by omega)
  have := Int.emod_lt_of_pos l[k] (show (0 : Int) < 100 by omega)
  omega
theorem sumF_le {f : Nat → Int} {m : Nat} (h : ∀ i, i < m → 0 ≤ f i ∧ f i ≤ 100) : 0 ≤ sumF f m ∧ sumF f m ≤ 100 * (m : Int) := by
  induction m with
  | zero => simp [sumF]
  | succ m ih =>
    have := ih (fun i hi => h i (by omega))
    have := h m (by omega)
    simp only [sumF]
    omega
def AduPost (ns : List Int) (w : World) (r : Ending) (w' : World) : Prop :=
  ∃ a c, r = .returned (.tuple #[.slice a (adU ns).length c, .int .i64 (sumF (fun t => ns.getD t 0) ns.length)]) ∧ PgS w' a (adU ns) ∧ Below w.heap.size w w'
def AduR (w : World) (l ns : List Int) (v6 s i : Value) (wr : World) : Prop :=
  ∃ (k : Nat) (v0 : Value) (rest : List Value), k ≤ l.length ∧ i = .int .i64 k ∧ s = .int .i64 (sumF (fun t => ns.getD t 0) k) ∧ AduI wr w.heap.size k ns v6 v0 rest ∧ Below w.heap.size w wr

set_option maxRecDepth 100000 in
set_option maxHeartbeats 8000000 in
theorem adders_free (l : List Int) (n : Nat) (hn : l.length = n) (h5 : l.length ≤ 5) (a : Option Addr) (c : Nat) (w : World) (h : IntS w a l) :
    Calls Try.prog 31 #[.slice a n c, .bool false] w (AduPost (addM l) w) := by
  subst hn
  obtain ⟨i0, hi, hz0, hz1, hz2⟩ := info_parts infoOp2
  obtain ⟨j0, hj, jz0, jz1, jz2⟩ := info_parts infoOps
  have hlen := addM_len l
  have hsm := addM_small l
  have hget := fun k (h : k < l.length) => addM_get l h
  generalize addM l = ns at *
  have HLEN := Lib.hid hlen
  have hsu : ∀ k, k ≤ 5 → k ≤ l.length → 0 ≤ sumF (fun t => ns.getD t 0) k ∧ sumF (fun t => ns.getD t 0) k ≤ 500 := fun k hk hkl => by
    have := sumF_le (f := fun t => ns.getD t 0) (m := k) (fun i hi => by have := hsm i (by omega); omega)
    omega
  have HSU := Lib.hid hsu
  have HGET := Lib.hid hget
  clear hlen hsm hget hsu
  have hI0 : AduI (w.alloc (.cells #[.slice none 0 0] 38)) w.heap.size 0 ns (.slice (some ⟨w.heap.size, 0, none⟩) 1 1) (.slice none 0 0) [] :=
    ⟨rfl, World.ownsRow_lit w #[.slice none 0 0] 1 (Nat.le_refl _) (by unfold maxLen; omega) rfl, World.ownsRow_nil _ _ _ _, fun i hi => absurd hi (Nat.not_lt_zero _)⟩
  have hb0 := (Below.refl w.heap.size w).alloc (Nat.le_refl _) (.cells #[.slice none 0 0] 38)
  go_enter Try.func31, Try.ntmps31
  go_wp2
  go_loopw [6, 7, 14] (AduR w l ns) (fun _ _ i _ => l.length - (intOf i).toNat)
  case atStart => exact ⟨0, _, [], Nat.zero_le _, rfl, rfl, hI0, hb0⟩
  case round =>
    clear hI0 hb0
    obtain ⟨k, v0, rest, hk, rfl, rfl, hA, hb⟩ := hrel
    by_cases hlt : k < l.length
    · obtain ⟨b, o, rfl, d0⟩ := (h.below hb).at hlt
      obtain ⟨g, cap, rfl, hkc, hgb, hgl⟩ := own_at hA.p
      obtain ⟨a0, c0, hv0, _, _⟩ := evS_own (l := frkT k) (by rw [frkT_len]; exact hA.f) (by rw [frkT_len]; omega)
      rw [frkT_len] at hv0
      subst hv0
      have hg := HGET.out k hlt
      have hsu := HSU.out k (by omega) (by omega)
      have hss : sumF (fun t => ns.getD t 0) (k + 1) = sumF (fun t => ns.getD t 0) k + ns.getD k 0 := rfl
      generalize l[k] = x at *
      have q0 := Int.emod_nonneg x (show (100 : Int) ≠ 0 by omega)
      have q1 := Int.emod_lt_of_pos x (show (0 : Int) < 100 by omega)
      have k0 : (0 : Int) ≤ k := by omega
      have k1 : (k : Int) < l.length := by omega
      have k5 : (k : Int) < 5 := by omega
      have HG := Lib.hid hg
      have HSS := Lib.hid hss
      clear hg hss
      go_wp2_with fail
      refine (rest_any x 100 _ (by omega) (by omega)).mono ?_
      rintro r wq ⟨rfl, hw⟩
      rw [hw]
      clear hw
      generalize x % 100 = y at *
      generalize sumF (fun t => ns.getD t 0) k = S at *
      obtain ⟨b0, b1⟩ := hsu
      have hT1 := Has.new wr (evL [⟨1, 0, 0⟩, ⟨3, 0, y + 1⟩, ⟨2, 0, 0⟩]).toArray 40
      have hO5 : (wr.alloc (.cells (evL [⟨1, 0, 0⟩, ⟨3, 0, y + 1⟩, ⟨2, 0, 0⟩]).toArray 40)).ownsRow wr.heap.size 40 3 (.slice (some ⟨wr.heap.size, 0, none⟩) 3 3) 3 (evL (addU (ns.getD k 0))) := by
        rw [HG.out]
        exact own_full hT1 (Nat.le_refl _) rfl (by unfold maxLen; omega)
      have hb5 := (Below.refl wr.heap.size wr).alloc (Nat.le_refl _) (.cells (evL [⟨1, 0, 0⟩, ⟨3, 0, y + 1⟩, ⟨2, 0, 0⟩]).toArray 40)
      clear d0 hT1
      go_upto_region 11 with fail
      generalize hW5 : World.alloc _ _ = w5
      have hO5 : w5.ownsRow wr.heap.size 40 3 (.slice (some ⟨wr.heap.size, 0, none⟩) 3 3) 3 (evL (addU (ns.getD k 0))) := by rw [← hW5]; exact hO5
      have hb5 : Below wr.heap.size wr w5 := by rw [← hW5]; exact hb5
      have hI5 := hA.below hb5
      have HFAR := Lib.hid (fun b hb => (hA.f.lt b hb).2)
      have hs5 := hb5.size
      have hbb5 := hb.trans (hb5.mono hb.size)
      have hwr := hb.size
      clear hA hb hW5
      have x0 : w5.cell? ⟨g, 0, none⟩ = some (.slice a0 k c0) := by rw [hI5.p.cellAt 0 (by omega)]; rfl
      have hgw5 : g < w5.heap.size := by omega
      have n0 : (0 : Int) < ((k + 1 : Nat) : Int) := by omega
      have n1 : (0 : Int) < (k : Int) + 1 := by omega
      have n2 : 0 < k + 1 := by omega
      have hT6 := Has.new w5 (evL [⟨6, ((k + 1 : Nat) : Int), 0⟩]).toArray 40
      have x6 : (w5.alloc (.cells (evL [⟨6, ((k + 1 : Nat) : Int), 0⟩]).toArray 40)).cell? ⟨g, 0, none⟩ = some (.slice a0 k c0) := (((Below.refl _ _).alloc (Nat.le_refl _) _).cell hgw5).trans x0
      have hf6 := hI5.f.alloc (.cells (evL [⟨6, ((k + 1 : Nat) : Int), 0⟩]).toArray 40)
      have hp6 := hI5.p.alloc (.cells (evL [⟨6, ((k + 1 : Nat) : Int), 0⟩]).toArray 40)
      have hb6 := hbb5.alloc (by omega) (.cells (evL [⟨6, ((k + 1 : Nat) : Int), 0⟩]).toArray 40)
      go_wp2_with (at_builtin; refine app_list _ rfl (.tmp 41) (.tmp 45) 38 rfl Try.underlying38 hi hz0 hz1 hz2 rfl (by decide) rfl hf6 rfl (m := 1) (news := evL [⟨6, ((k + 1 : Nat) : Int), 0⟩]) ⟨rfl, .inr ⟨_, rfl, fun j u hu => hT6.cell_add (by simpa using hu)⟩⟩ (evL_one _) (by unfold maxLen; omega) (by omega) (by simp; omega) ?_)
      intro v46 w7 hA3
      have hA3' : Appended (w5.alloc (.cells (evL [⟨6, ((k + 1 : Nat) : Int), 0⟩]).toArray 40)) w7 w.heap.size 40 3 (.slice a0 k c0) v46 (k + 1) (evL (frkT (k + 1))) := by
        rw [frkT_succ, evL_append]; exact hA3
      have hp7 := hp6.kept hA3'.grown (own_types hp6 hf6 (by decide))
      have hb7 := hA3'.below hf6 hb6 (by simp; omega)
      obtain ⟨a46, c46, rfl⟩ : ∃ a c, v46 = .slice a (k + 1) c := by
        obtain ⟨g', cap', h', _⟩ := own_at hA3'.own
        exact ⟨_, _, h'⟩
      have x7 : w7.cell? ⟨g, 0, none⟩ = some (.slice a0 k c0) := by rw [hp7.cellAt 0 (by omega)]; rfl
      have f7 := hp7.frozenAt 0
      obtain ⟨p8, hg8⟩ := hp7.stored 0 (.slice a46 (k + 1) c46)
      have hb8 := hb7.setCell (show w.heap.size ≤ (⟨g, 0, none⟩ : Addr).block from hgb) (.slice a46 (k + 1) c46)
      have hgr6 := World.grownBy_alloc w5 (.cells (evL [⟨6, ((k + 1 : Nat) : Int), 0⟩]).toArray 40) none
      clear hA3 hp6 hf6 hb6 x0 x6 hT6 hp7
      generalize hW8 : w7.setCell ⟨g, 0, none⟩ (.slice a46 (k + 1) c46) = w8 at *
      have hT9 := Has.new w8 #[.slice (some ⟨wr.heap.size, 0, none⟩) 3 3] 38
      have hgr9 := World.grownBy_alloc w8 (.cells #[.slice (some ⟨wr.heap.size, 0, none⟩) 3 3] 38) none
      have hs8 := hb8.size
      have hb9 := hb8.alloc hs8 (.cells #[.slice (some ⟨wr.heap.size, 0, none⟩) 3 3] 38)
      have p9 := p8.alloc (.cells #[.slice (some ⟨wr.heap.size, 0, none⟩) 3 3] 38)
      have HW8 := Lib.hid hW8
      go_upto_region 12 with fail
      try rw [hW8]
      clear hW8 x7 f7 hg8 hb7
      go_wp2_with (at_builtin; refine app_list _ rfl (.tmp 48) (.tmp 50) 22 rfl Try.underlying22 hj jz0 jz1 jz2 rfl (by decide) rfl p9 rfl (m := 1) (news := [.slice (some ⟨wr.heap.size, 0, none⟩) 3 3]) ⟨rfl, .inr ⟨_, rfl, fun j u hu => hT9.cell_add (by simpa using hu)⟩⟩ (by intro u hu; simp at hu; subst hu; rfl) (by unfold maxLen; omega) (by omega) (by simp; omega) ?_)
      intro v51 w10 hB
      have hAI := hI5.step rfl hO5 (by omega) HFAR.out (by simp [Value.ownBlock]) hgr6 hA3' HW8.out.symm hgr9 hB
      have hb10 := hB.below p9 hb9 (by simp; omega)
      clear hB hA3' p8 p9 hb9 hb8 hI5 hO5 hT9 hgr6 hgr9
      go_wp2
      go_roundw
      case rel => exact ⟨k + 1, _, _, by omega, by go_num, by rw [HSS.out, HG.out], hAI, hb10⟩
      case measure => (simp [intOf]; try omega)
    · obtain rfl : k = l.length := by omega
      rw [← HLEN.out] at hA ⊢
      obtain ⟨a9, c9, rfl, hP⟩ := hA.pgS (by rw [HLEN.out]; omega)
      clear hA
      go_wp2
      go_ret2
      exact ⟨_, _, rfl, hP, hb⟩
end Go.Proofs.Ytoohconipcleiaa

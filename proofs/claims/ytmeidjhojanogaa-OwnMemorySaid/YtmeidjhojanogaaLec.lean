/- Contracts: Clone of events whatever the slice; Delete of one event out of an own row. -/
import Derived.Test.YtmeidjhojanogaaLeb
namespace Go.Proofs.Ytmeidjhojanogaa
open Go.RowKit

theorem nil_ev2 (c : Nat) (w : World) : (binOp .eql 22 (.slice none 0 c) (.slice none 0 0)).run Try.prog w = .ok (.bool true) w := by kernel_rfl
theorem nil_ev3 (x : Addr) (c : Nat) (w : World) : (binOp .eql 22 (.slice (some x) 0 c) (.slice none 0 0)).run Try.prog w = .ok (.bool false) w := by kernel_rfl
set_option maxRecDepth 100000 in
set_option maxHeartbeats 1000000 in
theorem clone_all (l : List Ev) (a : Option Addr) (c : Nat) (w : World) (h : EvS w a l) (h24 : l.length * 24 ≤ 140737488351232) :
    Calls Try.prog 13 #[.slice a l.length c] w (ClonePost l w) := by
  by_cases hl : l = []
  · subst hl
    rw [List.length_nil]
    cases a with
    | none =>
      have hnil := nil_ev2 c
      go_enter Try.func13, Try.ntmps13
      go_wp2
      go_ret
      exact ⟨_, rfl, World.ownsRow_nil _ _ _ _, Below.refl _ _⟩
    | some x =>
      obtain ⟨i0, hi, hz0, hz1, hz2⟩ := info_parts infoE
      have hN := Has.new w #[] 26
      have hown := own_full (base := w.heap.size) (size := 3) (n := 0) hN (Nat.le_refl _) rfl (by decide)
      have hb := (Below.refl w.heap.size w).alloc (Nat.le_refl _) (.cells #[] 26)
      have S1 : Src (w.alloc (.cells #[] 26)) 3 (some x) 0 [] := ⟨rfl, .inl ⟨rfl, rfl⟩⟩
      have hnil := nil_ev3 x c
      go_enter Try.func13, Try.ntmps13
      go_wp2_with (at_builtin; refine app_list _ rfl (.tmp 5) (.tmp 6) 22 rfl Try.underlying22 hi hz0 hz1 hz2 rfl (by decide) rfl hown rfl S1 (by intro u hu; cases hu) (by decide) (by decide) (by simp) ?_)
      intro v w2 hAp
      have hb2 := hAp.below hown hb (by simp)
      go_wp2
      go_ret
      exact ⟨_, rfl, hAp.own, hb2⟩
  · exact cloneEv_any l a c w h hl h24

section
variable {P : Program} (w : World)
/-- An append for which there is room. In a region that draws. -/
theorem fits_step {ops : Array Oper} {o : Oper} {a : Act} {K : Act → World → Prop} {Q : Exit → Act → World → Prop} {E : Prop} (hgd : o.guard = none) (s x : Operand) (t : TypeId) (ho : o.op = .call { callee := .builtin .append, args := #[s, x], argTypes := #[t, t] })
    {base : Nat} {e : TypeId} {i : TypeInfo} {size : Nat} (ht : P.underlying t = some (.slice e)) (hi : P.info? e = some i) (hsize : i.size = size)
    {g n cap : Nat} {xs : List Value} (hv : a.eval s = .slice (some ⟨g, 0, none⟩) n cap) (hown : w.ownsRow base e size (.slice (some ⟨g, 0, none⟩) n cap) n xs)
    {ad : Addr} {m c : Nat} {news : List Value} (hx : a.eval x = .slice (some ad) m c) (hl : news.length = m * size) (hnews : ∀ j u, news[j]? = some u → w.cell? (ad.add j) = some u) (h1 : ∀ u ∈ news, u.oneCell' = true)
    (hroom : n + m ≤ cap)
    (h : ∀ w', w'.ownsRow base e size (.slice (some ⟨g, 0, none⟩) (n + m) cap) (n + m) (xs ++ news) → w.grownBy w' (some g) → K (a.put o.dst (.slice (some ⟨g, 0, none⟩) (n + m) cap)) w') :
    if Region.wanted o (yielded ops a.tmps) = true then Oper.wp P o a w K Q else E := by
  have hw : Region.wanted o (yielded ops a.tmps) = true := by simp [Region.wanted, hgd]
  rw [if_pos hw]
  obtain ⟨w', hrun, r1, r2⟩ := run_append_fits (P := P) w base t o.type e i size ht hi hsize g n cap xs hown ad m c news hl hnews h1 hroom
  unfold Oper.wp
  simp [execOp, ho, resolve, invoke, builtin, hv, hx, hrun, Result.andThen]
  exact h w' r1 r2
end
theorem zero_ev (w : World) : (zeroValue 26).run Try.prog w = .ok (.agg #[.int .i64 0, .int .i64 0, .int .i64 0]) w := by kernel_rfl
/-- 'clear' of one event at the end of an own row. -/
theorem clear_one {w : World} {base g N cap : Nat} {xs : List Value} (h : w.ownsRow base 26 3 (.slice (some ⟨g, 0, none⟩) N cap) N xs) (hN : N < cap) (c : Nat) :
    ∃ w', (∀ ty, (Builtin.clear_ #[22] ty #[.slice (some ⟨g, N * 3, none⟩) 1 c]).run Try.prog w = .ok (.tuple #[]) w') ∧ w'.ownsRow base 26 3 (.slice (some ⟨g, 0, none⟩) N cap) N xs ∧ w.grownBy w' (some g) := by
  rcases h.2 with ⟨e, _⟩ | ⟨g', cap', cur, e, hbg, hh, hnc, hcm, hcs, ht⟩
  · cases e
  · simp only [Value.slice.injEq, Option.some.injEq, Addr.mk.injEq, and_true, true_and] at e
    obtain ⟨rfl, rfl⟩ := e
    have hst : (storeCells ⟨g, N * 3, none⟩ [Value.int .i64 0, .int .i64 0, .int .i64 0] 0).run Try.prog w = .ok () (w.setRow g (cur.toList.take (N * 3) ++ [Value.int .i64 0, .int .i64 0, .int .i64 0] ++ cur.toList.drop (N * 3 + 3)).toArray) :=
      run_storeCells_at Try.prog g (N * 3) 26 [.int .i64 0, .int .i64 0, .int .i64 0] 0 cur w hh (by simp; omega) (by intro v hv; simp at hv; subst hv; rfl)
    have hzc : (Builtin.zeroCells #[Value.int .i64 0, .int .i64 0, .int .i64 0] 1).toList = [.int .i64 0, .int .i64 0, .int .i64 0] := by kernel_rfl
    have hcl : ∀ ty, (Builtin.clear_ #[22] ty #[.slice (some ⟨g, N * 3, none⟩) 1 c]).run Try.prog w = .ok (.tuple #[]) (w.setRow g (cur.toList.take (N * 3) ++ [Value.int .i64 0, .int .i64 0, .int .i64 0] ++ cur.toList.drop (N * 3 + 3)).toArray) := fun ty => by
      have hu := run_underlying (w := w) Try.underlying22
      simp [Builtin.clear_, hu, hzc, hst, Value.cells]
    refine ⟨_, hcl, ⟨h.1, .inr ⟨g, cap, _, rfl, hbg, setRow_heap w g cur _ _ _ hh, hnc, hcm, ?_, ?_⟩⟩, ⟨rfl, rfl, rfl, by simp, fun k _ hk => setRow_other w g k _ (fun e => hk (by simp [e]))⟩⟩
    · simp
      omega
    · rw [List.append_assoc, List.take_append_of_le_length (by simp; omega), List.take_take, Nat.min_self, ht]
theorem ownsRow_take {w : World} {base e g n cap k : Nat} {l : List Ev} (h : w.ownsRow base e 3 (.slice (some ⟨g, 0, none⟩) n cap) n (evL l)) (hl : l.length = n) (hk : k ≤ n) :
    w.ownsRow base e 3 (.slice (some ⟨g, 0, none⟩) k cap) k (evL (l.take k)) := by
  have hlen : (l.take k).length = k := by simp; omega
  rcases h.2 with ⟨e, _⟩ | ⟨g', cap', cur, e, hbg, hh, hnc, hcm, hcs, ht⟩
  · cases e
  · simp only [Value.slice.injEq, Option.some.injEq, Addr.mk.injEq, and_true, true_and] at e
    obtain ⟨rfl, rfl⟩ := e
    refine ⟨by rw [evL_length, hlen], .inr ⟨g, cap, cur, rfl, hbg, hh, by omega, hcm, hcs, ?_⟩⟩
    have h1 : evL l = evL (l.take k) ++ evL (l.drop k) := by rw [← evL_append, List.take_append_drop]
    have h2 : cur.toList.take (k * 3) = (cur.toList.take (n * 3)).take (k * 3) := by rw [List.take_take, Nat.min_eq_left (by omega)]
    rw [h2, ht, h1, List.take_append_of_le_length (by rw [evL_length, hlen]; exact Nat.le_refl _), List.take_of_length_le (by rw [evL_length, hlen]; exact Nat.le_refl _)]
theorem ownsRow_cells {w : World} {base e g n cap : Nat} {l : List Ev} (h : w.ownsRow base e 3 (.slice (some ⟨g, 0, none⟩) n cap) n (evL l)) (k : Nat) :
    ∀ j u, (evL (l.drop k))[j]? = some u → w.cell? ((⟨g, k * 3, none⟩ : Addr).add j) = some u := by
  intro j u hj
  have hk : k ≤ l.length := by
    rcases Nat.lt_or_ge l.length k with h1 | h1
    · rw [List.drop_eq_nil_of_le (by omega)] at hj
      simp [evL] at hj
    · exact h1
  have hlen : (evL (l.take k)).length = k * 3 := by rw [evL_length]; simp; omega
  have h1 : evL l = evL (l.take k) ++ evL (l.drop k) := by rw [← evL_append, List.take_append_drop]
  have h2 : (evL l)[k * 3 + j]? = some u := by
    rw [h1, List.getElem?_append_right (by omega), hlen, Nat.add_sub_cancel_left]
    exact hj
  have h3 := h.cells (g := g) rfl _ _ h2
  have hadd : ∀ o n, (⟨g, o, none⟩ : Addr).add n = ⟨g, o + n, none⟩ := by intro o n; unfold Addr.add; split <;> simp_all
  rw [hadd] at h3 ⊢
  rw [Nat.zero_add] at h3
  exact h3
/-- What is left behind a Delete. -/
def DelPost (base g cap N : Nat) (l : List Ev) (w : World) (r : Ending) (w' : World) : Prop := r = .returned (.slice (some ⟨g, 0, none⟩) N cap) ∧ w'.ownsRow base 26 3 (.slice (some ⟨g, 0, none⟩) N cap) N (evL l) ∧ w.grownBy w' (some g)
theorem erase_parts (l : List Ev) (b : Nat) : evL (l.take b) ++ evL (l.drop (b + 1)) = evL (l.eraseIdx b) := by
  rw [← evL_append, List.eraseIdx_eq_take_drop_succ]
set_option maxRecDepth 100000 in
set_option maxHeartbeats 4000000 in
theorem delete_one (l : List Ev) (N b g cap base : Nat) (hl : l.length = N + 1) (hb : b ≤ N) (w : World) (hown : w.ownsRow base 26 3 (.slice (some ⟨g, 0, none⟩) (N + 1) cap) (N + 1) (evL l)) :
    Calls Try.prog 23 #[.slice (some ⟨g, 0, none⟩) ((N + 1 : Nat)) cap, .int .i64 (b : Int), .int .i64 ((b : Int) + 1)] w (DelPost base g cap N (l.eraseIdx b) w) := by
  obtain ⟨i0, hi, hz0, hz1, hz2⟩ := info_parts infoE
  have hcap : N + 1 ≤ cap := by
    rcases hown.2 with ⟨e, _⟩ | ⟨g', cap', cur, e, _, _, hnc, _⟩
    · cases e
    · cases e; exact hnc
  have HE := Lib.hid (erase_parts l b)
  have t1 : ((b : Int) == (b : Int) + 1) = false := by rw [beq_eq_false_iff_ne]; omega
  have b0 : (0 : Int) ≤ b := by omega
  have b1 : (b : Int) ≤ (b : Int) + 1 := by omega
  have b2 : (b : Int) + 1 ≤ (N : Int) + 1 := by omega
  have b3 : (N : Int) + 1 ≤ cap := by omega
  have b4 : (0 : Int) ≤ (b : Int) + 1 := by omega
  have b5 : (b : Int) ≤ cap := by omega
  have b6 : (b : Int) + 1 ≤ cap := by omega
  have hbN : b + (N - b) = N := by omega
  have hnb : N + 1 - (b + 1) = N - b := by omega
  have htk := ownsRow_take hown hl (show b ≤ N + 1 by omega)
  have hdl : (evL (l.drop (b + 1))).length = (N - b) * 3 := by rw [evL_length]; simp; omega
  have hcd := ownsRow_cells hown (b + 1)
  by_cases hcb : cap = b + 1
  · obtain rfl : N = b := by omega
    subst hcb
    go_enter Try.func23, Try.ntmps23
    go_upto_region 5 with fail
    go_region_law (first
      | (refine fits_step _ rfl (.tmp 22) (.tmp 25) 22 rfl Try.underlying22 hi hz1 (by conv => lhs; simp [go_sem]) (own_below htk ((Below.refl _ _).drew)) (ad := ⟨g, 0, none⟩) (m := 0) (c := 0) (news := evL []) (by simp [go_sem]) rfl (fun j u hu => by simp [evL] at hu) (evL_one _) (by omega) ?_; intro w6 ho6 hg6))
    all_goals
      have hd0 : l.drop (N + 1) = [] := List.drop_eq_nil_of_le (by omega)
      rw [Nat.add_zero] at ho6
      have ho7 : w6.ownsRow base 26 3 (.slice (some ⟨g, 0, none⟩) N (N + 1)) N (evL (l.eraseIdx N)) := by
        rw [← HE.out, hd0]
        exact ho6
      have hgd : w.grownBy w6 (some g) := ⟨hg6.os, hg6.tape, hg6.output, hg6.size, hg6.block⟩
      obtain ⟨w7, hcl, ho8, hg8⟩ := clear_one ho7 (Nat.lt_succ_self N) 1
      clear ho6 ho7 hcd htk hdl HE hown
      go_wp2
      go_ret
      exact ⟨rfl, ho8, hgd.trans hg8⟩
  · have hcb2 : b + 1 < cap := by omega
    go_enter Try.func23, Try.ntmps23
    go_upto_region 5 with fail
    go_region_law (first
      | (refine fits_step _ rfl (.tmp 22) (.tmp 25) 22 rfl Try.underlying22 hi hz1 (by conv => lhs; simp [go_sem]) (own_below htk ((Below.refl _ _).drew)) (ad := ⟨g, (b + 1) * 3, none⟩) (m := N - b) (c := cap - (b + 1)) (news := evL (l.drop (b + 1))) (by simp [go_sem]) hdl hcd (evL_one _) (by omega) ?_; intro w6 ho6 hg6))
    all_goals
      rw [hbN] at ho6
      have ho7 : w6.ownsRow base 26 3 (.slice (some ⟨g, 0, none⟩) N cap) N (evL (l.eraseIdx b)) := by
        rw [← HE.out]
        exact ho6
      have hgd : w.grownBy w6 (some g) := ⟨hg6.os, hg6.tape, hg6.output, hg6.size, hg6.block⟩
      obtain ⟨w7, hcl, ho8, hg8⟩ := clear_one ho7 (show N < cap by omega) (cap - N)
      have hnc : ¬ cap = N := by omega
      have n1 : (N : Int) ≤ (N : Int) + 1 := by omega
      have n0 : (0 : Int) ≤ N := by omega
      clear ho6 ho7 hcd htk hdl HE hown
      go_wp2
      go_ret
      exact ⟨rfl, ho8, hgd.trans hg8⟩
end Go.Proofs.Ytmeidjhojanogaa

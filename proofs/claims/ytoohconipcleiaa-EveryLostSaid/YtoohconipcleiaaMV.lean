/- Joined texts. -/
import Derived.Test.YtoohconipcleiaaEvK
import Derived.Test.YtoohconipcleiaaMT
import Derived.Test.YtoohconipcleiaaMU
import Derived.Test.YtoohconipcleiaaMF

/- What a walk keeps: all blocks but some; who visits it. No walk. -/
namespace Go.Proofs.Ytoohconipcleiaa
open Go.RowKit

/-- All lies as it lay, but for the blocks of X. -/
structure Kept (X : Nat → Prop) (w w' : World) : Prop where
  os : w'.os = w.os
  tape : w'.tape = w.tape
  output : w'.output = w.output
  size : w.heap.size ≤ w'.heap.size
  block : ∀ k, k < w.heap.size → ¬ X k → w'.heap[k]? = w.heap[k]?
/-- The second set adds new blocks alone. -/
def NewX (w : World) (X X' : Nat → Prop) : Prop := ∀ k, X' k → X k ∨ w.heap.size ≤ k
section
variable {X X' X'' Y : Nat → Prop} {w w' w'' : World}
theorem Kept.of_below (h : Below w.heap.size w w') : Kept X w w' := ⟨h.os, h.tape, h.output, h.size, fun k hk _ => h.block k hk⟩
theorem Kept.refl (X : Nat → Prop) (w : World) : Kept X w w := ⟨rfl, rfl, rfl, Nat.le_refl _, fun _ _ _ => rfl⟩
theorem Kept.trans (h : Kept X w w') (k : Kept X' w' w'') (hx : NewX w X X') : Kept X w w'' :=
  ⟨k.os.trans h.os, k.tape.trans h.tape, k.output.trans h.output, Nat.le_trans h.size k.size, fun j hj hn => (k.block j (Nat.lt_of_lt_of_le hj h.size) fun hj' => by
    rcases hx j hj' with c | c
    · exact hn c
    · omega).trans (h.block j hj hn)⟩
theorem Kept.wide (h : Kept X w w') (hx : ∀ k, X k → Y k) : Kept Y w w' := ⟨h.os, h.tape, h.output, h.size, fun k hk hn => h.block k hk fun c => hn (hx k c)⟩
theorem Kept.below {B : Nat} (h : Kept X w w') (hB : B ≤ w.heap.size) (hx : ∀ k, X k → B ≤ k) : Below B w w' :=
  ⟨h.os, h.tape, h.output, h.size, fun k hk => h.block k (by omega) fun c => by have := hx k c; omega⟩
theorem Kept.heap (h : Kept X w w') {k : Nat} (hk : k < w.heap.size) (hn : ¬ X k) : w'.heap[k]? = w.heap[k]? := h.block k hk hn
theorem Kept.cell (h : Kept X w w') {a : Addr} {v : Value} (hc : w.cell? a = some v) (hn : ¬ X a.block) : w'.cell? a = some v :=
  (World.cell?_of_block (h.block _ (World.block_lt_of_cell? w _ hc) hn)).trans hc
theorem Kept.has (h : Kept X w w') {b : Nat} {cs : Array Value} {T : TypeId} (hb : Has w b cs T) (hn : ¬ X b) : Has w' b cs T := ⟨(h.block b hb.lt hn).trans hb.out⟩
theorem Kept.ints (h : Kept X w w') {a : Option Addr} {l : List Int} (hl : IntS w a l) (hn : ∀ ad : Addr, a = some ad → ¬ X ad.block) : IntS w' a l := by
  refine ⟨hl.big, ?_⟩
  rcases hl.ok with h0 | ⟨b, o, ha, hc⟩
  · exact .inl h0
  · exact .inr ⟨b, o, ha, fun i hi => h.cell (hc i hi) (show ¬ X b from hn ⟨b, o, none⟩ ha)⟩
theorem Kept.of_grown {b : Nat} (h : w.grownBy w' (some b)) (hb : X b) : Kept X w w' := ⟨h.os, h.tape, h.output, h.size, fun k hk hn => h.block k hk fun e => hn (by rw [Option.some.inj e]; exact hb)⟩
theorem NewX.refl (w : World) (X : Nat → Prop) : NewX w X X := fun _ h => .inl h
theorem NewX.trans (h : NewX w X X') (k : NewX w' X' X'') (hs : w.heap.size ≤ w'.heap.size) : NewX w X X'' := fun j hj => by
  rcases k j hj with c | c
  · exact h j c
  · exact .inr (by omega)
theorem NewX.not (h : NewX w X X') {k : Nat} (hk : k < w.heap.size) (hn : ¬ X k) : ¬ X' k := fun c => by
  rcases h k c with c | c
  · exact hn c
  · omega
end
/-- A copy of ints, nil too. -/
theorem cloneI_all (l : List Int) (a : Option Addr) (c : Nat) (w : World) (h : IntS w a l) (hn : l = [] → a = none ∧ c = 0) (h8 : l.length ≤ 1000) :
    Calls Try.prog 63 #[.slice a l.length c] w (CloneI l w) := by
  by_cases hl : l = []
  · obtain ⟨rfl, rfl⟩ := hn hl
    subst hl
    have hnil : (binOp .eql 23 (.slice none 0 0) (.slice none 0 0)).run Try.prog w = .ok (.bool true) w := by kernel_rfl
    go_enter Try.func63, Try.ntmps63
    go_wp2
    go_ret
    exact ⟨_, rfl, ⟨by simp, .inl ⟨rfl, by simp⟩⟩, Below.refl _ _⟩
  · exact cloneInt_any l a c w h hl h8
theorem newI (u : World) (m : Int) : IntS (u.alloc (.cells #[.int .i64 m] 3)) (some ⟨u.heap.size, 0, none⟩) [m] := intS_full (l := [m]) (Has.new u _ _) rfl (by simp)
/-- A row of ints that the call made since it had B blocks. -/
def CloF (B : Nat) (l : List Int) (v : Value) (w : World) : Prop := ∃ base, B ≤ base ∧ base ≤ w.heap.size ∧ w.ownsRow base 3 1 v l.length (ints l)
def RowF (B : Nat) (l : List Int) (v : Value) (w : World) : Prop := ∃ b o c, v = .slice (some ⟨b, o, none⟩) l.length c ∧ B ≤ b ∧ b < w.heap.size ∧ IntS w (some ⟨b, o, none⟩) l
theorem CloF.on {B : Nat} {l : List Int} {v : Value} {w w' : World} (h : CloF B l v w) (k : Below w.heap.size w w') : CloF B l v w' := by
  obtain ⟨b, h1, h2, h3⟩ := h
  exact ⟨b, h1, Nat.le_trans h2 k.size, own_below h3 k⟩
theorem RowF.on {B : Nat} {l : List Int} {v : Value} {w w' : World} (h : RowF B l v w) (k : Below w.heap.size w w') : RowF B l v w' := by
  obtain ⟨b, o, c, h1, h2, h3, h4⟩ := h
  exact ⟨b, o, c, h1, h2, Nat.lt_of_lt_of_le h3 k.size, h4.below k⟩
theorem CloF.app {w0 w w' : World} {base : Nat} {l m : List Int} {v v' : Value} {n : Nat} (hA : Appended w w' base 3 1 v v' n (ints l ++ ints m)) (hn : n = (l ++ m).length) (hne : l ++ m ≠ []) (ho : w.ownsRow base 3 1 v l.length (ints l)) (hB : w0.heap.size ≤ base) (hs : w0.heap.size ≤ w.heap.size) (hl : (l ++ m).length < 4611686018427387904) :
    RowF w0.heap.size (l ++ m) v' w' ∧ Below w0.heap.size w w' := by
  have h1 := hA.own
  rw [hn, ← List.map_append] at h1
  obtain ⟨a, c, rfl, hI, hb⟩ := intS_own h1 hl
  refine ⟨?_, (Below.refl _ _).grown hA.grown hs fun k hk => Nat.le_trans hB (ho.lt k hk).1⟩
  rcases hI.ok with h0 | ⟨b, o, rfl, hc⟩
  · exact absurd h0 hne
  · refine ⟨b, o, c, rfl, Nat.le_trans hB (hb b rfl), ?_, hI⟩
    have h0 : 0 < (l ++ m).length := List.length_pos_iff.2 hne
    exact World.block_lt_of_cell? w' _ (hc 0 h0)
end Go.Proofs.Ytoohconipcleiaa

/- Contract of the walk over all states, for whoever visits it. -/
namespace Go.Proofs.Ytoohconipcleiaa
open Go.RowKit

abbrev wkT : TypeId := 183
theorem MapS.kept' {w w' : World} {b n : Nat} {S : List PS} {X : Nat → Prop} (h : MapS w b n S) (hk : Kept X w w') (hn : ¬ X b) : MapS w' b n S := by
  have hb := hk.block b h.lt hn
  obtain ⟨es, clock, h1, h2⟩ := h
  exact ⟨es, clock, hb.trans h1, h2⟩
/-- A visitor: its function, what is bound to it, its state in memory, which blocks it turns. -/
structure Visits {V : Type} (p : List (List Ev)) (w0 : World) (bm f : Nat) (lb : Array Value) (len : V → Nat) (go : V → PS → List Int → V × Bool) (Q : V → (Nat → Prop) → World → Prop) : Prop where
  grow : ∀ v s picks, len (go v s picks).1 ≤ len v + 1
  ent : ∀ args w, (callFunc f args).run Try.prog w = .ok (.enter f args) w
  call : ∀ v X w s picks a c, len v < 20000000000 → Q v X w → ¬ X bm → Below w0.heap.size w0 w → AtP p s picks → IntS w a picks → (∀ ad : Addr, a = some ad → ¬ X ad.block ∧ ad.block ≠ bm) →
    Calls Try.prog f (#[.agg (psC s), .slice a picks.length c] ++ lb) w fun r w' => r = .returned (.bool (go v s picks).2) ∧ ∃ X', Q (go v s picks).1 X' w' ∧ Kept X w w' ∧ NewX w X X'
  keep : ∀ v X w w', Q v X w → ¬ X bm → Kept (fun k => k = bm) w w' → Q v X w'
  lt : ∀ v X w, Q v X w → ∀ k, X k → w0.heap.size ≤ k ∧ k < w.heap.size
structure WalkI {V : Type} (p : List (List Ev)) (w0 : World) (ap : Option Addr) (cp bw bm f : Nat) (lb : Array Value) (len : V → Nat) (Q : V → (Nat → Prop) → World → Prop) (z : List PS × V) (X : Nat → Prop) (w : World) : Prop where
  st : Has w bw #[.slice ap p.length cp, .map (some bm), .func (.func f) #[] lb] wkT
  map : MapS w bm z.1.length z.1
  q : Q z.2 X w
  below : Below w0.heap.size w0 w
  nw : ¬ X bw
  nm : ¬ X bm
  ne : bw ≠ bm
  ge : w0.heap.size ≤ bm
  seen : ∀ x ∈ z.1, StZ x
  cnt : len z.2 ≤ z.1.length
section
variable {V : Type} {p : List (List Ev)} {w0 : World} {ap : Option Addr} {cp bw bm f : Nat} {lb : Array Value} {len : V → Nat} {go : V → PS → List Int → V × Bool} {Q : V → (Nat → Prop) → World → Prop} {z : List PS × V} {X : Nat → Prop} {w w' : World}
theorem WalkI.on (h : WalkI p w0 ap cp bw bm f lb len Q z X w) (hV : Visits p w0 bm f lb len go Q) (k : Below w.heap.size w w') : WalkI p w0 ap cp bw bm f lb len Q z X w' :=
  ⟨h.st.below k h.st.lt, h.map.kept (row := none) ⟨k.os, k.tape, k.output, k.size, fun j hj _ => k.block j hj⟩ (by simp), hV.keep _ _ _ _ h.q h.nm (Kept.of_below k), h.below.trans (k.mono h.below.size), h.nw, h.nm, h.ne, h.ge, h.seen, h.cnt⟩
set_option maxRecDepth 100000 in
theorem Has.loadSt {w : World} {B : Nat} {Y : Array Value} (h : Has w B Y psT) (hs : Y.size = 37) : (Instr.loadAt psT (.pointer (some ⟨B, 0, none⟩))).run Try.prog w = .ok (.agg Y) w := by
  have hr : w.rangeAt B 0 Y.toList := fun j v hv => by
    rw [Array.getElem?_toList] at hv
    rw [Nat.zero_add]
    exact h.cell hv
  have := run_loadAt_mid (P := Try.prog) w B 0 psT Y.toList _ hr Try.underlying90 rfl (by rw [Array.length_toList, hs]; rfl)
  rw [Array.toArray_toList] at this
  exact this
theorem WalkI.put (h : WalkI p w0 ap cp bw bm f lb len Q z X w) (hV : Visits p w0 bm f lb len go Q) {s : PS} (hM : MapS w' bm (z.1.length + 1) (z.1 ++ [s])) (hg : w.grownBy w' (some bm)) (hs : StZ s) : WalkI p w0 ap cp bw bm f lb len Q (z.1 ++ [s], z.2) X w' := by
  have hk : Kept (fun k => k = bm) w w' := Kept.of_grown hg rfl
  refine ⟨hk.has h.st h.ne, by simpa using hM, hV.keep _ _ _ _ h.q h.nm hk, h.below.trans (hk.below h.below.size fun k e => by rw [e]; exact h.ge), h.nw, h.nm, h.ne, h.ge, fun x hx => ?_, by have := h.cnt; simp; omega⟩
  rcases List.mem_append.1 hx with h1 | h1
  · exact h.seen x h1
  · rw [List.mem_singleton.1 h1]; exact hs
theorem WalkI.visit (h : WalkI p w0 ap cp bw bm f lb len Q z X w) (hV : Visits p w0 bm f lb len go Q) {v : V} {X' : Nat → Prop} (hQ : Q v X' w') (hk : Kept X w w') (hx : NewX w X X') (hc : len v ≤ z.1.length) : WalkI p w0 ap cp bw bm f lb len Q (z.1, v) X' w' :=
  ⟨hk.has h.st h.nw, h.map.kept' hk h.nm, hQ, h.below.trans (hk.below h.below.size fun k hk => (hV.lt _ _ _ h.q k hk).1), hx.not h.st.lt h.nw, hx.not h.map.lt h.nm, h.ne, h.ge, h.seen, hc⟩
def UnitF (v : Value) (w : World) : Prop := ∃ b, v = .pointer (some ⟨b, 0, none⟩) ∧ Has w b #[] 129
theorem psR_0 (s : PS) : psR s [] = psC s := psR_nil s
set_option maxRecDepth 100000 in
set_option maxHeartbeats 8000000 in
theorem from_ok (hp : OkP p) (hV : Visits p w0 bm f lb len go Q) (hpg : PgS w0 ap p) : ∀ (n : Nat) (z : List PS × V) (s : PS) (picks : List Int) (X : Nat → Prop) (w : World) (a : Option Addr) (c : Nat), WalkI p w0 ap cp bw bm f lb len Q z X w → AtP p s picks → totL p < sumA s + n → z.1.length + 7 ^ n < 20000000000 →
    IntS w a picks → (picks = [] → a = none ∧ c = 0) → (∀ ad : Addr, a = some ad → ¬ X ad.block ∧ ad.block ≠ bm) →
    Calls Try.prog 88 #[.pointer (some ⟨bw, 0, none⟩), .agg (psC s), .slice a picks.length c] w fun r w' => r = .returned (.bool (dfs p go n z s picks).2) ∧
      ∃ X', WalkI p w0 ap cp bw bm f lb len Q (dfs p go n z s picks).1 X' w' ∧ Kept (fun k => X k ∨ k = bm) w w' ∧ NewX w X X' := by
  intro n
  induction n with
  | zero => intro z s picks X w a c hI hs hn; have := sumA_tot hs.ip; omega
  | succ n ih =>
    intro z s picks X w a c hI hs hn hlen hpk hnil hX
    have hz := hs.stz hp
    have hXb : ∀ ad : Addr, a = some ad → ¬ (X ad.block ∨ ad.block = bm) := fun ad e h => h.elim (hX ad e).1 (hX ad e).2
    have hXs : ¬ X w.heap.size := fun h => by
      have := (hV.lt _ _ _ hI.q _ h).2
      omega
    have hbm : bm ≠ w.heap.size := fun e => by
      have := (hI.map.lt)
      omega
    have hY : (psC s).size = 37 := psC_size s
    have hY1 : (psC s).all (·.oneCell') = true := psC_one s
    have hlook := fun (W : World) (h : MapS W bm z.1.length z.1) => MapS.look h hI.seen hz
    have hput := fun (W : World) (h : MapS W bm z.1.length z.1) => MapS.put h (by unfold maxLen; have : 0 < 7 ^ (n + 1) := Nat.pow_pos (by decide); omega) hz
    generalize hq : seenB z.1 s = q at *
    have c0 : w.cell? ⟨bw, 0, none⟩ = some (.slice ap p.length cp) := hI.st.cell rfl
    obtain ⟨Y, hYe⟩ : ∃ Y, psC s = Y := ⟨_, rfl⟩
    rw [hYe] at hlook hput hY hY1 ⊢
    have h6 := hp.six
    go_enter Try.func88, Try.ntmps88
    go_upto_region 1 with fail
    generalize hW : w.alloc _ = W
    have hS : Has W w.heap.size Y psT := by rw [← hW]; exact Has.new w _ _
    have hk : Below w.heap.size w W := by rw [← hW]; exact (Below.refl _ _).alloc (Nat.le_refl _) _
    have hWs : W.heap.size = w.heap.size + 1 := by rw [← hW]; simp
    clear hW
    have hI1 := hI.on hV hk
    refine wp_region_fac 12 (fun _ => false) [.one ?x0, .one ?x1, .one ?x2, .one ?x3, .one ?x4, .one ?x5, .one ?x6, .one ?x7, .one ?x8, .rel UnitF, .one undef, .one ?x11] (by kernel_rfl) (by kernel_rfl) (by kernel_rfl) ?stx ?gox
    case stx =>
      intro F hF v w1 w2 h1 h2
      simp at hF
      subst hF
      obtain ⟨b, rfl, hb⟩ := h1
      exact ⟨b, rfl, hb.below h2 hb.lt⟩
    case gox =>
    simp only [List.take_succ_cons, List.take_zero, List.drop_succ_cons, List.drop_zero]
    have F1 : ∀ w1, Below W.heap.size W w1 → w1.cell? ⟨bw, 1, none⟩ = some (.map (some bm)) := fun w1 h1 => (hI1.st.below h1 hI1.st.lt).cell rfl
    have F3 : ∀ w1, Below W.heap.size W w1 → (Instr.lookup mapT (.map (some bm)) (.agg Y) true).run Try.prog w1 = .ok (.tuple #[.agg #[], .bool q]) w1 := fun w1 h1 => hlook w1 (hI1.on hV h1).map
    repeat (with_reducible refine wpFac_one rfl (fun w1 hw1 hd => ?_) (fun a1 ha1 => ?_); (· have eF1 := F1 w1 hw1; have eF3 := F3 w1 hw1; go_simp; first | exact rfl | (refine ⟨atD_some ?_, Below.refl _ _⟩; simp only [List.getElem?_toArray, List.getElem?_cons_succ, List.getElem?_cons_zero]; exact rfl)); simp [Act.put] at ha1; subst ha1)
    with_reducible refine wpFac_one rfl (fun w1 hw1 hd => ?_) (fun a1 ha1 => ?_)
    · refine asked rfl ?_
      refine wp_load_row 90 _ rfl (w.heap.size) rfl 90 Y (0, 0) _ (hS.below hw1 hS.lt).out Try.underlying90 rfl (by rw [hY]; rfl) ?_
      refine ⟨rfl, atD_some ?_, Below.refl _ _⟩
      simp [Act.put]
      exact rfl
    simp [Act.put] at ha1; subst ha1
    repeat (with_reducible refine wpFac_one rfl (fun w1 hw1 hd => ?_) (fun a1 ha1 => ?_); (· have eF1 := F1 w1 hw1; have eF3 := F3 w1 hw1; go_simp; first | exact rfl | (refine ⟨atD_some ?_, Below.refl _ _⟩; simp only [List.getElem?_toArray, List.getElem?_cons_succ, List.getElem?_cons_zero]; exact rfl)); simp [Act.put] at ha1; subst ha1)
    with_reducible refine wpFac_rel rfl (fun w1 hw1 hd => ?_) (fun v9 a1 ha1 => ?_)
    · go_simp
      refine ⟨_, atD_some ?_, ⟨_, rfl, Has.new _ _ _⟩, (Below.refl _ _).alloc (Nat.le_refl _) _⟩
      simp only [List.getElem?_toArray, List.getElem?_cons_succ, List.getElem?_cons_zero]
    simp [Act.put] at ha1; subst ha1
    with_reducible refine wpFac_one rfl (fun w1 hw1 hd => ?_) (fun a1 ha1 => ?_)
    · obtain ⟨b9, e9, hb9⟩ : UnitF v9 w1 := hd 9 (by kernel_rfl)
      subst e9
      go_simp
      exact ⟨trivial, Below.refl _ _⟩
    simp [Act.put] at ha1; subst ha1
    repeat (with_reducible refine wpFac_one rfl (fun w1 hw1 hd => ?_) (fun a1 ha1 => ?_); (· have eF1 := F1 w1 hw1; have eF3 := F3 w1 hw1; go_simp; first | exact rfl | (refine ⟨atD_some ?_, Below.refl _ _⟩; simp only [List.getElem?_toArray, List.getElem?_cons_succ, List.getElem?_cons_zero]; exact rfl)); simp [Act.put] at ha1; subst ha1)
    refine wpFac_nil ?_
    intro w1 hw1 _
    refine wpList_nil ?_
    have hI2 := hI1.on hV hw1
    have hS2 := hS.below hw1 hS.lt
    have hk2 := hk.trans (hw1.mono hk.size)
    clear F1 F3 hI1 hS hk hw1 hWs
    cases q
    · have hns : s ∉ z.1 := by simpa [seenB] using hq
      go_upto_region 4 with fail
      have F1 : ∀ w2, Below w1.heap.size w1 w2 → w2.cell? ⟨bw, 1, none⟩ = some (.map (some bm)) := fun w2 h2 => (hI2.st.below h2 hI2.st.lt).cell rfl
      refine wp_region_fac 6 (fun _ => false) [.one ?y0, .one ?y1, .one ?y2, .one ?y3, .one ?y4, .one ?y5] (by kernel_rfl) (by kernel_rfl) (by kernel_rfl) (by intro F hF; simp at hF) ?goy
      case goy =>
      simp only [List.take_succ_cons, List.take_zero, List.drop_succ_cons, List.drop_zero]
      repeat (with_reducible refine wpFac_one rfl (fun w1 hw1 hd => ?_) (fun a1 ha1 => ?_); (· have eF1 := F1 w1 hw1; go_simp; first | exact rfl | (refine ⟨atD_some ?_, Below.refl _ _⟩; simp only [List.getElem?_toArray, List.getElem?_cons_succ, List.getElem?_cons_zero]; exact rfl)); simp [Act.put] at ha1; subst ha1)
      with_reducible refine wpFac_one rfl (fun w1 hw1 hd => ?_) (fun a1 ha1 => ?_)
      · refine asked rfl ?_
        refine wp_load_row 90 _ rfl (w.heap.size) rfl 90 Y (0, 0) _ (hS2.below hw1 hS2.lt).out Try.underlying90 rfl (by rw [hY]; rfl) ?_
        refine ⟨rfl, atD_some ?_, Below.refl _ _⟩
        simp [Act.put]
        exact rfl
      simp [Act.put] at ha1; subst ha1
      repeat (with_reducible refine wpFac_one rfl (fun w1 hw1 hd => ?_) (fun a1 ha1 => ?_); (· have eF1 := F1 w1 hw1; go_simp; first | exact rfl | (refine ⟨atD_some ?_, Below.refl _ _⟩; simp only [List.getElem?_toArray, List.getElem?_cons_succ, List.getElem?_cons_zero]; exact rfl)); simp [Act.put] at ha1; subst ha1)
      refine wpFac_nil ?_
      intro w2 hw2 _
      have hI3 := hI2.on hV hw2
      have hS3 := hS2.below hw2 hS2.lt
      have hk3 := hk2.trans (hw2.mono hk2.size)
      obtain ⟨w3, hrun, hM3, hg3⟩ := hput w2 hI3.map
      go_wp2_with fail
      have hI4 := hI3.put hV hM3 hg3 hz
      have hS4 : Has w3 w.heap.size Y psT := (Kept.of_grown (X := fun k => k = bm) hg3 rfl).has hS3 (fun e => hbm e.symm)
      have hk4 : Kept (fun k => X k ∨ k = bm) w w3 := (Kept.of_below hk3).trans (Kept.of_grown hg3 (.inr rfl)) (NewX.refl _ _)
      clear hI3 hS3 hk3 hg3 hM3 hrun hI2 hS2 hk2 hw2 F1
      have F2 : ∀ w2, Below w3.heap.size w3 w2 → w2.cell? ⟨bw, 2, none⟩ = some (.func (.func f) #[] lb) := fun w2 h2 => (hI4.st.below h2 hI4.st.lt).cell rfl
      refine wp_region_fac 6 (fun _ => false) [.one ?z0, .one ?z1, .one ?z2, .one ?z3, .one ?z4, .one ?z5] (by kernel_rfl) (by kernel_rfl) (by kernel_rfl) (by intro F hF; simp at hF) ?goz
      case goz =>
      simp only [List.take_succ_cons, List.take_zero, List.drop_succ_cons, List.drop_zero]
      repeat (with_reducible refine wpFac_one rfl (fun w1 hw1 hd => ?_) (fun a1 ha1 => ?_); (· have eF2 := F2 w1 hw1; go_simp; first | exact rfl | (refine ⟨atD_some ?_, Below.refl _ _⟩; simp only [List.getElem?_toArray, List.getElem?_cons_succ, List.getElem?_cons_zero]; exact rfl)); simp [Act.put] at ha1; subst ha1)
      with_reducible refine wpFac_one rfl (fun w1 hw1 hd => ?_) (fun a1 ha1 => ?_)
      · refine asked rfl ?_
        refine wp_load_row 90 _ rfl (w.heap.size) rfl 90 Y (0, 0) _ (hS4.below hw1 hS4.lt).out Try.underlying90 rfl (by rw [hY]; rfl) ?_
        refine ⟨rfl, atD_some ?_, Below.refl _ _⟩
        simp [Act.put]
        exact rfl
      simp [Act.put] at ha1; subst ha1
      repeat (with_reducible refine wpFac_one rfl (fun w1 hw1 hd => ?_) (fun a1 ha1 => ?_); (· have eF2 := F2 w1 hw1; go_simp; first | exact rfl | (refine ⟨atD_some ?_, Below.refl _ _⟩; simp only [List.getElem?_toArray, List.getElem?_cons_succ, List.getElem?_cons_zero]; exact rfl)); simp [Act.put] at ha1; subst ha1)
      refine wpFac_nil ?_
      intro w4 hw4 _
      have hI5 := hI4.on hV hw4
      have hS5 := hS4.below hw4 hS4.lt
      have hk5 := hk4.trans (Kept.of_below (X := fun _ => False) hw4) (fun k h => h.elim)
      have hEnt := hV.ent
      have hpk5 := hk5.ints hpk hXb
      have hcnt := hI.cnt
      have hgrow := hV.grow z.2 s picks
      have hcall := hV.call z.2 X w4 s picks a c (by have : 0 < 7 ^ (n + 1) := Nat.pow_pos (by decide); omega) hI5.q hI5.nm hI5.below hs hpk5 hX
      rw [hYe] at hcall
      clear F2 hI4 hS4 hk4 hw4
      go_wp2_with fail
      refine hcall.mono ?_
      rintro r w6 ⟨rfl, X1, hQ6, hkv, hx1⟩
      have hI6 := hI5.visit hV hQ6 hkv hx1 (by simp; omega)
      have hS6 := hkv.has hS5 (fun h => by have := (hV.lt _ _ _ hI5.q _ h).2; exact hXs h)
      have hnx : NewX w X X1 := fun k h => (hx1 k h).imp id fun h => Nat.le_trans hk5.size h
      have hk6 := hk5.trans (hkv.wide (fun k h => .inl h)) (NewX.refl _ _)
      have hxn : ¬ X1 w.heap.size := hx1.not hS5.lt hXs
      clear hcall hI5 hS5 hkv hpk5 hQ6 hk5 hcnt hgrow
      generalize hgz : go z.2 s picks = gz at *
      obtain ⟨v1, g1⟩ := gz
      cases g1
      · go_wp2
        go_ret
        rw [dfs_stop hns (by rw [hgz]), hgz]
        exact ⟨rfl, X1, hI6, hk6, hnx⟩
      · obtain ⟨Kd, hKd⟩ : ∃ Kd, ∀ k, dfsK p go n z s picks k = Kd k := ⟨fun k => dfsK p go n z s picks k, fun _ => rfl⟩
        have K0 : Kd 0 = ((z.1 ++ [s], v1), true) := by rw [← hKd, dfsK_zero, hgz]
        have KS := Lib.hid (show ∀ k, Kd (k + 1) = dfsT p go n s picks (Kd k) k from fun k => by rw [← hKd, ← hKd, dfsK_succ])
        have KE := Lib.hid (show dfs p go (n + 1) z s picks = Kd p.length by rw [dfs_loop hns (by rw [hgz]), hKd])
        have KO := Lib.hid (show ∀ k, (Kd k).2 = false → k ≤ p.length → Kd p.length = Kd k from fun k h1 h2 => by
          rw [← hKd] at h1
          rw [← hKd, ← hKd]
          exact dfsK_off h1 _ h2)
        have KL := Lib.hid (show ∀ k, k < p.length → (Kd k).1.1.length + 7 ^ n < 20000000000 from fun k hk => by
          have h1 := dfsK_len (go := go) hp.six (dfs_len hp.six n) z s picks k
          rw [hKd] at h1
          have h6 := hp.six
          have h7 : k * 7 ^ n ≤ 5 * 7 ^ n := Nat.mul_le_mul_right _ (by omega)
          have h8 : 0 < 7 ^ n := Nat.pow_pos (by decide)
          rw [Nat.pow_succ] at hlen
          omega)
        have cp6 : w6.cell? ⟨bw, 0, none⟩ = some (.slice ap p.length cp) := hI6.st.cell rfl
        clear hlen hgz hKd hns hlook hput hq c0
        go_wp2
        go_loopw [40] (fun i wr => ∃ k : Nat, k ≤ p.length ∧ i = .int .i64 k ∧ ∃ X2, WalkI p w0 ap cp bw bm f lb len Q (Kd k).1 X2 wr ∧ (Kd k).2 = true ∧ Has wr w.heap.size Y psT ∧ Kept (fun k => X k ∨ k = bm) w wr ∧ NewX w X X2 ∧ ¬ X2 w.heap.size) (fun i _ => p.length - (intOf i).toNat)
        case atStart => exact ⟨0, Nat.zero_le _, rfl, X1, by rw [K0]; exact hI6, by rw [K0], hS6, hk6, hnx, hxn⟩
        case round =>
          clear hI6 hS6 hk6 hnx K0 cp6 hxn
          obtain ⟨k, hk, rfl, X2, hW, hok, hSr, hkr, hnr, hxr⟩ := hrel
          have cpr : wr.cell? ⟨bw, 0, none⟩ = some (.slice ap p.length cp) := hW.st.cell rfl
          by_cases hlt : k < p.length
          · have hC := can_any p s k ap cp w.heap.size [] psT wr (hpg.below hW.below) (by rw [psR_nil, hYe]; exact hSr) hp hs.ip
            generalize hqc : canB p s k = qc at *
            have k0 : (0 : Int) ≤ k := by omega
            have k1 : (k : Int) < p.length := by omega
            go_wp2_with fail
            refine hC.mono ?_
            rintro r w7 ⟨rfl, hb7⟩
            have hW7 := hW.on hV hb7
            have hS7 := hSr.below hb7 hSr.lt
            have hk7 := hkr.trans (Kept.of_below (X := fun _ => False) hb7) (fun k h => h.elim)
            clear hC hW hSr hkr hb7 cpr
            cases qc
            · go_wp2
              go_roundw
              case rel => exact ⟨k + 1, by omega, by go_num, X2, by rw [KS.out, dfsT_no hqc]; exact hW7, by rw [KS.out, dfsT_no hqc]; exact hok, hS7, hk7, hnr, hxr⟩
              case measure => (simp [intOf]; try omega)
            · have hZs := psC_size PS.zero
              go_wp2_with (first
                | (refine wpList_load_row rfl psT _ rfl w.heap.size rfl psT Y (0, 0) _ hS7.out Try.underlying90 rfl (by rw [hY]; rfl) ?_)
                | (refine wpList_store_row rfl psT _ _ rfl w7.heap.size Y rfl rfl psT _ (Has.new w7 (psC PS.zero) psT).out (by rw [hY]; rfl) (by rw [hY, hZs]) hY1 ?_
                   generalize hWx : World.setRow _ _ _ = W8
                   have hN8 : Has W8 w7.heap.size Y psT := by rw [← hWx]; exact (Has.new w7 (psC PS.zero) psT).setRow
                   have hb8 : Below w7.heap.size w7 W8 := by rw [← hWx]; exact below_setRow ((Below.refl _ _).alloc (Nat.le_refl _) _) (Nat.le_refl _)
                   have c8 : W8.cell? ⟨bw, 0, none⟩ = some (.slice ap p.length cp) := (hb8.cell hW7.st.lt).trans (hW7.st.cell rfl)
                   clear hWx))
              have hsum := sumA_le hp hs.ip
              have hsm := hs.small k
              have hpl : picks.length ≤ 72 := by rw [hs.len]; exact hsum
              have hst := step_any p s k ap cp w7.heap.size [] psT w0 W8 hpg (hW7.below.trans (hb8.mono hW7.below.size)) hW7.below.size (by rw [psR_nil, hYe]; exact hN8) hp hs.ip hqc ⟨by omega, by omega⟩
              clear hN8 hsm hsum
              refine hst.mono ?_
              rintro r w9 ⟨rfl, hN9, hg9⟩
              rw [psR_nil] at hN9
              have hb9 : Below w7.heap.size w7 w9 := hb8.grown hg9 hb8.size fun k hk => by cases hk; exact Nat.le_refl _
              have hW9 := hW7.on hV hb9
              have hS9 := hS7.below hb9 hS7.lt
              have hk9 := hk7.trans (Kept.of_below (X := fun _ => False) hb9) (fun k h => h.elim)
              have hs9 := hs.step (t := k) hp hqc
              clear hst hg9 hb9 hb8 c8 hW7 hS7 hk7
              have hpk9 := hk9.ints hpk hXb
              obtain ⟨Y2, hY2e⟩ : ∃ Y2, psC (stepP p s k).1 = Y2 := ⟨_, rfl⟩
              have hY2 : Y2.size = 37 := by rw [← hY2e]; exact psC_size _
              rw [hY2e] at hN9
              obtain ⟨i0, hi, hz0, hz1, hz2⟩ := info_parts infoI
              have hmk : ∀ (w : World), RowF w9.heap.size [(k : Int)] (.slice (some ⟨w.heap.size, 0, none⟩) 1 1) (w.alloc (.cells #[.int .i64 k] 3)) ∨ w.heap.size < w9.heap.size := fun w => by
                rcases Nat.lt_or_ge w.heap.size w9.heap.size with h | h
                · exact .inr h
                · exact .inl ⟨_, _, _, rfl, h, by simp, newI w k⟩
              have hclo := fun w1 (h1 : Below w9.heap.size w9 w1) => cloneI_all picks a c w1 (hpk9.below h1) hnil (by omega)
              go_upto_region 13 with fail
              refine wp_region_fac 7 (fun i => i == 6) [.one ?v0, .one ?v1, .one ?v2, .rel (CloF w9.heap.size picks), .one ?v4, .rel (RowF w9.heap.size [(k:Int)]), .rel (RowF w9.heap.size (picks ++ [(k:Int)]))] (by kernel_rfl) (by kernel_rfl) (by kernel_rfl) ?stv ?gov
              case stv =>
                intro F hF v w1 w2 h1 h2
                simp at hF
                rcases hF with rfl | rfl | rfl
                · exact h1.on h2
                · exact h1.on h2
                · exact h1.on h2
              case gov =>
              simp only [List.take_succ_cons, List.take_zero, List.drop_succ_cons, List.drop_zero]
              repeat (with_reducible refine wpFac_one rfl (fun w1 hw1 hd => ?_) (fun a1 ha1 => ?_); (· go_simp; first | exact rfl | (refine ⟨atD_some ?_, Below.refl _ _⟩; simp only [List.getElem?_toArray, List.getElem?_cons_succ, List.getElem?_cons_zero]; exact rfl)); simp [Act.put] at ha1; subst ha1)
              with_reducible refine wpFac_one rfl (fun w1 hw1 hd => ?_) (fun a1 ha1 => ?_)
              · refine asked rfl ?_
                refine wp_load_row 90 _ rfl (w7.heap.size) rfl 90 Y2 (0, 0) _ (hN9.below hw1 hN9.lt).out Try.underlying90 rfl (by rw [hY2]; rfl) ?_
                refine ⟨rfl, atD_some ?_, Below.refl _ _⟩
                simp [Act.put]
                exact rfl
              simp [Act.put] at ha1; subst ha1
              repeat (with_reducible refine wpFac_one rfl (fun w1 hw1 hd => ?_) (fun a1 ha1 => ?_); (· go_simp; first | exact rfl | (refine ⟨atD_some ?_, Below.refl _ _⟩; simp only [List.getElem?_toArray, List.getElem?_cons_succ, List.getElem?_cons_zero]; exact rfl)); simp [Act.put] at ha1; subst ha1)
              with_reducible refine wpFac_rel rfl (fun w1 hw1 hd => ?_) (fun v3 a1 ha1 => ?_)
              · go_simp
                refine (hclo w1 hw1).mono ?_
                rintro r w2 ⟨v, rfl, hO, hb⟩
                refine ⟨v, atD_some ?_, ⟨w1.heap.size, hw1.size, hb.size, hO⟩, hb⟩
                simp
              simp [Act.put] at ha1; subst ha1
              repeat (with_reducible refine wpFac_one rfl (fun w1 hw1 hd => ?_) (fun a1 ha1 => ?_); (· go_simp; first | exact rfl | (refine ⟨atD_some ?_, Below.refl _ _⟩; simp only [List.getElem?_toArray, List.getElem?_cons_succ, List.getElem?_cons_zero]; exact rfl)); simp [Act.put] at ha1; subst ha1)
              with_reducible refine wpFac_rel rfl (fun w1 hw1 hd => ?_) (fun v5 a1 ha1 => ?_)
              · go_simp
                refine ⟨_, atD_some ?_, (hmk w1).resolve_right (Nat.not_lt.2 hw1.size), (Below.refl _ _).alloc (Nat.le_refl _) _⟩
                simp only [List.getElem?_toArray, List.getElem?_cons_succ, List.getElem?_cons_zero]
              simp [Act.put] at ha1; subst ha1
              with_reducible refine wpFac_weak (by kernel_rfl) (fun w1 hw1 hd => ?_) (fun v6 a1 ha1 => ?_)
              · obtain ⟨base, hB, hbs, hO⟩ : CloF w9.heap.size picks v3 w1 := hd 3 (by kernel_rfl)
                obtain ⟨b5, o5, c5, e5, hB5, hlt5, hI5⟩ : RowF w9.heap.size [(k:Int)] v5 w1 := hd 5 (by kernel_rfl)
                subst e5
                refine app_step w1 rfl (.tmp 60) (.tmp 62) 23 rfl Try.underlying23 hi hz0 hz1 hz2 rfl (by decide) rfl hO rfl hI5.src (ints_one _) (by unfold maxLen; simp; omega) (by simp; omega) hbs ?_
                intro v' w2 hA
                obtain ⟨h1, h2⟩ := CloF.app hA (by simp) (by simp) hO hB hw1.size (by simp; omega)
                refine ⟨rfl, v', atD_some ?_, h1, h2⟩
                simp [Act.put]
              simp [Act.put] at ha1; subst ha1
              refine wpFac_nil ?_
              intro w10 hw10 hG
              obtain ⟨b6, o6, c6, e6, hB6, hlt6, hI6⟩ : RowF w9.heap.size (picks ++ [(k:Int)]) v6 w10 := hG 6 (by decide) (by kernel_rfl)
              subst e6
              have hW10 := hW9.on hV hw10
              have hS10 := hS9.below hw10 hS9.lt
              have hk10 := hk9.trans (Kept.of_below (X := fun _ => False) hw10) (fun k h => h.elim)
              have hnb : ¬ X2 b6 := fun h => by have := (hV.lt _ _ _ hW9.q _ h).2; omega
              have hnm : b6 ≠ bm := fun e => by have := hW9.map.lt; omega
              have hIH := ih (Kd k).1 (stepP p s k).1 (picks ++ [(k : Int)]) X2 w10 (some ⟨b6, o6, none⟩) c6 hW10 hs9 (by rw [sumA_step p s (by omega)]; omega) (KL.out k hlt) hI6 (fun h => by simp at h) (fun ad e => by cases e; exact ⟨hnb, hnm⟩)
              have HKS := KS.out k
              rw [dfsT_yes hok hqc] at HKS
              rw [← HKS, hY2e, List.length_append] at hIH
              clear hG hW9 hS9 hk9 hpk9 hclo hmk hN9 hw10 hI6 hnb hnm hlt6 hB6
              go_wp2_with fail
              refine hIH.mono ?_
              rintro r w11 ⟨rfl, X3, hW11, hkv, hx3⟩
              have hS11 := hkv.has hS10 (fun h => h.elim hxr (fun e => hbm e.symm))
              have hxr3 := hx3.not hS10.lt hxr
              have hk11 := hk10.trans hkv (fun k h => h.elim (fun h => (hnr k h).imp .inl id) (fun h => .inl (.inr h)))
              have hnr3 : NewX w X X3 := fun k h => (hx3 k h).elim (fun h => hnr k h) (fun h => .inr (Nat.le_trans hk10.size h))
              clear hIH hW10 hS10 hk10 hkv hx3 hnr hxr HKS
              generalize hfl : (Kd (k + 1)).2 = fl at *
              cases fl
              · go_wp2
                go_ret
                rw [KE.out, KO.out (k + 1) hfl (by omega), hfl]
                exact ⟨rfl, X3, hW11, hk11, hnr3⟩
              · go_wp2
                go_roundw
                case rel => exact ⟨k + 1, by omega, by go_num, X3, hW11, hfl, hS11, hk11, hnr3, hxr3⟩
                case measure => (simp [intOf]; try omega)
          · obtain rfl : k = p.length := by omega
            go_wp2
            go_ret
            rw [KE.out, hok]
            exact ⟨rfl, X2, hW, hkr, hnr⟩
    · have hin : s ∈ z.1 := by simpa [seenB] using hq
      go_wp2
      go_ret
      rw [dfs_seen hin]
      exact ⟨rfl, X, hI2, Kept.of_below hk2, NewX.refl _ _⟩
end
end Go.Proofs.Ytoohconipcleiaa

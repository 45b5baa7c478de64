/- The visitors that Ends and Way hand to the walk: their contracts. -/
import Derived.Test.YtoohconipcleiaaMV
import Derived.Test.YtoohconipcleiaaEvE
import Derived.Deep.MidRow
namespace Go.Proofs.Ytoohconipcleiaa
open Go.RowKit

theorem Kept.grown {X : Nat → Prop} {w0 w w' : World} {row : Option Nat} (h : Kept X w0 w) (k : w.grownBy w' row) (hr : ∀ b, row = some b → X b ∨ w0.heap.size ≤ b) : Kept X w0 w' :=
  ⟨k.os.trans h.os, k.tape.trans h.tape, k.output.trans h.output, Nat.le_trans h.size k.size, fun j hj hn => (k.block j (Nat.lt_of_lt_of_le hj h.size) fun e => by
    rcases hr j e.symm with c | c
    · exact hn c
    · omega).trans (h.block j hj hn)⟩
theorem Kept.set {X : Nat → Prop} {w0 w : World} (h : Kept X w0 w) {a : Addr} (ha : X a.block ∨ w0.heap.size ≤ a.block) (v : Value) : Kept X w0 (w.setCell a v) :=
  ⟨h.os, h.tape, h.output, by simpa [World.setCell] using h.size, fun j hj hn => (Below.heap_setCell _ _ _ _ (by
    intro e
    subst e
    rcases ha with c | c
    · exact hn c
    · omega)).trans (h.block j hj hn)⟩
theorem infoEn : (Try.prog.info? endT).map (fun i => (i.zero, i.size, i.bytes)) = some (some (.agg (endC PS.zero false false)), 20, 152) := by kernel_rfl
theorem fold_set : ∀ (z : List Value) (k : Nat) (A : Array Value), k + z.length ≤ A.size → ∀ j : Nat, ((z.zipIdx k).foldl (fun cs x => cs.setIfInBounds x.snd x.fst) A)[j]? = if k ≤ j ∧ j < k + z.length then z[j - k]? else A[j]?
  | [], k, A, _, j => by
    simp
    omega
  | v :: z, k, A, h, j => by
    rw [List.zipIdx_cons, List.foldl_cons, fold_set z (k + 1) _ (by simp at h ⊢; omega) j]
    simp only [List.length_cons] at h ⊢
    by_cases h1 : k + 1 ≤ j ∧ j < k + 1 + z.length
    · rw [if_pos h1, if_pos (by omega), show j - k = (j - (k + 1)) + 1 by omega]
      rfl
    · rw [if_neg h1]
      by_cases h2 : j = k
      · subst h2
        rw [if_pos (by omega), Array.getElem?_setIfInBounds, if_pos rfl, if_pos (by omega)]
        simp
      · rw [if_neg (by omega), Array.getElem?_setIfInBounds, if_neg (by omega)]
theorem fill_row {A Z : Array Value} (h : A.size = Z.size) : Array.foldl (fun cs x => cs.setIfInBounds x.snd x.fst) A Z.zipIdx 0 Z.size = Z := by
  have h1 : Array.foldl (fun cs x => cs.setIfInBounds x.snd x.fst) A Z.zipIdx 0 Z.size = (Z.toList.zipIdx 0).foldl (fun cs x => cs.setIfInBounds x.snd x.fst) A := by
    have := Array.foldl_toList (fun (cs : Array Value) (x : Value × Nat) => cs.setIfInBounds x.snd x.fst) (init := A) (xs := Z.zipIdx)
    rw [Array.toList_zipIdx, Array.size_zipIdx] at this
    exact this.symm
  rw [h1]
  apply Array.ext_getElem?
  intro j
  rw [fold_set Z.toList 0 A (by rw [Array.length_toList]; omega) j, Array.length_toList]
  by_cases c : 0 ≤ j ∧ j < 0 + Z.size
  · rw [if_pos c]; simp
  · rw [if_neg c, Array.getElem?_eq_none (by omega), Array.getElem?_eq_none (by omega)]
theorem fill20 {Z : Array Value} (h : Z.size = 20) : Array.foldl (fun cs x => cs.setIfInBounds x.snd x.fst) #[.int .i64 0, .int .i64 0, .int .i64 0, .int .i64 0, .int .i64 0, .int .i64 0, .int .i64 0, .int .i64 0, .int .i64 0, .int .i64 0, .int .i64 0, .int .i64 0, .int .i64 0, .int .i64 0, .int .i64 0, .int .i64 0, .int .i64 0, .int .i64 0, .bool false, .bool false] Z.zipIdx 0 20 = Z := by
  have := fill_row (A := #[.int .i64 0, .int .i64 0, .int .i64 0, .int .i64 0, .int .i64 0, .int .i64 0, .int .i64 0, .int .i64 0, .int .i64 0, .int .i64 0, .int .i64 0, .int .i64 0, .int .i64 0, .int .i64 0, .int .i64 0, .int .i64 0, .int .i64 0, .int .i64 0, .bool false, .bool false]) (Z := Z) (by rw [h]; rfl)
  rwa [h] at this
theorem cells_src {w : World} {b : Nat} {Z : Array Value} {T : TypeId} (h : Has w b Z T) {size : Nat} (hs : Z.size = size) : Src w size (some ⟨b, 0, none⟩) 1 Z.toList := by
  refine ⟨by rw [Array.length_toList, hs, Nat.one_mul], .inr ⟨_, rfl, fun j u hu => ?_⟩⟩
  have hadd : (⟨b, 0, none⟩ : Addr).add j = ⟨b, 0 + j, none⟩ := by unfold Addr.add; split <;> simp_all
  rw [hadd, Nat.zero_add]
  exact h.cell (by rw [Array.getElem?_toList] at hu; exact hu)
abbrev pgT : TypeId := 22
abbrev ensT : TypeId := 52
/-- The state of who looks for all ends. -/
structure QEnd (ap : Option Addr) (n cp bp bo bm : Nat) (out : List EnD) (X : Nat → Prop) (w : World) : Prop where
  pc : Has w bp #[.slice ap n cp] pgT
  lt : bp < bo
  row : ∃ v, Has w bo #[v] ensT ∧ w.ownsRow (bo + 1) endT 20 v out.length (enL out) ∧ ∀ k, X k ↔ k = bo ∨ v.ownBlock = some k
  num : ∀ x ∈ out, NumOk x.1
  ne : bp ≠ bm
theorem QEnd.keep {ap : Option Addr} {n cp bp bo bm : Nat} {out : List EnD} {X : Nat → Prop} {w w' : World} (h : QEnd ap n cp bp bo bm out X w) (hn : ¬ X bm) (k : Kept (fun k => k = bm) w w') : QEnd ap n cp bp bo bm out X w' := by
  obtain ⟨v, h1, h2, h3⟩ := h.row
  refine ⟨k.has h.pc h.ne, h.lt, ⟨v, k.has h1 fun e => hn ((h3 _).2 (.inl e.symm)), ?_, h3⟩, h.num, h.ne⟩
  exact h2.kept (row := some bm) ⟨k.os, k.tape, k.output, k.size, fun j hj hne => k.block j hj fun e => hne (by rw [e])⟩ (.inr fun e => hn ((h3 _).2 (.inr e)))
theorem QEnd.on {ap : Option Addr} {n cp bp bo bm : Nat} {out : List EnD} {X : Nat → Prop} {w0 w w' : World} (h : QEnd ap n cp bp bo bm out X w) (k : Below w.heap.size w w') (_ : Below w0.heap.size w0 w) : QEnd ap n cp bp bo bm out X w' := by
  obtain ⟨v, h1, h2, h3⟩ := h.row
  exact ⟨h.pc.below k h.pc.lt, h.lt, ⟨v, h1.below k h1.lt, own_below h2 k, h3⟩, h.num, h.ne⟩
set_option maxRecDepth 100000 in
set_option maxHeartbeats 8000000 in
theorem ends_call (p : List (List Ev)) (w0 : World) (ap : Option Addr) (cp bp bo bm : Nat) (hp : OkP p) (hpg : PgS w0 ap p) (out : List EnD) (X : Nat → Prop) (w : World) (s : PS) (picks : List Int) (a : Option Addr) (c : Nat)
    (hlen : out.length < 20000000000) (hQ : QEnd ap p.length cp bp bo bm out X w) (hb0 : Below w0.heap.size w0 w) (hs : AtP p s picks) (_ : w0.heap.size ≤ bp) :
    Calls Try.prog 56 #[.agg (psC s), .slice a picks.length c, .pointer (some ⟨bp, 0, none⟩), .pointer (some ⟨bo, 0, none⟩)] w fun r w' => r = .returned (.bool true) ∧ ∃ X', QEnd ap p.length cp bp bo bm (goE p out s picks).1 X' w' ∧ Kept X w w' ∧ NewX w X X' := by
  obtain ⟨v, hrow, hown, hX⟩ := hQ.row
  obtain ⟨av, cv, rfl, hES, hfar, hob⟩ := enS_own hown (by omega)
  have hpc := hQ.pc
  have hltb := hQ.lt
  have hSz : (psC s).size = 37 := psC_size s
  have hXs : ∀ k, X k → k < w.heap.size := fun k hk => by
    rcases (hX k).1 hk with rfl | h
    · exact hrow.lt
    · exact (hown.lt k h).2
  have hnum : NumOk s := (hs.stz hp).1.num
  have hend := fun (w1 : World) (h1 : Has w1 w.heap.size (psC s) psT) (h2 : Below w.heap.size w w1) => ended_any p s ap cp w.heap.size [] psT w1 (hpg.below (hb0.trans (h2.mono hb0.size))) (by rw [psR_nil]; exact h1) hp hs.ip
  have hcon := fun (w1 : World) (h2 : Below w.heap.size w w1) => containsE_any out (enS p s) av cv w1 (hES.below h2) hQ.num hnum
  have hE : endC s (doneB p s) (stuckB p s) = enE (enS p s) := rfl
  have hEs := enE_size (enS p s)
  have hE1 := enE_one (enS p s)
  have hE18 : (enE (enS p s))[18]? = some (.bool (doneB p s)) := endC_get s _ _ (by omega)
  have hE19 : (enE (enS p s))[19]? = some (.bool (stuckB p s)) := endC_get s _ _ (by omega)
  have hnumE : ∀ x ∈ out ++ [enS p s], NumOk x.1 := fun x hx => by
    rcases List.mem_append.1 hx with h | h
    · exact hQ.num x h
    · rw [List.mem_singleton.1 h]; exact hnum
  have hgo : (goE p out s picks).1 = if (doneB p s || stuckB p s) = true ∧ inE out (enS p s) = false then out ++ [enS p s] else out := rfl
  rw [hE] at hend
  have hL1 : enL (out ++ [enS p s]) = enL out ++ (enE (enS p s)).toList := by rw [enL_append]; simp [enL]
  generalize (goE p out s picks).1 = OUT at *
  generalize doneB p s = D at *
  generalize stuckB p s = K at *
  generalize inE out (enS p s) = I at *
  obtain ⟨EN, hEN⟩ : ∃ EN, enS p s = EN := ⟨_, rfl⟩
  rw [hEN] at hend hcon hEs hE1 hE18 hE19 hnumE hgo hL1
  obtain ⟨Y, hYe⟩ : ∃ Y, psC s = Y := ⟨_, rfl⟩
  rw [hYe] at hSz hend ⊢
  obtain ⟨Z, hZe⟩ : ∃ Z, enE EN = Z := ⟨_, rfl⟩
  rw [hZe] at hend hcon hEs hE1 hE18 hE19 hL1
  clear hE hYe hEN hZe hs hp hpg hnum
  obtain ⟨i0, hi, hz0, hz1, hz2⟩ := info_parts infoEn
  go_enter Try.func56, Try.ntmps56
  go_upto_region 1 with fail
  generalize hW : World.alloc _ _ = W
  have hS : Has W w.heap.size Y psT := by rw [← hW]; exact Has.new w _ _
  have hk : Below w.heap.size w W := by rw [← hW]; exact (Below.refl _ _).alloc (Nat.le_refl _) _
  clear hW
  have c1 : W.cell? ⟨bp, 0, none⟩ = some (.slice ap p.length cp) := (hpc.below hk hpc.lt).cell rfl
  go_wp2_with fail
  refine (hend W hS hk).mono ?_
  rintro r w1 ⟨rfl, hb1⟩
  have hk1 := hk.trans (hb1.mono hk.size)
  clear hend hS hb1 c1 hk
  have hz20 := endC_size PS.zero false false
  go_upto_region 2 with (refine wpList_store_row rfl endT _ _ rfl w1.heap.size Z rfl rfl endT _ (Has.new w1 (endC PS.zero false false) endT).out (by rw [hEs]; rfl) (by rw [hEs, hz20]) hE1 ?_)
  generalize hWx : World.setRow _ _ _ = W2
  have hN2 : Has W2 w1.heap.size Z endT := by rw [← hWx]; exact (Has.new w1 (endC PS.zero false false) endT).setRow
  have hb2 : Below w1.heap.size w1 W2 := by rw [← hWx]; exact below_setRow ((Below.refl _ _).alloc (Nat.le_refl _) _) (Nat.le_refl _)
  have hk2 := hk1.trans (hb2.mono hk1.size)
  clear hWx hb2
  have g18 : W2.cell? ⟨w1.heap.size, 18, none⟩ = some (.bool D) := hN2.cell hE18
  have g19 : W2.cell? ⟨w1.heap.size, 19, none⟩ = some (.bool K) := hN2.cell hE19
  have gbo : W2.cell? ⟨bo, 0, none⟩ = some (.slice av out.length cv) := (hk2.cell hrow.lt).trans (hrow.cell rfl)
  have hdone : OUT = out → Hid (∃ X', QEnd ap p.length cp bp bo bm OUT X' W2 ∧ Kept X w W2 ∧ NewX w X X') := fun e => Lib.hid ⟨X, by
    rw [e]
    exact ⟨hpc.below hk2 hpc.lt, hltb, ⟨_, hrow.below hk2 hrow.lt, own_below hown hk2, hX⟩, hQ.num, hQ.ne⟩, Kept.of_below hk2, NewX.refl _ _⟩
  by_cases hDK : (D || K) = true
  · have hcc := hcon W2 hk2
    rcases (by cases D <;> cases K <;> simp_all : D = true ∨ (D = false ∧ K = true)) with rfl | ⟨rfl, rfl⟩
    all_goals
      clear hcon
      go_wp2_with (refine wpList_yes rfl (fun K hK => ?_); refine wp_load_row endT _ rfl w1.heap.size rfl endT Z (0, 0) _ hN2.out Try.underlying29 rfl (by rw [hEs]; rfl) ?_; refine hK _ _ ?_; clear hK K)
      refine hcc.mono ?_
      rintro r w3 ⟨rfl, hb3⟩
      cases I
      · have hO : OUT = out ++ [EN] := by rw [hgo, if_pos ⟨hDK, rfl⟩]
        have hN3 := hN2.below hb3 hN2.lt
        have hk3 := hk2.trans (hb3.mono hk2.size)
        have gb3 : w3.cell? ⟨bo, 0, none⟩ = some (.slice av out.length cv) := (hk3.cell hrow.lt).trans (hrow.cell rfl)
        have hown3 := own_below hown hk3
        clear hcc hN2 hb3 gbo g18 g19 hdone hDK hgo
        have hfill := fill20 hEs
        have hZ1 : ∀ u ∈ Z.toList, u.oneCell' = true := fun u hu => (Array.all_eq_true_iff_forall_mem.1 hE1) u (by simpa using hu)
        have hs3 := hk3.size
        have hrl := hrow.lt
        have hT : ∀ W : World, W = w3.alloc (.cells Z endT) → Has W w3.heap.size Z endT := fun W e => by rw [e]; exact Has.new w3 Z endT
        go_wp2_with (first
          | (refine wpList_load_row rfl endT _ rfl w1.heap.size rfl endT Z (0, 0) _ hN3.out Try.underlying29 rfl (by rw [hEs]; rfl) ?_)
          | (at_builtin; refine app_list _ rfl (.tmp 22) (.tmp 24) 52 rfl Try.underlying52 hi hz0 hz1 hz2 (endC_size _ _ _) (by decide) rfl (hown3.alloc _) rfl (news := Z.toList) (cells_src (hT _ rfl) hEs) hZ1 ?c3 ?c4 ?c5 ?_))
        case c3 => unfold maxLen; omega
        case c4 => omega
        case c5 => simp; omega
        intro v' w4 hAp
        have hO4 := hAp.own
        rw [← hL1] at hO4
        have hlie := hAp.lies
        have hg4 := hAp.grown
        obtain ⟨a4, c4, rfl, hES4, hfar4, hob4⟩ := enS_own (out := out ++ [EN]) (by simpa using hO4) (by simp; omega)
        have hneb : some bo ≠ (Value.slice av out.length cv).ownBlock := fun e => by have := hob bo e.symm; omega
        have hneb4 : (Value.slice a4 (out ++ [EN]).length c4).ownBlock ≠ some bo := fun e => by have := hob4 bo e; omega
        have hrow4 : Has w4 bo #[.slice av out.length cv] ensT := ((hrow.below hk3 hrow.lt).alloc (.cells Z endT)).grown hg4 hneb
        have hpc4 : Has w4 bp #[.slice ap p.length cp] pgT := ((hpc.below hk3 hpc.lt).alloc (.cells Z endT)).grown hg4 (fun e => by have := hob bp e.symm; omega)
        have d4 : w4.cell? ⟨bo, 0, none⟩ = some (.slice av out.length cv) := hrow4.cell rfl
        have f4 := hrow4.free 0
        have hk4 : Kept X w w4 := (Kept.of_below (hk3.alloc hs3 (.cells Z endT))).grown hg4 (fun b e => .inl ((hX b).2 (.inr e)))
        have hnx : NewX w X (fun k => k = bo ∨ (Value.slice a4 (out ++ [EN]).length c4).ownBlock = some k) := fun k h => by
          rcases h with rfl | h
          · exact .inl ((hX _).2 (.inl rfl))
          · rcases hlie with e | e
            · exact .inl ((hX k).2 (.inr (by rw [← e]; exact h)))
            · right
              rw [h] at e
              have := Option.some.inj e
              simp at this
              omega
        have HQ : Hid (QEnd ap p.length cp bp bo bm (out ++ [EN]) (fun k => k = bo ∨ (Value.slice a4 (out ++ [EN]).length c4).ownBlock = some k) (w4.setCell ⟨bo, 0, none⟩ (.slice a4 (out ++ [EN]).length c4))) := Lib.hid
          ⟨hpc4.setCell_ne (a := ⟨bo, 0, none⟩) (show bp ≠ bo by omega) _, hltb, ⟨_, hrow4.setCell 0 _, by
            have := hO4.kept (row := some bo) (grown_set (World.grownBy.refl w4 _) rfl (.slice a4 (out ++ [EN]).length c4) : w4.grownBy (w4.setCell ⟨bo, 0, none⟩ _) (some bo)) (.inr hneb4)
            simpa using this, fun k => Iff.rfl⟩, hnumE, hQ.ne⟩
        have hl5 : (out ++ [EN]).length = out.length + 1 := by simp
        rw [hl5] at HQ hnx ⊢
        clear hAp hg4 hlie hO4 hES4 hfar4 hob4 hneb4 hneb hrow4 hpc4 hT hfill hZ1 hown3 hN3 hES hfar hob hrl hs3
        go_wp2
        go_ret
        rw [hO]
        exact ⟨rfl, _, HQ.out, hk4.set (a := ⟨bo, 0, none⟩) (.inl ((hX bo).2 (.inl rfl))) _, hnx⟩
      · have hO : OUT = out := by rw [hgo, if_neg (fun h => by cases h.2)]
        have hR := hdone hO
        clear hcc hdone hgo hO hDK
        obtain ⟨X', h1, h2, h3⟩ := hR.out
        have hQ3 := h1.on hb3 hk2
        clear g18 g19 gbo hN2
        go_wp2
        go_ret
        exact ⟨rfl, X', hQ3, h2.trans (Kept.of_below (X := fun _ => False) hb3) (fun k h => h.elim), h3⟩
  · have hO : OUT = out := by rw [hgo, if_neg (fun h => hDK h.1)]
    obtain ⟨rfl, rfl⟩ : D = false ∧ K = false := by cases D <;> cases K <;> simp_all
    have hR := hdone hO
    clear hdone hgo hcon hO hDK
    go_wp2
    go_ret
    exact ⟨rfl, hR.out⟩
end Go.Proofs.Ytoohconipcleiaa

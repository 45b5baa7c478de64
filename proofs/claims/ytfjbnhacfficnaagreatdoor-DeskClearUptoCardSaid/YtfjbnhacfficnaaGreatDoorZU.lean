/- Joined texts. -/
import Derived.Test.YtfjbnhacfficnaaGreatDoorZT
import Derived.Test.YtfjbnhacfficnaaGreatDoorTxL
import Derived.Test.YtfjbnhacfficnaaGreatDoorZR
import Derived.ArgAppend
import Derived.Tactics2
import Derived.Defers
import Derived.Recover
import Derived.Test.YtfjbnhacfficnaaGreatDoorZO
import Derived.Lib.AtoiAllCases

/- Contract of a desk's tell. -/
namespace Go.Proofs.YtfjbnhacfficnaaGreatDoor
open Go.RowKit

/-- One event more behind a slice that is full. -/
theorem bd_app {w : World} {a : Option Addr} {l : List Ev} {g : Nat} {x : Ev} (hS : EvS w a l) (hG : Has w g (evC x) 55) (h24 : (l.length + 1) * 24 ≤ 140737488351232) :
    ∃ v' w', (Builtin.append_ #[29, 29] 29 #[.slice a l.length l.length, .slice (some ⟨g, 0, none⟩) 1 1]).run Tryz.prog w = .ok v' w' ∧ w'.ownsRow w.heap.size 55 3 v' (l ++ [x]).length (evL (l ++ [x])) ∧ w.grownBy w' none := by
  obtain ⟨i0, hi, hz0, hz1, hz2⟩ := info_parts infoE
  have hc : ∀ j u, (evL [x])[j]? = some u → w.cell? ((⟨g, 0, none⟩ : Addr).add j) = some u := fun j u hu => hG.cell_add (by simpa [evL] using hu)
  have hap : evL (l ++ [x]) = evL l ++ evL [x] := evL_append _ _
  rw [hap, List.length_append]
  have h1c := evL_one [x]
  cases a with
  | none =>
    have hl : l = [] := by
      rcases hS.ok with h0 | ⟨b, o, ha, _⟩
      · exact h0
      · cases ha
    subst hl
    obtain ⟨v', w', hrun, r1, r2, _⟩ := run_append_own (P := Tryz.prog) w w.heap.size 29 29 55 i0 _ 3 24 Tryz.underlying29 hi hz0 hz1 hz2 rfl (by decide) (.slice none 0 0) 0 [] (World.ownsRow_nil w _ _ 3) ⟨g, 0, none⟩ 1 1 (evL [x]) rfl hc h1c (by unfold maxLen; omega) (by omega) (Nat.le_refl _)
    exact ⟨v', w', hrun, r1, r2⟩
  | some y =>
    refine run_append_arg_grows (P := Tryz.prog) w 29 29 55 i0 _ 3 24 Tryz.underlying29 hi hz0 hz1 hz2 rfl (by decide) y l.length l.length (evL l) (evL_length l) ?_ ⟨g, 0, none⟩ 1 1 (evL [x]) rfl hc (by omega) (by unfold maxLen; omega) (by omega)
    intro j u hu
    rcases hS.src.2 with h0 | ⟨b, hb, hcell⟩
    · rw [h0.1] at hu; simp at hu
    · cases hb
      exact hcell j u hu
theorem bd_step {P : Program} {o : Oper} {A : Act} {w w' : World} {K : Act → World → Prop} {Q : Exit → Act → World → Prop} {s x : Operand} {t : TypeId} {v1 v2 v' : Value} (ho : o.op = .call { callee := .builtin .append, args := #[s, x], argTypes := #[t, t] })
    (hv : A.eval s = v1) (hx : A.eval x = v2) (hrun : (Builtin.append_ #[t, t] o.type #[v1, v2]).run P w = .ok v' w') (hK : K (A.put o.dst v') w') : o.wp P A w K Q := by
  unfold Oper.wp
  simp [execOp, ho, resolve, invoke, builtin, hv, hx, hrun, Result.andThen]
  exact hK
/-- A slice literal of one event. -/
def BdLit (n : Nat) (x : Ev) (v : Value) (w : World) : Prop := ∃ g, v = .slice (some ⟨g, 0, none⟩) 1 1 ∧ n ≤ g ∧ Has w g (evC x) 55
theorem BdLit.keep {n : Nat} {x : Ev} {v : Value} {w w' : World} (h : BdLit n x v w) (k : Below w.heap.size w w') : BdLit n x v w' := by
  obtain ⟨g, h1, h2, h3⟩ := h
  exact ⟨g, h1, h2, h3.below k h3.lt⟩
/-- The events with one more, in a row of their own. -/
def BdRow (n : Nat) (l : List Ev) (v : Value) (w : World) : Prop := ∃ m, n ≤ m ∧ w.ownsRow m 55 3 v l.length (evL l)
theorem BdRow.keep {n : Nat} {l : List Ev} {v : Value} {w w' : World} (h : BdRow n l v w) (k : Below w.heap.size w w') : BdRow n l v w' := by
  obtain ⟨m, h1, h2⟩ := h
  exact ⟨m, h1, own_below h2 k⟩
theorem tell_none {s : ByteArray} {e : Ev} {f : Int} (h : EvRes s e f) (hno : ∀ x, isEv x = true → lineB x ≠ s) : e = ⟨0, 0, 0⟩ ∧ f = 3 := by
  rcases h with ⟨h1, h2, _⟩ | ⟨_, h1, h2⟩
  · exact absurd h2 (hno e h1)
  · exact ⟨h1, h2⟩
theorem tell_some {s : ByteArray} {e x : Ev} {f : Int} (h : EvRes s e f) (hx : isEv x = true) (hl : lineB x = s) : e = x ∧ f = 0 := by
  rcases h with ⟨h1, h2, h3⟩ | ⟨h1, _⟩
  · exact ⟨line_inj h1 hx (h2.trans hl.symm), h3⟩
  · exact absurd hl (h1 x hx)
set_option maxRecDepth 100000 in
set_option maxHeartbeats 2000000 in
theorem dk_tell_none (s : ByteArray) (hs : s.size < 4294967281) (hno : ∀ x, isEv x = true → lineB x ≠ s) (d : Nat) (m : Int) (w : World) (hm : w.cell? ⟨3, 0, none⟩ = some (.int .i64 m)) :
    Calls Tryz.prog 13 #[.pointer (some ⟨d, 0, none⟩), .string s] w fun r w' => r = .panicked (thrown 3) ∧ Below w.heap.size w w' := by
  go_enter Tryz.func13, Tryz.ntmps13
  go_wp2_with fail
  refine (event_any s hs m w hm).mono ?_
  rintro r w1 ⟨e, f, rfl, hres, hb⟩
  obtain ⟨rfl, rfl⟩ := tell_none hres hno
  have hb2 := hb.alloc hb.size (.cells (evC ⟨0, 0, 0⟩) 55)
  clear hres hno
  go_wp2_with fail
  refine (must_no 3 rfl _).mono ?_
  rintro r w2 ⟨rfl, rfl⟩
  exact ⟨rfl, rfl, hb2⟩
/-- What tell leaves of an event. -/
def DkTold (l : List Ev) (x : Ev) (d : Nat) (w : World) (r : Ending) (w' : World) : Prop :=
  ((played (l ++ [x])).2.2 = 0 ∧ r = .returned (.string okB) ∧ DkI w' d (l ++ [x]) ∧ w.grownBy w' (some d)) ∨ ((played (l ++ [x])).2.2 ≠ 0 ∧ r = .panicked (thrown (played (l ++ [x])).2.2) ∧ Below w.heap.size w w')
set_option maxRecDepth 100000 in
set_option maxHeartbeats 4000000 in
theorem dk_tell (l : List Ev) (s : ByteArray) (hs : s.size < 4294967281) (x : Ev) (hx : isEv x = true) (hl : lineB x = s) (d : Nat) (m : Int) (w : World) (h : DkI w d l) (hm : w.cell? ⟨3, 0, none⟩ = some (.int .i64 m)) :
    Calls Tryz.prog 13 #[.pointer (some ⟨d, 0, none⟩), .string s] w (DkTold l x d w) := by
  have h80 := h.small
  go_enter Tryz.func13, Tryz.ntmps13
  go_wp2_with fail
  refine (event_any s hs m w hm).mono ?_
  rintro r w1 ⟨e, f, rfl, hres, hb⟩
  obtain ⟨rfl, rfl⟩ := tell_some hres hx hl
  have hb2 := hb.alloc hb.size (.cells (evC e) 55)
  have hX := Has.new w1 (evC e) 55
  have hI1 := (h.below hb).below ((Below.refl _ _).alloc (Nat.le_refl _) (.cells (evC e) 55))
  clear hres hx hl h
  go_wp2_with fail
  refine (must_ok _).mono ?_
  rintro r w2 ⟨rfl, rfl⟩
  have hXn : w1.heap.size < (w1.alloc (.cells (evC e) 55)).heap.size := by simp
  go_upto_region 3 with fail
  generalize hW : w1.alloc (.cells (evC e) 55) = W1 at *
  obtain ⟨hp, a, cc, hD, hS, hcc, hty⟩ := hI1
  have k6 : ∀ w3, Below W1.heap.size W1 w3 → w3.cell? ⟨d, 0, none⟩ = some (.slice a l.length cc) := fun w3 h3 => (hD.below h3 hD.lt).cell rfl
  have q1 : (l.length : Int) ≤ cc := by omega
  have q2 : (0 : Int) ≤ l.length := by omega
  have h24 : (l.length + 1) * 24 ≤ 140737488351232 := by omega
  refine wp_region_fac 18 (fun _ => false) [.one ?bt0, .one ?bt1, .one ?bt2, .one ?bt3, .one ?bt4, .one ?bt5, .one ?bt6, .one ?bt7, .one ?bt8, .one ?bt9, .one ?bt10, .one ?bt11, .one ?bt12, .one ?bt13, .one ?bt14, .one ?bt15, .rel (BdLit W1.heap.size e), .rel (BdRow W1.heap.size (l++[e]))] (by kernel_rfl) (by kernel_rfl) (by kernel_rfl) ?stbt ?gobt
  case stbt =>
    intro F hF
    simp at hF
    rcases hF with rfl | rfl
    · exact fun _ _ _ h1 h2 => h1.keep h2
    · exact fun _ _ _ h1 h2 => h1.keep h2
  case gobt =>
  simp only [List.take_succ_cons, List.take_zero, List.drop_succ_cons, List.drop_zero]
  repeat (with_reducible refine wpFac_one rfl (fun w1 hw1 hd => ?_) (fun a1 ha1 => ?_); (· have ek6 := k6 w1 hw1; go_simp; first | exact rfl | (refine ⟨atD_some ?_, Below.refl _ _⟩; simp only [List.getElem?_toArray, List.getElem?_cons_succ, List.getElem?_cons_zero]; exact rfl)); simp [Act.put] at ha1; subst ha1)
  with_reducible refine wpFac_one rfl (fun w1 hw1 hd => ?_) (fun a1 ha1 => ?_)
  · refine asked rfl ?_
    refine wp_load_row 55 _ rfl _ rfl 55 (evC e) (0, 0) _ (hX.below hw1 hX.lt).out Tryz.underlying55 rfl rfl ?_
    refine ⟨rfl, atD_some ?_, Below.refl _ _⟩
    simp [Act.put]
    exact rfl
  simp [Act.put] at ha1; subst ha1
  with_reducible refine wpFac_rel rfl (fun w1 hw1 hd => ?_) (fun p a1 ha1 => ?_)
  · go_simp
    exact ⟨_, atD_some (by simp), ⟨w1.heap.size, rfl, hw1.size, Has.new w1 _ _⟩, (Below.refl _ _).alloc (Nat.le_refl _) _⟩
  simp [Act.put] at ha1; subst ha1
  with_reducible refine wpFac_rel rfl (fun w1 hw1 hd => ?_) (fun v a1 ha1 => ?_)
  · obtain ⟨g, rfl, hg, hG⟩ : BdLit W1.heap.size e p w1 := hd 16 (by kernel_rfl)
    obtain ⟨v', w', hrun, ho, hgr⟩ := bd_app (hS.below hw1) hG h24
    have hbw : Below w1.heap.size w1 w' := ⟨hgr.os, hgr.tape, hgr.output, hgr.size, fun k hk => hgr.block k hk (by simp)⟩
    refine asked rfl ?_
    refine bd_step rfl rfl rfl hrun ?_
    exact ⟨rfl, v', atD_some (by simp [Act.put]), ⟨w1.heap.size, hw1.size, ho⟩, hbw⟩
  simp [Act.put] at ha1; subst ha1
  refine wpFac_nil ?_
  intro w3 hw3 hG
  obtain ⟨mm, hmm, ho3⟩ : BdRow W1.heap.size (l ++ [e]) v w3 := hG 17 (by decide) (by kernel_rfl)
  have hLl : (l ++ [e]).length = l.length + 1 := by simp
  have hI3 : DkI w3 d l := DkI.below ⟨hp, a, cc, hD, hS, hcc, hty⟩ hw3
  have hb3 : Below w.heap.size w w3 := hb2.trans (hw3.mono hb2.size)
  have z0 := (hD.below hw3 hD.lt).free 0
  have c0 := k6 w3 hw3
  obtain ⟨L, hLe⟩ : ∃ L, l ++ [e] = L := ⟨_, rfl⟩
  have HLx := Lib.hid hLe
  rw [hLe] at ho3 hLl
  clear hLe hG hD hS k6 hX hb2 hw3
  obtain ⟨a', c', rfl, hS3, hc3⟩ := evS_own_cap ho3 (by omega)
  have hT3 := evTy_own ho3 rfl
  clear ho3 hLl hty
  go_wp2_with fail
  refine (check_any L a' c' _ hS3).mono ?_
  rintro r w4 ⟨rfl, hk4⟩
  have hI4 := hI3.below hk4
  have hS4 := hS3.below hk4
  have hb4 := hb3.trans (hk4.mono hb3.size)
  have z4 := z0
  have c4 := (hk4.cell (World.block_lt_of_cell? _ _ c0)).trans c0
  by_cases he : (played L).2.2 = 0
  · have hn := hI4.set he hS4 hc3 (hT3.below hk4)
    have hgr := dk_grown_cell (dk_grown_below (World.grownBy.refl w (some d)) (show Below w.heap.size w w4 from hb4)) 0 (.slice a' L.length c')
    have HE := Lib.hid he
    have z5 : w4.frozen? ⟨d, 0, none⟩ = false := by
      obtain ⟨_, a9, c9, h9, _⟩ := hI4
      exact h9.free 0
    rw [he]
    clear he
    go_wp2_with fail
    refine (must_ok _).mono ?_
    rintro r w5 ⟨rfl, rfl⟩
    go_wp2
    go_ret
    refine .inl ⟨?_, rfl, ?_, hgr⟩
    · rw [HLx.out]; exact HE.out
    · rw [HLx.out]; exact hn
  · have he2 : ((played L).2.2 == 0) = false := by simpa using he
    have HE := Lib.hid he
    clear he
    generalize hf : (played L).2.2 = f at *
    have HF := Lib.hid hf
    clear hf
    go_wp2_with fail
    refine (must_no f he2 _).mono ?_
    rintro r w5 ⟨rfl, rfl⟩
    refine ⟨rfl, .inr ⟨?_, ?_, hb4⟩⟩
    · rw [HLx.out, HF.out]; exact HE.out
    · rw [HLx.out, HF.out]
end Go.Proofs.YtfjbnhacfficnaaGreatDoor

/- What a desk's line defers: a panic becomes an error's number. -/
namespace Go.Proofs.YtfjbnhacfficnaaGreatDoor
open Go.RowKit

/-- An error, told. -/
def errB (e : Int) : ByteArray := ⟨#[101, 114, 114, 111, 114, 32]⟩ ++ itB e
theorem catch_idle (p : Nat) (w : World) :
    CallsD Tryz.prog 9 #[.pointer (some ⟨p, 0, none⟩)] .returning w fun e u' w' => e = .returned (.tuple #[]) ∧ u' = .returning ∧ w' = w := by
  refine callsD_of_wpS Tryz.func9 rfl fun c₀ cs hu => ?_
  apply wpS_seq
  apply wpS_region
  simp [wpOpsS, go_sem, recoverD, hu, Tryz.ntmps9, Exit.thenS]
  refine wpS_of_wp ?_
  rw [show (#[Value.pointer (some { block := p, off := 0 })] ++ ((Array.replicate 18 undef).setIfInBounds 3 Value.nilIface).setIfInBounds 0 Value.nilIface) = #[Value.pointer (some { block := p, off := 0 }), Value.nilIface, undef, undef, Value.nilIface, undef, undef, undef, undef, undef, undef, undef, undef, undef, undef, undef, undef, undef, undef] from by simp [Array.replicate, List.replicate]]
  go_wp2
  all_goals
    cases c₀
    simp_all [bodyPostS, results, Tryz.results9]
set_option maxRecDepth 100000 in
theorem catch_thrown (e : Int) (h99 : I99 e) (p : Nat) (x : Value) (w : World) (hc : w.cell? ⟨p, 0, none⟩ = some x) (hz : w.frozen? ⟨p, 0, none⟩ = false) :
    CallsD Tryz.prog 9 #[.pointer (some ⟨p, 0, none⟩)] (.panicking (thrown e)) w fun r u' w' => r = .returned (.tuple #[]) ∧ u' = .panicking [{ v := .iface refT (.agg #[.int .i64 e]), recovered := true }] ∧ w' = (w.setCell ⟨p, 0, none⟩ (.string (errB e))).alloc (.cells #[.int .i64 e] refT) := by
  refine callsD_of_wpS Tryz.func9 rfl fun c₀ cs hu => ?_
  unfold thrown at hu
  have hta : ∀ (v : Value) (W : World), (Instr.typeAssert (.iface refT v) 20 34 true).run Tryz.prog W = .ok (.tuple #[v, .bool true]) W := fun _ _ => by kernel_rfl
  have hnot : ∀ (x : Bool) (w : World), (Op.unary .not (.bool x)).run Tryz.prog w = .ok (.bool (!x)) w := fun _ _ => rfl
  apply wpS_seq
  apply wpS_region
  simp [wpOpsS, go_sem, recoverD, hu, Tryz.ntmps9, Exit.thenS]
  refine wpS_of_wp ?_
  rw [show (#[Value.pointer (some { block := p, off := 0 })] ++ ((Array.replicate 18 undef).setIfInBounds 3 (Value.iface refT (.agg #[.int .i64 e]))).setIfInBounds 0 (Value.iface refT (.agg #[.int .i64 e]))) = #[Value.pointer (some { block := p, off := 0 }), Value.iface refT (.agg #[.int .i64 e]), undef, undef, Value.iface refT (.agg #[.int .i64 e]), undef, undef, undef, undef, undef, undef, undef, undef, undef, undef, undef, undef, undef, undef] from by simp [Array.replicate, List.replicate]]
  have hplt := World.block_lt_of_cell? w _ hc
  have hsz := itB_size e
  go_wp2_with fail
  refine (itoa_small e h99 _).mono ?_
  rintro r w2 ⟨rfl, rfl⟩
  obtain ⟨A, hA⟩ : ∃ A, itB e = A := ⟨_, rfl⟩
  have HA : Hid (errB e = ⟨#[101, 114, 114, 111, 114, 32]⟩ ++ A) := Lib.hid (by rw [← hA]; rfl)
  rw [hA] at hsz ⊢
  clear hA
  go_wp2
  exact ⟨rfl, _, rfl, _, results_none rfl _ _ _, rfl, rfl, by rw [HA.out]⟩
end Go.Proofs.YtfjbnhacfficnaaGreatDoor

/- What a desk's line reads with: the words of a string, numbers; what it leans on of the library's variables. -/
namespace Go.Proofs.YtfjbnhacfficnaaGreatDoor
open Go.RowKit Go.Shelf Go.Lib

/-- What is leaned on of the library's variables. -/
structure DkV (w : World) : Prop where
  mx : ∃ m, w.cell? ⟨3, 0, none⟩ = some (.int .i64 m)
  es : ∃ v, w.cell? ⟨0, 0, none⟩ = some v ∧ (v = .nilIface ∨ ∃ te pe, v = .iface te pe)
  er : ∃ v, w.cell? ⟨1, 0, none⟩ = some v ∧ (v = .nilIface ∨ ∃ te pe, v = .iface te pe)
  tab : TabIs Tryz.prog w "internal/strconv.uint64pow10" .u64 pow10Tab
theorem pow_named : Tryz.prog.globalNamed "internal/strconv.uint64pow10" = some 2 := by kernel_rfl
theorem DkV.low {w : World} (h : DkV w) : 3 < w.heap.size := by
  obtain ⟨m, hm⟩ := h.mx
  exact World.block_lt_of_cell? w _ hm
theorem DkV.keep {w w' : World} (h : DkV w) (hk : ∀ j, j < 8 → w'.heap[j]? = w.heap[j]?) : DkV w' := by
  have hc : ∀ j i, j < 8 → w'.cell? ⟨j, i, none⟩ = w.cell? ⟨j, i, none⟩ := fun j i hj => by simp [World.cell?, hk j hj]
  obtain ⟨⟨m, h1⟩, ⟨v, h2, h3⟩, ⟨u, h4, h5⟩, h6⟩ := h
  refine ⟨⟨m, (hc _ _ (by decide)).trans h1⟩, ⟨v, (hc _ _ (by decide)).trans h2, h3⟩, ⟨u, (hc _ _ (by decide)).trans h4, h5⟩, ?_⟩
  unfold TabIs World.var? at h6 ⊢
  rw [pow_named] at h6 ⊢
  simp only [Option.bind_some] at h6 ⊢
  rw [hk _ (by decide)]
  exact h6
theorem DkV.below {w w' : World} (h : DkV w) (h8 : 8 ≤ w.heap.size) (k : Below w.heap.size w w') : DkV w' := h.keep fun j hj => k.block j (by omega)
theorem DkV.grown {w w' : World} {d : Nat} (h : DkV w) (h8 : 8 ≤ w.heap.size) (hd : 8 ≤ d) (k : w.grownBy w' (some d)) : DkV w' := h.keep fun j hj => k.block j (by omega) (by intro e; cases e; omega)
/-- The blank that parts words. -/
def isSp (r : Nat) : Bool := decide ((r : Int) = 32)
theorem isSp_pays (w : World) : PredAt Tryz.prog 12 #[] encR isSp w := fun W r _ => by
  have hr : isSp r = decide ((r : Int) = 32) := rfl
  rw [hr]
  unfold FnGives
  go_enter Tryz.func12, Tryz.ntmps12
  go_wp2
  go_ret
  exact ⟨rfl, 0, rfl⟩
def wordsB (s : ByteArray) : List ByteArray := goFieldsP isSp s
theorem spans_len (p : Nat → Bool) (s : ByteArray) : ∀ (f pos : Nat) (st : Option Nat) (acc : List (Nat × Nat)), (spansFromP p s f pos st acc).1.length ≤ acc.length + f
  | 0, _, _, _ => Nat.le_refl _
  | f + 1, pos, st, acc => by
    unfold spansFromP
    split
    · split
      · cases st with
        | some a => exact Nat.le_trans (spans_len p s f _ _ _) (by simp; omega)
        | none => exact Nat.le_trans (spans_len p s f _ _ _) (by omega)
      · cases st with
        | some a => exact Nat.le_trans (spans_len p s f _ _ _) (by omega)
        | none => exact Nat.le_trans (spans_len p s f _ _ _) (by omega)
    · show acc.length ≤ _
      omega
theorem words_len (s : ByteArray) : (wordsB s).length ≤ s.size + 1 := by
  unfold wordsB goFieldsP spansOfP closeSpans
  rw [List.length_map]
  have h := spans_len isSp s s.size 0 none []
  simp only [List.length_nil] at h
  split
  · simp only [List.length_append, List.length_cons, List.length_nil]
    omega
  · omega
theorem words_size {s x : ByteArray} (h : x ∈ wordsB s) : x.size ≤ s.size := by
  unfold wordsB goFieldsP at h
  obtain ⟨y, _, rfl⟩ := List.mem_map.1 h
  rw [ByteArray.size_extract]
  omega
theorem words_fn (s : ByteArray) (hs : s.size ≤ 200) (n : Nat) (hn : (wordsB s).length = n) (w : World) :
    Calls Tryz.prog 11 #[.string s, .func (.func 12) #[] #[]] w fun e w' => ∃ A, e = .returned (.slice (some ⟨A, 0, none⟩) n n) ∧ w.heap.size ≤ A ∧ StrS w' (some ⟨A, 0, none⟩) (wordsB s) ∧ Below w.heap.size w w' := by
  subst hn
  have hl := words_len s
  refine (l_strings_FieldsFunc 12 #[] (enters_of Tryz.func12 (by kernel_rfl) rfl) isSp s w (by omega) (isSp_pays w)).mono ?_
  rintro e w' ⟨A, rfl, hA, ho, hb⟩
  obtain ⟨a, c, he, hS, _⟩ := strS_own (l := wordsB s) ho (by omega)
  cases he
  exact ⟨A, rfl, hA, hS, hb⟩
/-- A number's numeral; the number that a word spells. -/
def itoaB (v : Int) : ByteArray := ⟨(itoa v).toArray⟩
theorem itoa_any (v : Int) (h0 : -9223372036854775808 ≤ v) (h1 : v ≤ 9223372036854775807) (w : World) (h : DkV w) :
    Calls Tryz.prog 10 #[.int .i64 v] w fun e w' => e = .returned (.string (itoaB v)) ∧ Below w.heap.size w w' := by
  refine (l_strconv_Itoa v h0 h1 w h.tab).mono ?_
  rintro e w' ⟨rfl, k, os, rfl⟩
  exact ⟨rfl, Go.Proofs.YtfjbnhacfficnaaGreatDoor.below_grow (Go.Proofs.YtfjbnhacfficnaaGreatDoor.below_drewN (Below.refl w.heap.size w) k) (Nat.le_refl _) os⟩
theorem atoi_ok (s : ByteArray) (hs : s.size ≤ 200) (v : Int) (h : atoiAll s.data.toList = .ok v) (w : World) :
    Calls Tryz.prog 27 #[.string s] w fun e w' => e = .returned (.tuple #[.int .i64 v, .nilIface]) ∧ Below w.heap.size w w' := by
  refine (l_strconv_Atoi_ok s (by omega) v h w).mono ?_
  rintro e w' ⟨rfl, rfl | ⟨t, rfl⟩⟩
  · exact ⟨rfl, Below.refl _ _⟩
  · exact ⟨rfl, bytesWorld_below w _ t⟩
theorem atoi_no (s : ByteArray) (hs : s.size ≤ 200) (h : ∀ v, atoiAll s.data.toList ≠ .ok v) (w : World) (hg : DkV w) :
    Calls Tryz.prog 27 #[.string s] w fun e w' => ∃ (k : Int) (t : TypeId) (N : Nat), e = .returned (.tuple #[.int .i64 k, .iface t (.pointer (some ⟨N, 0, none⟩))]) ∧ Below w.heap.size w w' := by
  obtain ⟨_, ⟨v1, c1, d1⟩, ⟨v2, c2, d2⟩, _⟩ := hg
  cases hE : atoiAll s.data.toList
  · exact absurd hE (h _)
  · refine (Any.strconv_Atoi_syntax l_laysC172 s (by omega) hE v1 w c1 d1).mono ?_
    rintro e w' ⟨N, rfl, _, _, hb⟩
    exact ⟨_, _, N, rfl, hb⟩
  · refine (Any.strconv_Atoi_range l_laysC172 s (by omega) hE v2 w c2 d2).mono ?_
    rintro e w' ⟨N, rfl, _, _, hb⟩
    exact ⟨_, _, N, rfl, hb⟩
end Go.Proofs.YtfjbnhacfficnaaGreatDoor

/- The law of regions that draw their order, by facts of the values, where what 'alloc' lays is told apart. No program. Printed by gen_fae.py. -/
import Derived.Test.YtoohconipcleiaaMT
namespace Go.Proofs.Ytoohconipcleiaa
open Go.RowKit

/-- What an allocation hands over. -/
def alV (o : Oper) (v : Value) (w w' : World) : Prop := ∀ t, o.op = .alloc t → o.guard = none → o.dst ≠ none → v = .pointer (some ⟨w.heap.size, 0, none⟩) ∧ w.heap.size < w'.heap.size
/-- What was allocated differs. -/
def DistA (l : List Oper) (n : Nat) (a : Act) : Prop := ∀ i j oi oj ti tj d e, i < n → j < n → i ≠ j → l[i]? = some oi → l[j]? = some oj → oi.op = .alloc ti → oj.op = .alloc tj → oi.guard = none → oj.guard = none → oi.dst = some d → oj.dst = some e → a.tmps[d]? ≠ a.tmps[e]?
section
variable {P : Program} {ops : Array Oper} {R : World → World → Prop} {Q : Exit → Act → World → Prop}
theorem alloc_runs {t : TypeId} {w w' : World} {v : Value} (h : (Instr.alloc t true (.tuple #[])).run P w = .ok v w') : v = .pointer (some ⟨w.heap.size, 0, none⟩) ∧ w.heap.size < w'.heap.size := by
  cases hi : P.info? t with
  | none => simp [Instr.alloc, zeroValue, typeInfo, hi, go_sem] at h
  | some i =>
    cases hz : i.zero with
    | none => simp [Instr.alloc, zeroValue, typeInfo, hi, hz, go_sem] at h
    | some z =>
      simp [Instr.alloc, zeroValue, typeInfo, hi, hz, newVar, newRow, go_sem] at h
      obtain ⟨rfl, rfl⟩ := h
      simp
theorem stepF_al {o : Oper} {f : Fct} {wk : Bool} {A : Act} {w : World} (hd : ∀ t, o.dst = some t → t < A.tmps.size) (h : stepF P ops R o f wk A w) : stepF P ops R o (.rel fun v w' => f.so v w' ∧ alV o v w w') wk A w := by
  unfold stepF at h ⊢
  split at h
  · rename_i hwt
    rw [if_pos hwt]
    by_cases ha : ∃ t, o.op = .alloc t
    · obtain ⟨t, ht⟩ := ha
      unfold Oper.wp at h ⊢
      cases hR : (Instr.alloc t true (.tuple #[])).run P w with
      | halt x w' =>
        have hx : (execOp A.eval o).run P w = .halt x w' := by simp [execOp, ht, hR, Result.andThen]
        rw [hx] at h ⊢
        simp only [Oper.upon] at h ⊢
        cases x <;> exact h
      | ok u w' =>
        have hx : (execOp A.eval o).run P w = .ok (.value u) w' := by simp [execOp, ht, hR, Result.andThen]
        rw [hx] at h ⊢
        obtain ⟨hu, hl⟩ := alloc_runs hR
        simp only [Oper.upon] at h ⊢
        obtain ⟨v, h1, h2, h3⟩ := h
        rcases put_inj hd h1 with e | e
        · exact ⟨v, h1, ⟨h2, fun _ _ _ hn => absurd e hn⟩, h3⟩
        · subst e
          exact ⟨u, rfl, ⟨h2, fun _ _ _ _ => ⟨hu, hl⟩⟩, h3⟩
    · exact Oper.wp_mono (fun a' w' ⟨v, h1, h2, h3⟩ => ⟨v, h1, ⟨h2, fun t ht => absurd ⟨t, ht⟩ ha⟩, h3⟩) h
  · rename_i hwt
    rw [if_neg hwt]
    refine ⟨h, fun t _ hg _ => ?_⟩
    exfalso
    apply hwt
    unfold Region.wanted
    rw [hg]
end
section
variable {P : Program} {l : List Oper} {n : Nat} {wk hd : Nat → Bool} {M : List Nat} {Q : Exit → Act → World → Prop} {w0 : World} {R : World → World → Prop}
structure FacInvA (l : List Oper) (n : Nat) (wk hd : Nat → Bool) (M : List Nat) (fs : List Fct) (w0 : World) (a0 : Act) (listed : Array Bool) (ν : Nat → Option Value) (a : Act) (w : World) : Prop where
  head : HeadInv .any l.toArray n listed
  nu : ∀ j, j < n → (ν j).isSome = listed.getD j false
  act : a = actN a0 (l.take n) 0 ν
  below : Below w0.heap.size w0 w
  one : ∀ j v f, j < n → ν j = some v → fs[j]? = some f → f.val v = v
  fact : ∀ j v f, j < n → ν j = some v → fs[j]? = some f → SafeJ l n wk hd M listed j → f.fact v w
  al : ∀ i o t v, i < n → l[i]? = some o → o.op = .alloc t → o.guard = none → o.dst ≠ none → ν i = some v → ∃ b, v = .pointer (some ⟨b, 0, none⟩) ∧ b < w.heap.size
  ne : ∀ i j oi oj ti tj v u, i < n → j < n → i ≠ j → l[i]? = some oi → l[j]? = some oj → oi.op = .alloc ti → oj.op = .alloc tj → oi.guard = none → oj.guard = none → oi.dst ≠ none → oj.dst ≠ none → ν i = some v → ν j = some u → v ≠ u
theorem fac_anyA (hF : FacOk l n wk hd M) {fs : List Fct} (hR0 : ∀ w, R w w) (hR : ∀ w w', R w w' → Below w0.heap.size w w') (hRs : ∀ w w', R w w' → w.heap.size ≤ w'.heap.size) (hst2 : ∀ j F, hd j = true → fs[j]? = some (Fct.rel F) → ∀ v w w', Below w0.heap.size w0 w → F v w → R w w' → F v w') (hst : ∀ F, Fct.rel F ∈ fs → ∀ v w w', F v w → Below w.heap.size w w' → F v w') {a0 : Act} (hsz : ∀ o ∈ l.take n, ∀ d, o.dst = some d → d < a0.tmps.size)
    (h : wpFac P l.toArray w0 R wk (fun a G => ∀ w, Below w0.heap.size w0 w → (∀ j, j < n → liveB n wk hd M j = true → G j w) → DistA l n a → wpList P l.toArray Q (l.drop n) a w) 0 (l.take n) fs (fun _ _ => True) a0) :
    ∀ (f : Nat) (listed : Array Bool) (ν : Nat → Option Value) (a : Act) (w : World), cntU listed n = f → FacInvA l n wk hd M fs w0 a0 listed ν a w → wpAny P .any l.toArray Q (f + (l.length - n)) listed a w := by
  have hlen : fs.length = n := by have h1 := wpFac_len h; rw [List.length_take] at h1; have := hF.le; omega
  intro f
  induction f with
  | zero =>
    intro listed ν a w hc inv
    have hall := cntU_zero n hc
    have hsize : listed.size = l.length := by have := inv.head.size; simpa using this
    have hle := hF.le
    have hlst : listed = Array.replicate n true ++ Array.replicate (l.length - n) false := by
      apply Array.ext
      · simp; omega
      · intro i h1 h2
        have hi : i < l.length := by omega
        by_cases c : i < n
        · have := hall i c
          rw [Array.getElem_append_left (by simpa using c)]
          simp [h1] at this
          simp [this]
        · have := inv.head.tail i (by omega) (by simpa using hi)
          rw [Array.getElem_append_right (by simp; omega)]
          simp [h1] at this
          simp [this]
    rw [Nat.zero_add]
    let μ : Nat → Value := fun j => (ν j).getD undef
    have hν : ∀ j, j < n → ∃ v, ν j = some v := fun j hj => by
      have h1 := inv.nu j hj
      rw [← getD_tf (by omega), hall j hj] at h1
      exact Option.isSome_iff_exists.1 h1
    have hE := wpFac_end h μ (fun j g hg => by
      have hj : j < n := by rw [← hlen]; exact (List.getElem?_eq_some_iff.1 hg).1
      obtain ⟨v, hv⟩ := hν j hj
      rw [Nat.zero_add]
      show g.val ((ν j).getD undef) = (ν j).getD undef
      rw [hv]
      exact inv.one j v g hj hv hg)
    have hact : (actN a0 (l.take n) 0 fun j => some (μ j)) = a := by
      rw [inv.act]
      refine actN_ext _ _ _ _ _ fun k hk => ?_
      have hk' : k < n := by simp at hk; omega
      obtain ⟨v, hv⟩ := hν k hk'
      rw [Nat.zero_add, hv]
      show some ((ν k).getD undef) = some v
      rw [hv]; rfl
    rw [hact] at hE
    have hW := hE w inv.below (fun j hj hlive => by
      obtain ⟨v, hv⟩ := hν j hj
      obtain ⟨g, hg⟩ : ∃ g, fs[j]? = some g := ⟨fs[j]'(by omega), by simp⟩
      unfold gUp
      rw [if_neg (Nat.not_lt_zero _), if_pos (by omega), Nat.sub_zero, hg]
      show g.fact ((ν j).getD undef) w
      rw [hv]
      refine inv.fact j v g hj hv hg ?_
      unfold liveB at hlive
      rw [Bool.or_eq_true] at hlive
      refine hlive.imp id fun hlive => .inl fun i hi hwk _ hne => ?_
      have := List.all_eq_true.1 hlive i (List.mem_range.2 hi)
      rw [hwk] at this
      simp [hne] at this
      exact this)
      (fun i j oi oj ti tj d e hi hj hij hoi hoj gi gj ui uj di dj => by
        obtain ⟨v, hv⟩ := hν i hi
        obtain ⟨u, hu⟩ := hν j hj
        have key : ∀ k ok q x, k < n → l[k]? = some ok → ok.dst = some q → ν k = some x → a.tmps[q]? = some x := fun k ok q x hk hok hq hx => by
          have htk : (l.take n)[k]? = some ok := by rw [List.getElem?_take, if_pos hk]; exact hok
          have h1 := actN_put (o := ok) (v := x) (l.take n) 0 k (fun y => if y = k then none else ν y) a0 htk (by simp) (fun m o' hm hne d hd => by
            rw [List.getElem?_take] at hm
            split at hm
            · exact fun h => (hF.apart k m ok o' hk (by assumption) (Ne.symm hne) hok hm d hd) h
            · cases hm)
          rw [Nat.zero_add] at h1
          have h2 : updF (fun y => if y = k then none else ν y) k (some x) = ν := funext fun y => by
            unfold updF
            by_cases c : y = k
            · rw [if_pos c, c, hx]
            · rw [if_neg c]; simp [c]
          rw [h2, ← inv.act] at h1
          rw [← h1, hq]
          have hq2 : q < (actN a0 (l.take n) 0 fun y => if y = k then none else ν y).tmps.size := by rw [actN_size]; exact hsz ok (List.mem_of_getElem? htk) q hq
          simp [Act.put, hq2]
        rw [key i oi d v hi hoi di hv, key j oj e u hj hoj dj hu]
        intro e0
        injection e0 with e0
        exact inv.ne i j oi oj ti tj v u hi hj hij hoi hoj gi gj ui uj (by rw [di]; simp) (by rw [dj]; simp) hv hu e0)
    have hs := hF.seq
    rw [← hlst] at hs
    have := wpAny_of_seq (P := P) (Q' := Q) (md := .any) (ops := l.toArray) (l.drop n) n listed a w (fun j => by simp [List.getElem?_drop]) (by simpa using hs) hW
    simpa using this
  | succ f ih =>
    intro listed ν a w hc inv
    have hle := hF.le
    have hsize : listed.size = l.length := by have := inv.head.size; simpa using this
    rw [show f + 1 + (l.length - n) = f + (l.length - n) + 1 by omega]
    refine ⟨fun hnil => ?_, fun i hr => ?_⟩
    · exfalso
      obtain ⟨j, hj, hu, hb⟩ := cntU_some n (by omega : 0 < cntU listed n)
      have : j ∈ Region.ready .any l.toArray listed := by
        refine mem_ready.2 ⟨hu, l[j]'(by omega), by simp, fun e he hbn => ?_⟩
        have hlt := hF.before j _ hj (by simp) e he hbn
        rw [← getD_tf (by omega)]
        exact hb _ hlt
      rw [hnil] at this; cases this
    · obtain ⟨hun, o, ho, hall⟩ := mem_ready.1 hr
      have hil : i < l.length := by have := (Array.getElem?_eq_some_iff.1 ho).1; simpa using this
      have ho' : l[i]? = some o := by simpa using ho
      have hin : i < n := by
        rcases Nat.lt_or_ge i n with c | c
        · exact c
        · exfalso
          rcases hF.tail with e | ⟨hs, hch⟩
          · omega
          · obtain ⟨j, hj, hu, _⟩ := cntU_some n (by omega : 0 < cntU listed n)
            have hnl : n < l.toArray.size := by simp; omega
            exact tail_waits hs hch hnl inv.head _ j rfl hj hu i c hr
      obtain ⟨g, hg⟩ : ∃ g, fs[i]? = some g := ⟨fs[i]'(by omega), by simp⟩
      have hno : ν i = none := by
        have h1 := inv.nu i hin
        rw [← getD_tf (by omega), hun] at h1
        simpa using h1
      let μ : Nat → Value := fun j => match ν j with
        | some v => v
        | none => ((fs[j]?).map fun f => f.val undef).getD undef
      have hμ : ∀ j g, fs[j]? = some g → g.val (μ (0 + j)) = μ (0 + j) := fun j g hg => by
        rw [Nat.zero_add]
        have hj : j < n := by rw [← hlen]; exact (List.getElem?_eq_some_iff.1 hg).1
        show g.val (match ν j with | some v => v | none => ((fs[j]?).map fun f => f.val undef).getD undef) = (match ν j with | some v => v | none => ((fs[j]?).map fun f => f.val undef).getD undef)
        cases hv : ν j with
        | none =>
          simp only [hg, Option.map_some, Option.getD_some]
          cases g <;> rfl
        | some v => exact inv.one j v g hj hv hg
      have hdep : ∀ j, depB o j = true → j < i ∧ listed.getD j false = true := fun j hj => by
        unfold depB at hj
        obtain ⟨e, he, hx⟩ := Array.any_eq_true'.1 hj
        simp only [Bool.and_eq_true, beq_iff_eq] at hx
        obtain ⟨hb, rfl⟩ := hx
        exact ⟨hF.before i o hin ho' e he hb, hall e he hb⟩
      have htk : (l.take n)[i]? = some o := by rw [List.getElem?_take, if_pos hin]; exact ho'
      have hS := wpFac_get h i o g htk hg μ hμ w inv.below (fun j hj => by
        obtain ⟨hji, hjl⟩ := hdep j hj
        unfold gUp
        rw [if_neg (Nat.not_lt_zero _), if_pos (by omega), Nat.sub_zero]
        obtain ⟨gj, hgj⟩ : ∃ gj, fs[j]? = some gj := ⟨fs[j]'(by omega), by simp⟩
        obtain ⟨v, hv⟩ : ∃ v, ν j = some v := Option.isSome_iff_exists.1 (by rw [inv.nu j (by omega)]; exact hjl)
        have e : μ j = v := by show (match ν j with | some v => v | none => _) = v; rw [hv]
        rw [hgj, e]
        exact inv.fact j v gj (by omega) hv hgj (.inr (.inr ⟨i, o, hin, ho', hj, getD_both hun⟩)))
      rw [Nat.zero_add] at hS
      have htt : (l.take n).take i = l.take i := by rw [List.take_take, Nat.min_eq_left (by omega)]
      rw [htt] at hS
      have hlook : ∀ d, d ∈ o.looksAt l.toArray → (actN a0 (l.take i) 0 fun j => some (μ j)).tmps[d]? = a.tmps[d]? := fun d hd => by
        rw [inv.act]
        refine actN_get _ _ 0 _ _ a0 a0 rfl rfl (fun k ok hk hkd hkn => ?_) (fun k ok hk hkd hkn => ?_)
        · rw [List.getElem?_take] at hk
          split at hk
          · rename_i hki
            have hkn' : k < n := by omega
            have hdl : depB o k = true := by
              rcases hF.looks i k o ok hin hkn' ho' hk d hkd hd with g | g
              · exact g
              · exfalso
                unfold depB at g
                obtain ⟨e, he, hx⟩ := Array.any_eq_true'.1 g
                simp only [Bool.and_eq_true, beq_iff_eq] at hx
                have := hF.before k ok hkn' hk e he hx.1
                omega
            obtain ⟨_, hkl⟩ := hdep k hdl
            obtain ⟨v, hv⟩ : ∃ v, ν k = some v := Option.isSome_iff_exists.1 (by rw [inv.nu k hkn']; exact hkl)
            refine ⟨by rw [List.getElem?_take, if_pos hkn']; exact hk, ?_⟩
            rw [Nat.zero_add, hv]
            show some v = some (match ν k with | some v => v | none => _)
            rw [hv]
          · cases hk
        · rw [List.getElem?_take] at hk
          split at hk
          · rename_i hkn'
            have hdl : depB o k = true := by
              rcases hF.looks i k o ok hin hkn' ho' hk d hkd hd with g | g
              · exact g
              · exfalso
                unfold depB at g
                obtain ⟨e, he, hx⟩ := Array.any_eq_true'.1 g
                simp only [Bool.and_eq_true, beq_iff_eq] at hx
                have hkl : listed.getD k false = true := by
                  rw [← inv.nu k hkn', Option.isSome_iff_ne_none]
                  rw [Nat.zero_add] at hkn
                  exact hkn
                have := inv.head.closed k ok (by simpa using hk) hkl e he hx.1
                rw [hx.2, ← getD_tf (by omega), hun] at this
                cases this
            obtain ⟨hki, hkl⟩ := hdep k hdl
            obtain ⟨v, hv⟩ : ∃ v, ν k = some v := Option.isSome_iff_exists.1 (by rw [inv.nu k hkn']; exact hkl)
            refine ⟨by rw [List.getElem?_take, if_pos hki]; exact hk, ?_⟩
            rw [Nat.zero_add, hv]
            show some (match ν k with | some v => v | none => _) = some v
            rw [hv]
          · cases hk
      have hsel : ∀ cs b, o.op ≠ .select cs b := fun cs b => Region.noSelect_spec hF.sel i o cs b ho
      have hex : execOp (actN a0 (l.take i) 0 fun j => some (μ j)).eval o = execOp a.eval o := by
        refine execOp_congr o hsel fun x hx => ?_
        by_cases c : ∃ t, x = .tmp t
        · obtain ⟨t, rfl⟩ := c
          exact eval_tmp (hlook t (List.mem_append_left _ (List.mem_filterMap.2 ⟨.tmp t, by simpa using hx, rfl⟩)))
        · have hx' : ∀ t, x ≠ .tmp t := fun t e => c ⟨t, e⟩
          rw [inv.act, actN_eval hx', actN_eval hx']
      have hwt : Region.wanted o (yielded l.toArray (actN a0 (l.take i) 0 fun j => some (μ j)).tmps) = Region.wanted o (yielded l.toArray a.tmps) := by
        unfold Region.wanted
        cases hgd : o.guard with
        | none => rfl
        | some gw =>
          obtain ⟨q, want⟩ := gw
          have hy : yielded l.toArray (actN a0 (l.take i) 0 fun j => some (μ j)).tmps q = yielded l.toArray a.tmps q := by
            unfold yielded
            cases ht : (l.toArray[q]?).bind (·.dst) with
            | none => rfl
            | some t => simp only [Option.bind_some]; rw [hlook t (by simp [Oper.looksAt, hgd] at ht ⊢; right; simpa using ht)]
          simp only [hy]
      have hbd : ∀ t, o.dst = some t → t < (actN a0 (l.take i) 0 fun j => some (μ j)).tmps.size := fun t ht => by
        rw [actN_size]
        exact hsz o (List.mem_of_getElem? htk) t ht
      refine wpOp_mono ?_ (stepF_move hR0 (Q := Q) (i := i) (ops := l.toArray) ho hbd hex hwt (stepF_al hbd hS))
      rintro a' w' ⟨v, rfl, ⟨hso, halv⟩, hbw⟩
      obtain ⟨hval, hfact⟩ := val_so hso
      have hgrow : w.heap.size ≤ w'.heap.size := by
        split at hbw
        · exact hRs _ _ hbw
        · exact hbw.size
      refine ih (listed.setIfInBounds i true) (updF ν i (some v)) _ w' ?_ ?_
      · have := cntU_set hun n hin
        omega
      · have hset : ∀ j, j ≠ i → (listed.setIfInBounds i true).getD j false = listed.getD j false := fun j hj => getD_set_ne false (Ne.symm hj)
        have hset2 : (listed.setIfInBounds i true).getD i false = true := by simp [show i < listed.size by omega]
        refine ⟨inv.head.set hr hin, fun j hj => ?_, ?_, ?_, fun j u gj hj hu hgj => ?_, fun j u gj hj hu hgj hsf => ?_, fun j oj t u hj hoj gj uj dj hu => ?_, fun j k oj ok tj tk u x hj hk hjk hoj hok gj gk uj uk dj dk hu hx => ?al2⟩
        case al2 =>
          have low : ∀ m om tm y, m < n → l[m]? = some om → om.op = .alloc tm → om.guard = none → om.dst ≠ none → ν m = some y → y ≠ .pointer (some ⟨w.heap.size, 0, none⟩) := fun m om tm y hm hom gm um dm hy e => by
            obtain ⟨b, hb, hlt⟩ := inv.al m om tm y hm hom gm um dm hy
            rw [hb] at e
            injection e with e
            injection e with e
            injection e with e
            omega
          by_cases e : j = i
          · subst e
            have hki : ¬ k = j := fun h => hjk h.symm
            simp [updF] at hu
            unfold updF at hx; rw [if_neg hki] at hx
            rw [hoj] at ho'; cases ho'
            obtain ⟨hv, _⟩ := halv tj gj uj dj
            rw [← hu, hv]
            exact (low k ok tk x hk hok gk uk dk hx).symm
          · unfold updF at hu; rw [if_neg e] at hu
            by_cases e' : k = i
            · subst e'
              simp [updF] at hx
              rw [hok] at ho'; cases ho'
              obtain ⟨hv, _⟩ := halv tk gk uk dk
              rw [← hx, hv]
              exact low j oj tj u hj hoj gj uj dj hu
            · unfold updF at hx; rw [if_neg e'] at hx
              exact inv.ne j k oj ok tj tk u x hj hk hjk hoj hok gj gk uj uk dj dk hu hx
        · by_cases e : j = i
          · subst e; rw [hset2]; simp [updF]
          · rw [hset j e]; unfold updF; rw [if_neg e]; exact inv.nu j hj
        · rw [inv.act]
          have := actN_put (o := o) (v := v) (l.take n) 0 i ν a0 htk (by rw [Nat.zero_add]; exact hno) (fun m o' hm hne d hd => by
            rw [List.getElem?_take] at hm
            split at hm
            · exact fun h => (hF.apart i m o o' hin (by assumption) (Ne.symm hne) ho' hm d hd) h
            · cases hm)
          rw [Nat.zero_add] at this
          exact this
        · refine inv.below.trans ?_
          split at hbw
          · exact hR _ _ hbw
          · exact hbw.mono inv.below.size
        · by_cases e : j = i
          · subst e
            rw [hg] at hgj
            cases hgj
            simp [updF] at hu
            rw [← hu]; exact hval
          · unfold updF at hu; rw [if_neg e] at hu
            exact inv.one j u gj hj hu hgj
        · by_cases e : j = i
          · subst e
            rw [hg] at hgj
            cases hgj
            simp [updF] at hu
            rw [← hu]; exact hfact
          · unfold updF at hu; rw [if_neg e] at hu
            obtain ⟨oj, hoj⟩ : ∃ oj, l[j]? = some oj := ⟨l[j]'(by omega), by simp⟩
            have hjl : listed.getD j false = true := by rw [← inv.nu j hj, hu]; rfl
            have hold : SafeJ l n wk hd M listed j := by
              rcases hsf with h0 | h1 | ⟨k, ok, hk, hok, hkd, hkl⟩
              · exact .inl h0
              · refine .inr (.inl fun i' hi' hw' hl' hne' => h1 i' hi' hw' ?_ hne')
                by_cases e' : i' = i
                · subst e'; exact hset2
                · rw [hset i' e']; exact hl'
              · by_cases e' : k = i
                · subst e'; rw [hset2] at hkl; cases hkl
                · rw [hset k e'] at hkl; exact .inr (.inr ⟨k, ok, hk, hok, hkd, hkl⟩)
            have hfw := inv.fact j u gj hj hu hgj hold
            cases hwk : wk i
            · rw [hwk, if_neg (by decide)] at hbw
              cases gj with
              | one x => trivial
              | rel F => exact hst F (List.mem_of_getElem? hgj) u w w' hfw hbw
            · cases gj with
              | one x => trivial
              | rel F =>
                rw [hwk, if_pos rfl] at hbw
                by_cases hhd : hd j = true
                · exact hst2 j F hhd hgj u w w' inv.below hfw hbw
                have hhf : hd j = false := by simpa using hhd
                exfalso
                have hjm := masked hF inv.head j oj hj hoj (fun e' he' hb' => inv.head.closed j oj (by simpa using hoj) hjl e' he' hb')
                have hnm : (M.getD j 0).testBit i = false := by
                  cases hm : (M.getD j 0).testBit i
                  · rfl
                  · have := hjm i hm
                    rw [← getD_tf (by omega), hun] at this; cases this
                rcases hsf with h0 | h1 | ⟨k, ok, hk, hok, hkd, hkl⟩
                · exact hhd h0
                · have := h1 i hin hwk hset2 (fun e' => e e'.symm)
                  rw [hnm] at this; cases this
                · rcases hF.weak i j k ok hin hj hk hwk hhf (fun e' => e e'.symm) hnm hok hkd with rfl | hm
                  · rw [hset2] at hkl; cases hkl
                  · have hkl' := masked hF inv.head i o hin ho' hall k hm
                    have hki : k ≠ i := fun e' => by subst e'; rw [hset2] at hkl; cases hkl
                    rw [hset k hki, hkl'] at hkl; cases hkl
        · by_cases e : j = i
          · subst e
            simp [updF] at hu
            rw [hoj] at ho'; cases ho'
            obtain ⟨hv, hlt⟩ := halv t gj uj dj
            exact ⟨w.heap.size, by rw [← hu, hv], hlt⟩
          · unfold updF at hu; rw [if_neg e] at hu
            obtain ⟨b, hb, hlt⟩ := inv.al j oj t u hj hoj gj uj dj hu
            exact ⟨b, hb, by omega⟩
/-- The law: n operations in whatever order, of whose values facts are told; then the tail. -/
theorem wp_region_facA {id : Nat} {a : Act} {w : World} (R : World → World → Prop) (n : Nat) (wk hd : Nat → Bool) (fs : List Fct) (hR0 : ∀ w, R w w) (hR : ∀ w1 w', R w1 w' → Below w.heap.size w1 w') (hRs : ∀ w w', R w w' → w.heap.size ≤ w'.heap.size) (hst2 : ∀ j F, hd j = true → fs[j]? = some (Fct.rel F) → ∀ v w1 w', Below w.heap.size w w1 → F v w1 → R w1 w' → F v w') (hm : P.follows .mixedOrders = true) (hB : facB l n wk hd (maskL (l.take n) []) = true) (hsz : (l.take n).all (fun o => match o.dst with | some d => decide (d < a.tmps.size) | none => true) = true)
    (hst : ∀ F, Fct.rel F ∈ fs → ∀ v w w', F v w → Below w.heap.size w w' → F v w')
    (h : wpFac P l.toArray w R wk (fun a G => ∀ w', Below w.heap.size w w' → (∀ j, j < n → liveB n wk hd (maskL (l.take n) []) j = true → G j w') → DistA l n a → wpList P l.toArray Q (l.drop n) a w') 0 (l.take n) fs (fun _ _ => True) a) :
    (Code.region id l.toArray true).wp P Q a w := by
  have hF := facB_ok hB
  have hle := hF.le
  refine wp_region_any hm ?_
  have h0 : cntU (Array.replicate l.toArray.size false) n = n := by
    have : ∀ k, k ≤ n → cntU (Array.replicate l.toArray.size false) k = k := by
      intro k
      induction k with
      | zero => intro _; rfl
      | succ k ih =>
        intro hk
        have hx : (Array.replicate l.toArray.size false).getD k true = false := getD_in (by simp; omega) (getD_replicate_false _ _)
        unfold cntU
        rw [ih (by omega), if_pos hx]
    exact this n (Nat.le_refl _)
  have := fac_anyA (w0 := w) hF hR0 hR hRs hst2 hst (fun o ho d hd => by
    have := List.all_eq_true.1 hsz o ho
    rw [hd] at this
    simpa using this) h n (Array.replicate l.toArray.size false) (fun _ => none) a { w with drawn := w.drawn + 1 } h0 (by
    refine ⟨⟨by simp, fun j oj _ hl => (by rw [getD_replicate_false] at hl; cases hl), fun t _ ht => getD_in (by simpa using ht) (getD_replicate_false _ _)⟩, fun j _ => by rw [getD_replicate_false]; rfl, ?_, (Below.refl w.heap.size w).drew, fun j v f _ hv => (by cases hv), fun j v f _ hv => (by cases hv), fun _ _ _ _ _ _ _ _ _ hv => (by cases hv), fun _ _ _ _ _ _ _ _ _ _ _ _ _ _ _ _ _ _ _ hv => (by cases hv)⟩
    have hnone : ∀ (m : List Oper) (i : Nat) (b : Act), actN b m i (fun _ => none) = b := by
      intro m
      induction m with
      | nil => intro i b; rfl
      | cons o m ih => intro i b; exact ih (i + 1) b
    exact (hnone _ _ _).symm)
  have e : n + (l.length - n) = l.toArray.size := by simp; omega
  rw [e] at this
  exact this
end
end Go.Proofs.Ytoohconipcleiaa

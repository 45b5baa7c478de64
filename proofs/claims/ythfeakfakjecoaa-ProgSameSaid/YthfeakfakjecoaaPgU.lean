/- Two runs to the end whose traces are the same but for swaps of independent events end the same. No program. -/
import Derived.Test.YthfeakfakjecoaaPgT
import Derived.Test.YthfeakfakjecoaaPgG
import Derived.Test.YthfeakfakjecoaaLef
namespace Go.Proofs.Ythfeakfakjecoaa

theorem RS.eq {r s : RS} (h1 : ∀ i, r.mem i = s.mem i) (h2 : ∀ i, r.vols i = s.vols i) (h3 : ∀ i, r.has i = s.has i) (h4 : ∀ i, r.at_ i = s.at_ i) : r = s := by
  cases r; cases s
  simp only [RS.mk.injEq]
  exact ⟨funext h1, funext h2, funext h3, funext h4⟩
theorem rHas_other (p : List (List Ev)) (r : RS) {a b : Ev} (h : b.t.toNat ≠ a.t.toNat) : rHas p (rstep p r a) b = rHas p r b := by
  unfold rHas
  show upZ r.has a.t.toNat _ b.t.toNat + addsF _ (upN r.at_ a.t.toNat _ b.t.toNat) (findF _ _ (upN r.at_ a.t.toNat _ b.t.toNat)) = _
  rw [upZ_ne h, upN_ne h]
theorem upZ_comm {f : Nat → Int} {i j : Nat} (h : i ≠ j) (x y : Int) (k : Nat) : upZ (upZ f i x) j y k = upZ (upZ f j y) i x k := by
  unfold upZ
  by_cases e1 : k = i
  · subst e1; simp [h]
  · simp [e1]
theorem upN_comm {f : Nat → Nat} {i j : Nat} (h : i ≠ j) (x y : Nat) (k : Nat) : upN (upN f i x) j y k = upN (upN f j y) i x k := by
  unfold upN
  by_cases e1 : k = i
  · subst e1; simp [h]
  · simp [e1]
theorem rstep_comm {p : List (List Ev)} {r : RS} {a b : Ev} (ha : isEv a = true) (hb : isEv b = true) (hA : apartB a b = true) : rstep p (rstep p r a) b = rstep p (rstep p r b) a := by
  obtain ⟨a1, a2, a3, a4⟩ := isEv_iff.1 ha
  obtain ⟨b1, b2, b3, b4⟩ := isEv_iff.1 hb
  have hne := (apartB_iff.1 hA).1
  have ht : a.t.toNat ≠ b.t.toNat := by omega
  have hH1 := rHas_other p r (a := a) (b := b) (Ne.symm ht)
  have hH2 := rHas_other p r (a := b) (b := a) ht
  have ho : ∀ (hg : grp a.k = grp b.k) (h0 : grp a.k ≠ 0) (hm : mildB a.k = false ∨ mildB b.k = false), a.o.toNat ≠ b.o.toNat := fun hg h0 hm => by
    have := apart_obj hA hg h0 hm
    omega
  have n22 : a.k = 2 → b.k = 2 → a.o.toNat ≠ b.o.toNat := fun e f => ho (by rw [e, f]) (by rw [e]; decide) (.inl (by rw [e]; rfl))
  have n12 : a.k = 1 → b.k = 2 → a.o.toNat ≠ b.o.toNat := fun e f => ho (by rw [e, f]; rfl) (by rw [e]; decide) (.inr (by rw [f]; rfl))
  have n21 : a.k = 2 → b.k = 1 → a.o.toNat ≠ b.o.toNat := fun e f => ho (by rw [e, f]; rfl) (by rw [e]; decide) (.inl (by rw [e]; rfl))
  have n88 : a.k = 8 → b.k = 8 → a.o.toNat ≠ b.o.toNat := fun e f => ho (by rw [e, f]) (by rw [e]; decide) (.inl (by rw [e]; rfl))
  have n78 : a.k = 7 → b.k = 8 → a.o.toNat ≠ b.o.toNat := fun e f => ho (by rw [e, f]; rfl) (by rw [e]; decide) (.inr (by rw [f]; rfl))
  have n87 : a.k = 8 → b.k = 7 → a.o.toNat ≠ b.o.toNat := fun e f => ho (by rw [e, f]; rfl) (by rw [e]; decide) (.inl (by rw [e]; rfl))
  have hM : ∀ (x y : Ev), (rstep p (rstep p r x) y).mem = if y.k = 2 then upZ (rstep p r x).mem y.o.toNat (rHas p (rstep p r x) y) else (rstep p r x).mem := fun _ _ => rfl
  have hV : ∀ (x y : Ev), (rstep p (rstep p r x) y).vols = if y.k = 8 then upZ (rstep p r x).vols y.o.toNat (rHas p (rstep p r x) y) else (rstep p r x).vols := fun _ _ => rfl
  have hM1 : ∀ (x : Ev), (rstep p r x).mem = if x.k = 2 then upZ r.mem x.o.toNat (rHas p r x) else r.mem := fun _ => rfl
  have hV1 : ∀ (x : Ev), (rstep p r x).vols = if x.k = 8 then upZ r.vols x.o.toNat (rHas p r x) else r.vols := fun _ => rfl
  have hS : ∀ (x y : Ev), (rstep p (rstep p r x) y).has = upZ (rstep p r x).has y.t.toNat (if y.k = 1 then (rstep p r x).mem y.o.toNat else if y.k = 7 then (rstep p r x).vols y.o.toNat else rHas p (rstep p r x) y) := fun _ _ => rfl
  have hS1 : ∀ (x : Ev), (rstep p r x).has = upZ r.has x.t.toNat (if x.k = 1 then r.mem x.o.toNat else if x.k = 7 then r.vols x.o.toNat else rHas p r x) := fun _ => rfl
  have hT : ∀ (x y : Ev), (rstep p (rstep p r x) y).at_ = upN (rstep p r x).at_ y.t.toNat (findF (opsP p y.t.toNat) y ((rstep p r x).at_ y.t.toNat) + 1) := fun _ _ => rfl
  have hT1 : ∀ (x : Ev), (rstep p r x).at_ = upN r.at_ x.t.toNat (findF (opsP p x.t.toNat) x (r.at_ x.t.toNat) + 1) := fun _ => rfl
  -- what the one reads is not what the other writes
  have hmb : b.k = 1 → (rstep p r a).mem b.o.toNat = r.mem b.o.toNat := fun e => by
    rw [hM1]; split
    · rename_i e2; exact upZ_ne (Ne.symm (n21 e2 e))
    · rfl
  have hma : a.k = 1 → (rstep p r b).mem a.o.toNat = r.mem a.o.toNat := fun e => by
    rw [hM1]; split
    · rename_i e2; exact upZ_ne (n12 e e2)
    · rfl
  have hvb : b.k = 7 → (rstep p r a).vols b.o.toNat = r.vols b.o.toNat := fun e => by
    rw [hV1]; split
    · rename_i e2; exact upZ_ne (Ne.symm (n87 e2 e))
    · rfl
  have hva : a.k = 7 → (rstep p r b).vols a.o.toNat = r.vols a.o.toNat := fun e => by
    rw [hV1]; split
    · rename_i e2; exact upZ_ne (n78 e e2)
    · rfl
  refine RS.eq (fun i => ?_) (fun i => ?_) (fun i => ?_) (fun i => ?_)
  · rw [hM, hM, hH1, hH2, hM1, hM1]
    by_cases ka : a.k = 2 <;> by_cases kb : b.k = 2
    · rw [if_pos kb, if_pos ka, if_pos ka, if_pos kb]; exact upZ_comm (n22 ka kb) _ _ i
    · simp only [if_pos ka, if_neg kb]
    · simp only [if_neg ka, if_pos kb]
    · simp only [if_neg ka, if_neg kb]
  · rw [hV, hV, hH1, hH2, hV1, hV1]
    by_cases ka : a.k = 8 <;> by_cases kb : b.k = 8
    · rw [if_pos kb, if_pos ka, if_pos ka, if_pos kb]; exact upZ_comm (n88 ka kb) _ _ i
    · simp only [if_pos ka, if_neg kb]
    · simp only [if_neg ka, if_pos kb]
    · simp only [if_neg ka, if_neg kb]
  · have eb : (if b.k = 1 then (rstep p r a).mem b.o.toNat else if b.k = 7 then (rstep p r a).vols b.o.toNat else rHas p (rstep p r a) b) = if b.k = 1 then r.mem b.o.toNat else if b.k = 7 then r.vols b.o.toNat else rHas p r b := by
      split
      · rename_i e; exact hmb e
      · split
        · rename_i e; exact hvb e
        · exact hH1
    have ea : (if a.k = 1 then (rstep p r b).mem a.o.toNat else if a.k = 7 then (rstep p r b).vols a.o.toNat else rHas p (rstep p r b) a) = if a.k = 1 then r.mem a.o.toNat else if a.k = 7 then r.vols a.o.toNat else rHas p r a := by
      split
      · rename_i e; exact hma e
      · split
        · rename_i e; exact hva e
        · exact hH2
    rw [hS, hS, eb, ea, hS1, hS1]
    exact upZ_comm ht _ _ i
  · rw [hT, hT, hT1, hT1, upN_ne (Ne.symm ht), upN_ne ht]
    exact upN_comm ht _ _ i
theorem replay_append (p : List (List Ev)) (l m : List Ev) : replay p (l ++ m) = m.foldl (rstep p) (replay p l) := by simp [replay]
theorem replay_sw {p : List (List Ev)} {l : List Ev} {k : Nat} (h : k + 1 < l.length) (hA : apartB l[k] l[k + 1] = true) (h1 : isEv l[k] = true) (h2 : isEv l[k + 1] = true) : replay p (sw l k) = replay p l := by
  obtain ⟨e1, e2⟩ := sw_parts h
  have e3 : replay p l = replay p (l.take k ++ l[k] :: l[k + 1] :: l.drop (k + 2)) := by rw [← e1]
  rw [e3, e2, replay_append, replay_append, List.foldl_cons, List.foldl_cons, List.foldl_cons, List.foldl_cons, rstep_comm h1 h2 hA]
theorem SwEq.replay {p : List (List Ev)} {l m : List Ev} (h : SwEq l m) : (played l).2.2 = 0 → Go.Proofs.Ythfeakfakjecoaa.replay p m = Go.Proofs.Ythfeakfakjecoaa.replay p l ∧ (played m).1 = (played l).1 := by
  induction h with
  | refl l => exact fun _ => ⟨rfl, rfl⟩
  | @step l m k h hA t ih =>
    intro hp
    rw [eg_get (by omega), eg_get h] at hA
    obtain ⟨h1, h2⟩ := played_sw h hA hp
    obtain ⟨i1, i2⟩ := ih h1
    have hE := (played_evs hp).2
    rw [i1, i2, h2]
    exact ⟨replay_sw h hA (hE _ (List.getElem_mem _)) (hE _ (List.getElem_mem _)), rfl⟩
theorem endC_congr {s s' : PS} {d k : Bool} (h1 : ∀ i, s.mem i = s'.mem i) (h2 : ∀ i, s.vols i = s'.vols i) (h3 : ∀ i, s.has i = s'.has i) : endC s d k = endC s' d k := by
  unfold endC
  have : ∀ i, i ∈ List.range 20 → psF s d k i = psF s' d k i := fun i hi => by
    have hi : i < 20 := List.mem_range.1 hi
    unfold psF
    rw [h1, h2, h3]
    by_cases a1 : i < 8
    · rw [if_pos a1, if_pos a1]
    by_cases a2 : i < 12
    · rw [if_neg a1, if_pos a2, if_neg a1, if_pos a2]
    by_cases a3 : i < 18
    · rw [if_neg a1, if_neg a2, if_pos a3, if_neg a1, if_neg a2, if_pos a3]
    rcases (show i = 18 ∨ i = 19 by omega) with rfl | rfl <;> simp
  rw [List.map_congr_left this]
/-- The end of a run to the end hangs on what is told again of its trace. -/
theorem done_end {p : List (List Ev)} (hp : OkP p) (a b : List Int) (ha : doneB p (runP p a).1 = true) (hb : doneB p (runP p b).1 = true)
    (h1 : replay p (runP p a).2 = replay p (runP p b).2) (h2 : (playL St.first 0 (runP p a).2).1 = (playL St.first 0 (runP p b).2).1) (d k : Bool) :
    endC (runP p a).1 d k = endC (runP p b).1 d k := by
  have ra := runP_replay hp a
  have rb := runP_replay hp b
  have ia := runP_IP hp a
  have ib := runP_IP hp b
  have va := (runP_valid hp a).agree
  have vb := (runP_valid hp b).agree
  rw [h1] at ra
  rw [h2] at va
  have hat : ∀ (picks : List Int), doneB p (runP p picks).1 = true → ∀ t, (runP p picks).1.at_ t = if (runP p picks).1.begun t = true then plen p t else 0 := by
    intro picks hd t
    have hI := runP_IP hp picks
    cases hbg : (runP p picks).1.begun t
    · rw [if_neg (by decide)]; exact (hI.fresh t hbg).1
    · rw [if_pos rfl]
      have hn := done_next hd (t : Int)
      by_cases c : (runP p picks).1.at_ t = plen p t
      · exact c
      · have := nextB_iff (p := p) (s := (runP p picks).1) (t := (t : Int)) |>.2 ⟨by omega, by have := hI.begun t hbg; omega, by rw [Int.toNat_natCast]; exact hbg, by rw [Int.toNat_natCast]; exact c⟩
        rw [hn] at this; cases this
  refine endC_congr (fun i => ?_) (fun i => ?_) (fun i => ?_)
  · rw [ra.mem, rb.mem]
  · rw [ra.vols, rb.vols]
  · rw [ra.has, rb.has, hat a ha, hat b hb, ← va.begun, ← vb.begun]
theorem may_played {l : List Ev} (h : mayB l = true) : (played l).2.2 = 0 := by
  obtain ⟨h1, h2⟩ := mayB_iff.1 h
  rw [played_small h1]; exact h2
theorem sameB_eq {l m : List Ev} (h : sameB l m = true) : (played l).2.2 = 0 ∧ (played m).2.2 = 0 ∧ leastL l = leastL m := by
  unfold sameB at h
  rw [Bool.and_eq_true, beq_iff_eq] at h
  obtain ⟨h1, h2⟩ := sameE_zero.1 h.1
  exact ⟨h1, h2, eqB_iff.1 h.2⟩
theorem same_end {p : List (List Ev)} (hp : OkP p) (a b : List Int) (ha : doneB p (runP p a).1 = true) (hb : doneB p (runP p b).1 = true) (h : sameB (runP p a).2 (runP p b).2 = true) (d k : Bool) :
    endC (runP p a).1 d k = endC (runP p b).1 d k := by
  obtain ⟨h1, h2, h3⟩ := sameB_eq h
  obtain ⟨r1, p1⟩ := (to_least _ _ rfl : SwEq (runP p a).2 (leastN _ (runP p a).2)).replay (p := p) h1
  obtain ⟨r2, p2⟩ := (to_least _ _ rfl : SwEq (runP p b).2 (leastN _ (runP p b).2)).replay (p := p) h2
  have h3' : leastN (runP p a).2.length (runP p a).2 = leastN (runP p b).2.length (runP p b).2 := h3
  rw [h3'] at r1 p1
  refine done_end hp a b ha hb (r1.symm.trans r2) ?_ d k
  have := p1.symm.trans p2
  rwa [played_small (played_evs h1).1, played_small (played_evs h2).1] at this
end Go.Proofs.Ythfeakfakjecoaa

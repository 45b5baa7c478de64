/- A swap changes nothing of what is ahead of what, and nothing of what races. No program. -/
import Derived.Test.YtjpopjjjnaapnaaSwp
import Derived.Test.YtjpopjjjnaapnaaRacQ
namespace Go.Proofs.Ytjpopjjjnaapnaa

/-- Places, two neighbours exchanged. -/
def sg (i k : Nat) : Nat := if k = i then i + 1 else if k = i + 1 then i else k
theorem sg_sg (i k : Nat) : sg i (sg i k) = k := by unfold sg; (repeat' split) <;> omega
theorem sg_inj {i a b : Nat} (h : sg i a = sg i b) : a = b := by rw [← sg_sg i a, h, sg_sg]
theorem sg_lt {i a b : Nat} (h : a < b) (hn : ¬ (a = i ∧ b = i + 1)) : sg i a < sg i b := by unfold sg; (repeat' split) <;> omega
theorem sg_len {i k n : Nat} (hi : i + 1 < n) (hk : k < n) : sg i k < n := by unfold sg; (repeat' split) <;> omega
theorem evAt_sw {l : List Ev} {i : Nat} (h : i + 1 < l.length) (k : Nat) : evAt (sw l i) (sg i k) = evAt l k := by
  unfold evAt sw sg
  by_cases e1 : k = i
  · subst e1
    rw [if_pos rfl]
    simp [h]
  · rw [if_neg e1]
    by_cases e2 : k = i + 1
    · subst e2
      rw [if_pos rfl]
      simp [show i < l.length by omega]
    · rw [if_neg e2]
      simp [Ne.symm e1, Ne.symm e2]
theorem apart_dir {a b : Ev} (h : apartB a b = true) : dirE a b = false := by
  obtain ⟨h1, h2, h3, _⟩ := apartB_iff.1 h
  rw [Bool.eq_false_iff]
  intro hd
  rcases dirE_iff.1 hd with e | ⟨hk, ho⟩ | ⟨hk, ho⟩ | ⟨hk, ho⟩
  · exact h1 e
  · rcases hk with ⟨e1, e2⟩ | ⟨e1, e2⟩ | ⟨e1, e2⟩
    · exact apart_obj h (by simp [grp, e1, e2]) (by simp [grp, e1]) (.inl (by simp [mildB, e1])) ho
    · exact apart_obj h (by simp [grp, e1, e2]) (by simp [grp, e1]) (.inl (by simp [mildB, e1])) ho
    · exact apart_obj h (by simp [grp, e1, e2]) (by simp [grp, e1]) (.inl (by simp [mildB, e1])) ho
  · exact touch_no h2 (.inl hk) ho
  · exact touch_no h3 (.inr hk) ho
theorem R_sw1 {l : List Ev} {i : Nat} (hi : i + 1 < l.length) (hA : dirE (evAt l i) (evAt l (i + 1)) = false) : ∀ a b, R l a b = true → R (sw l i) (sg i a) (sg i b) = true := by
  intro a
  induction a using Nat.strongRecOn with
  | _ a ih =>
    intro b h
    obtain ⟨j, h1, h2, h3⟩ := (spec_all l a b).1 h
    have hne : ¬ (j = i ∧ a = i + 1) := by
      rintro ⟨rfl, rfl⟩
      rw [hA] at h2; cases h2
    have hd : R (sw l i) (sg i a) (sg i j) = true := R_dir (sg_lt h1 hne) (by rw [evAt_sw hi, evAt_sw hi]; exact h2)
    rcases h3 with rfl | h3
    · exact hd
    · exact R_trans hd (ih j h1 b h3)
theorem apart_ev {l : List Ev} {i : Nat} (hi : i + 1 < l.length) (hA : apartB (l[i]'(by omega)) l[i + 1] = true) : apartB (evAt l i) (evAt l (i + 1)) = true := by
  simpa [evAt, List.getD, hi, show i < l.length by omega] using hA
theorem R_sw {l : List Ev} {i : Nat} (hi : i + 1 < l.length) (hA : apartB (l[i]'(by omega)) l[i + 1] = true) (a b : Nat) : R (sw l i) (sg i a) (sg i b) = R l a b := by
  have hA' := apart_ev hi hA
  have hi' : i + 1 < (sw l i).length := by rw [sw_len]; exact hi
  have e0 : evAt (sw l i) i = evAt l (i + 1) := by have := evAt_sw hi (i + 1); simpa [sg] using this
  have e1 : evAt (sw l i) (i + 1) = evAt l i := by have := evAt_sw hi i; simpa [sg] using this
  apply Bool.eq_iff_iff.2
  constructor
  · intro h
    have := R_sw1 hi' (by rw [e0, e1]; exact apart_dir (by rw [apartB_symm]; exact hA')) _ _ h
    rwa [sw_sw hi, sg_sg, sg_sg] at this
  · exact R_sw1 hi (apart_dir hA') a b
/-- Independent neighbours do not race. -/
theorem apart_race {l : List Ev} {i : Nat} (hA : apartB (evAt l i) (evAt l (i + 1)) = true) : raceB l i (i + 1) = false := by
  rw [Bool.eq_false_iff]
  intro h
  obtain ⟨p1, p2, p3, _, p5⟩ := raceB_iff.1 h
  rw [isAcc_iff] at p1 p2
  refine apart_obj hA (by rcases p1 with e | e <;> rcases p2 with e' | e' <;> simp [grp, e, e']) (by rcases p1 with e | e <;> simp [grp, e]) ?_ p3
  rcases p5 with e | e
  · exact .inl (by simp [mildB, e])
  · exact .inr (by simp [mildB, e])
theorem raceB_sw {l : List Ev} {i : Nat} (hi : i + 1 < l.length) (hA : apartB (l[i]'(by omega)) l[i + 1] = true) (a b : Nat) : raceB (sw l i) (sg i a) (sg i b) = raceB l a b := by
  unfold raceB
  rw [evAt_sw hi, evAt_sw hi, R_sw hi hA]
/-- A race, told at the places behind the swap. -/
def sgR (i : Nat) (r : Rc) : Rc := ⟨(sg i r.a.toNat : Nat), (sg i r.b.toNat : Nat), r.v, r.k⟩
theorem race_sw {l : List Ev} {i : Nat} (hi : i + 1 < l.length) (hA : apartB (l[i]'(by omega)) l[i + 1] = true) {r : Rc} (h : r ∈ raceL l) : sgR i r ∈ raceL (sw l i) := by
  obtain ⟨a, b, rfl, h1, h2, h3⟩ := mem_raceL.1 h
  have hne : ¬ (a = i ∧ b = i + 1) := by
    rintro ⟨rfl, rfl⟩
    rw [apart_race (apart_ev hi hA)] at h3; cases h3
  refine mem_raceL.2 ⟨sg i a, sg i b, ?_, sg_lt h1 hne, by rw [sw_len]; exact sg_len hi h2, by rw [raceB_sw hi hA]; exact h3⟩
  simp only [sgR, raceOf, evAt_sw hi, Int.toNat_natCast]
theorem sgR_inj {l : List Ev} {i : Nat} {r s : Rc} (hr : r ∈ raceL l) (hs : s ∈ raceL l) (h : sgR i r = sgR i s) : r = s := by
  obtain ⟨a, b, rfl, _⟩ := mem_raceL.1 hr
  obtain ⟨a', b', rfl, _⟩ := mem_raceL.1 hs
  simp only [sgR, raceOf, Int.toNat_natCast, Rc.mk.injEq] at h
  have e1 : a = a' := sg_inj (i := i) (by omega)
  have e2 : b = b' := sg_inj (i := i) (by omega)
  subst e1 e2
  rfl
theorem nodup_map {α β : Type} {f : α → β} : ∀ {l : List α}, l.Nodup → (∀ x ∈ l, ∀ y ∈ l, f x = f y → x = y) → (l.map f).Nodup
  | [], _, _ => List.nodup_nil
  | a :: l, h, hi => by
    rw [List.nodup_cons] at h
    rw [List.map_cons, List.nodup_cons]
    refine ⟨fun hm => ?_, nodup_map h.2 fun x hx y hy => hi x (List.mem_cons_of_mem _ hx) y (List.mem_cons_of_mem _ hy)⟩
    obtain ⟨y, hy, e⟩ := List.mem_map.1 hm
    have := hi y (List.mem_cons_of_mem _ hy) a (List.mem_cons_self ..) e
    rw [this] at hy
    exact h.1 hy
theorem len_of_sub {α : Type} [DecidableEq α] : ∀ {l m : List α}, l.Nodup → (∀ x ∈ l, x ∈ m) → l.length ≤ m.length
  | [], _, _, _ => Nat.zero_le _
  | a :: l, m, h, hs => by
    rw [List.nodup_cons] at h
    have ha := hs a (List.mem_cons_self ..)
    have := len_of_sub (m := m.erase a) h.2 fun x hx => (List.mem_erase_of_ne (fun e => h.1 (by rw [← e]; exact hx))).2 (hs x (List.mem_cons_of_mem _ hx))
    rw [List.length_erase_of_mem ha] at this
    have hm : 0 < m.length := List.length_pos_of_mem ha
    simp only [List.length_cons]
    omega
theorem nodup_of_map {α β : Type} {f : α → β} : ∀ {l : List α}, (l.map f).Nodup → l.Nodup
  | [], _ => List.nodup_nil
  | a :: l, h => by
    rw [List.map_cons, List.nodup_cons] at h
    exact List.nodup_cons.2 ⟨fun hm => h.1 (List.mem_map_of_mem hm), nodup_of_map h.2⟩
theorem raceL_nodup (l : List Ev) : (raceL l).Nodup := by
  have h := (allP_nodup (raceB l) l.length l.length).1
  have he : (raceL l).map prOf = allP (raceB l) l.length l.length := allR_pr l l.length l.length
  rw [← he] at h
  exact nodup_of_map h
theorem raceL_sw_le {l : List Ev} {i : Nat} (hi : i + 1 < l.length) (hA : apartB (l[i]'(by omega)) l[i + 1] = true) : (raceL l).length ≤ (raceL (sw l i)).length := by
  have h := nodup_map (f := sgR i) (raceL_nodup l) fun x hx y hy e => sgR_inj hx hy e
  have := len_of_sub h fun x hx => by
    obtain ⟨r, hr, rfl⟩ := List.mem_map.1 hx
    exact race_sw hi hA hr
  simpa using this
theorem raceL_sw_len {l : List Ev} {i : Nat} (hi : i + 1 < l.length) (hA : apartB (l[i]'(by omega)) l[i + 1] = true) : (raceL (sw l i)).length = (raceL l).length := by
  have hi' : i + 1 < (sw l i).length := by rw [sw_len]; exact hi
  have h2 := raceL_sw_le hi' ((sw_apart hi).trans hA)
  rw [sw_sw hi] at h2
  exact Nat.le_antisymm h2 (raceL_sw_le hi hA)
/-- A pair of places, told behind the swap. -/
def sgP (i : Nat) (p : Int × Int) : Int × Int := ((sg i p.1.toNat : Nat), (sg i p.2.toNat : Nat))
theorem bef_sw {l : List Ev} {i : Nat} (hi : i + 1 < l.length) (hA : apartB (l[i]'(by omega)) l[i + 1] = true) {p : Int × Int} (h : p ∈ befL l) : sgP i p ∈ befL (sw l i) := by
  obtain ⟨a, b, rfl, h1, h2⟩ := mem_befL.1 h
  refine mem_befL.2 ⟨sg i a, sg i b, by simp [sgP], by rw [sw_len]; exact sg_len hi h1, by rw [R_sw hi hA]; exact h2⟩
theorem befL_sw_le {l : List Ev} {i : Nat} (hi : i + 1 < l.length) (hA : apartB (l[i]'(by omega)) l[i + 1] = true) : (befL l).length ≤ (befL (sw l i)).length := by
  have hn : (befL l).Nodup := (allP_nodup _ _ _).1
  have h := nodup_map (f := sgP i) hn fun x hx y hy e => by
    obtain ⟨a, b, rfl, _⟩ := mem_befL.1 hx
    obtain ⟨a', b', rfl, _⟩ := mem_befL.1 hy
    simp only [sgP, Int.toNat_natCast, Prod.mk.injEq] at e
    have e1 : a = a' := sg_inj (i := i) (by omega)
    have e2 : b = b' := sg_inj (i := i) (by omega)
    rw [e1, e2]
  have := len_of_sub h fun x hx => by
    obtain ⟨r, hr, rfl⟩ := List.mem_map.1 hx
    exact bef_sw hi hA hr
  simpa using this
theorem befL_sw_len {l : List Ev} {i : Nat} (hi : i + 1 < l.length) (hA : apartB (l[i]'(by omega)) l[i + 1] = true) : (befL (sw l i)).length = (befL l).length := by
  have hi' : i + 1 < (sw l i).length := by rw [sw_len]; exact hi
  have h2 := befL_sw_le hi' ((sw_apart hi).trans hA)
  rw [sw_sw hi] at h2
  exact Nat.le_antisymm h2 (befL_sw_le hi hA)
end Go.Proofs.Ytjpopjjjnaapnaa

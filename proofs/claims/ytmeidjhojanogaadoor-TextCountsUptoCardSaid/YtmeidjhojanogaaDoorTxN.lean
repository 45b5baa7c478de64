/- text.Read: plain part. -/
import Derived.Test.YtmeidjhojanogaaDoorTxI
import Derived.Lib.IndexLaws
namespace Go.Proofs.YtmeidjhojanogaaDoor
open Go.RowKit

/-- The lines of a string. -/
def partsB (s : ByteArray) : List ByteArray := Lib.splitB ⟨#[10]⟩ 0 (Lib.countB s ⟨#[10]⟩) s
theorem partsB_len (s : ByteArray) : (partsB s).length = Lib.countB s ⟨#[10]⟩ + 1 := Lib.splitB_all ⟨#[10]⟩ (by decide) 0 _ s rfl
theorem part_size (sep : ByteArray) : ∀ (k : Nat) (s p : ByteArray), p ∈ Lib.splitB sep 0 k s → p.size ≤ s.size
  | 0, s, p, h => by
    rw [Lib.splitB_zero] at h
    rw [List.mem_singleton.1 h]
    exact Nat.le_refl _
  | k + 1, s, p, h => by
    rcases Lib.indexB_cases s sep with hi | ⟨i, hi, _⟩
    · rw [Lib.splitB_miss _ _ _ _ hi] at h
      rw [List.mem_singleton.1 h]
      exact Nat.le_refl _
    · rw [Lib.splitB_hit _ _ _ _ i hi] at h
      rcases List.mem_cons.1 h with rfl | h
      · rw [ByteArray.size_extract]; omega
      · have := part_size sep k _ p h
        rw [ByteArray.size_extract] at this
        omega
/-- What Read answers at s. -/
def RdRes (s : ByteArray) (l : List Ev) (n f : Int) : Prop :=
  (2000 < s.size ∧ l = [] ∧ n = 0 ∧ f = 2) ∨ (s = ⟨#[]⟩ ∧ l = [] ∧ n = 0 ∧ f = 0) ∨
  (s ≠ ⟨#[]⟩ ∧ s.size ≤ 2000 ∧
    ((∃ es : List Ev, (∀ e ∈ es, isEv e = true) ∧ es.map lineB = (partsB s).take es.length ∧ (∃ p, (partsB s)[es.length]? = some p ∧ ∀ x, isEv x = true → lineB x ≠ p) ∧ l = [] ∧ n = es.length + 1 ∧ f = 3) ∨
     (∃ es : List Ev, (∀ e ∈ es, isEv e = true) ∧ es.map lineB = partsB s ∧ n = 0 ∧ f = (played es).2.2 ∧ ((played es).2.2 = 0 → l = es) ∧ ((played es).2.2 ≠ 0 → l = []))))
theorem map_line : ∀ {a b : List Ev}, (∀ e ∈ a, isEv e = true) → (∀ e ∈ b, isEv e = true) → a.map lineB = b.map lineB → a = b
  | [], [], _, _, _ => rfl
  | [], _ :: _, _, _, h => by simp at h
  | _ :: _, [], _, _, h => by simp at h
  | x :: a, y :: b, ha, hb, h => by
    simp only [List.map_cons, List.cons.injEq] at h
    rw [line_inj (ha x (by simp)) (hb y (by simp)) h.1, map_line (fun e he => ha e (by simp [he])) (fun e he => hb e (by simp [he])) h.2]
theorem take_drop_at {c : UInt8} : ∀ {l : List UInt8} {o : Nat}, l[o]? = some c → l.take o ++ ([c] ++ l.drop (o + 1)) = l
  | [], o, h => by simp at h
  | b :: l, 0, h => by simp at h; subst h; simp
  | b :: l, o + 1, h => by
    have := take_drop_at (l := l) (o := o) (by simpa using h)
    simp at this ⊢
    exact this
/-- The parts, joined again. -/
theorem parts_join (c : UInt8) : ∀ (k : Nat) (s : ByteArray), Lib.countB s ⟨#[c]⟩ = k → Lib.join ((Lib.splitB ⟨#[c]⟩ 0 k s).map (·.data.toList)) [c] = s.data.toList
  | 0, s, _ => by
    rw [Lib.splitB_zero]
    exact Lib.join_one _ _
  | k + 1, s, hk => by
    rcases Lib.indexB_cases s ⟨#[c]⟩ with hi | ⟨i, hi, _⟩
    · rw [Lib.countB_miss _ _ hi] at hk
      omega
    · have hc := Lib.countB_hit s ⟨#[c]⟩ i (Nat.le_refl _) hi
      have hk2 : Lib.countB (s.extract (i + (⟨#[c]⟩ : ByteArray).size) s.size) ⟨#[c]⟩ = k := by omega
      have ih := parts_join c k _ hk2
      have hn := Lib.splitB_all ⟨#[c]⟩ (Nat.le_refl _) 0 k _ hk2
      rw [Lib.splitB_hit _ _ _ _ i hi]
      generalize hR : Lib.splitB ⟨#[c]⟩ 0 k (s.extract (i + (⟨#[c]⟩ : ByteArray).size) s.size) = R at *
      obtain ⟨y, r, rfl⟩ : ∃ y r, R = y :: r := by
        cases R with
        | nil => simp at hn
        | cons y r => exact ⟨y, r, rfl⟩
      rw [List.map_cons] at ih
      rw [List.map_cons, List.map_cons, join_two, ih, Lib.extract_to_end, Nat.add_zero, Lib.extract_from_zero]
      have hix : Lib.indexByte s.data.toList c = i := by
        rw [← Lib.index_one]
        exact hi
      exact take_drop_at (Lib.indexByte_some hix).1
theorem text_join {s : ByteArray} {es : List Ev} (h : es.map lineB = partsB s) : textB es = s := by
  have hj := parts_join 10 _ s rfl
  rw [show Lib.splitB ⟨#[10]⟩ 0 (Lib.countB s ⟨#[10]⟩) s = partsB s from rfl, ← h, List.map_map] at hj
  exact ByteArray.ext (Array.toList_inj.1 hj)
def line13 : Bool := (List.range 8).all fun k => (List.range 6).all fun t => (List.range 8).all fun o => decide (1 ≤ (lineX (k + 1) t o).data.toList.length ∧ (lineX (k + 1) t o).data.toList.length ≤ 13)
set_option maxRecDepth 100000 in
theorem line13_ok : line13 = true := by kernel_rfl
theorem line_13 {e : Ev} (he : isEv e = true) : 1 ≤ (lineL e).length ∧ (lineL e).length ≤ 13 := by
  obtain ⟨⟨k1, k8⟩, ⟨t0, t6⟩, o0, o8⟩ := isEv_bounds he
  obtain ⟨k, t, o⟩ := e
  obtain ⟨k, rfl⟩ := Int.eq_ofNat_of_zero_le (show 0 ≤ k by simp at k1; omega)
  obtain ⟨t, rfl⟩ := Int.eq_ofNat_of_zero_le t0
  obtain ⟨o, rfl⟩ := Int.eq_ofNat_of_zero_le o0
  simp only at k1 k8 t6 o8
  rw [lineL_X (K := k) (T := t) (O := o) rfl rfl rfl (by omega) (by omega)]
  have h := line13_ok
  unfold line13 at h
  have h2 := List.all_eq_true.1 (List.all_eq_true.1 (List.all_eq_true.1 h (k - 1) (List.mem_range.2 (by omega))) t (List.mem_range.2 (by omega))) o (List.mem_range.2 (by omega))
  rw [show k - 1 + 1 = k by omega] at h2
  exact of_decide_eq_true h2
theorem join_13 : ∀ (xs : List (List UInt8)), (∀ x ∈ xs, x.length ≤ 13) → (Lib.join xs [10]).length ≤ 14 * xs.length
  | [], _ => by rw [Lib.join_nil]; exact Nat.zero_le _
  | [x], h => by
    rw [Lib.join_one]
    have := h x (by simp)
    simp only [List.length_cons, List.length_nil]
    omega
  | x :: y :: r, h => by
    have ih := join_13 (y :: r) (fun z hz => h z (by simp [hz]))
    have := h x (by simp)
    rw [join_two]
    simp only [List.length_append, List.length_cons, List.length_nil] at *
    omega
theorem text_2000 {l : List Ev} (hl : l.length ≤ 80) (hev : ∀ e ∈ l, isEv e = true) : (textB l).size ≤ 2000 := by
  have h := join_13 (l.map lineL) (fun x hx => by
    obtain ⟨e, he, rfl⟩ := List.mem_map.1 hx
    exact (line_13 (hev e he)).2)
  rw [List.length_map] at h
  show (textL l).toArray.size ≤ _
  rw [List.size_toArray]
  show (Lib.join (l.map lineL) [10]).length ≤ _
  omega
theorem text_nil {l : List Ev} (hev : ∀ e ∈ l, isEv e = true) (h : textB l = ⟨#[]⟩) : l = [] := by
  cases l with
  | nil => rfl
  | cons e r =>
    have h1 := (line_13 (hev e (by simp))).1
    have h2 : (Lib.join ((e :: r).map lineL) [10]).length = 0 := by
      have := congrArg ByteArray.size h
      have h3 : (textL (e :: r)).toArray.size = 0 := this
      rw [List.size_toArray] at h3
      exact h3
    cases r with
    | nil =>
      rw [List.map_cons, List.map_nil, Lib.join_one] at h2
      omega
    | cons f r =>
      rw [List.map_cons, List.map_cons, join_two] at h2
      simp only [List.length_append] at h2
      omega
/-- What Read answers at a printed trace. -/
theorem rd_text {l m : List Ev} {n f : Int} (hp : (played l).2.2 = 0) (h : RdRes (textB l) m n f) : m = l ∧ n = 0 ∧ f = 0 := by
  obtain ⟨hl80, hev⟩ := played_evs hp
  have h2 := text_2000 hl80 hev
  rcases h with ⟨h1, _⟩ | ⟨h1, rfl, rfl, rfl⟩ | ⟨h1, _, h⟩
  · omega
  · exact ⟨(text_nil hev h1).symm, rfl, rfl⟩
  · have hne : l ≠ [] := fun e => h1 (by rw [e]; rfl)
    have hpt : partsB (textB l) = l.map lineB := (split_text hne hev).2
    rw [hpt] at h
    rcases h with ⟨es, _, _, ⟨p, hq, hno⟩, _⟩ | ⟨es, hes, hmap, rfl, rfl, hz, _⟩
    · exfalso
      rw [List.getElem?_map] at hq
      cases hx : l[es.length]? with
      | none => rw [hx] at hq; simp at hq
      | some x =>
        rw [hx] at hq
        simp at hq
        exact hno x (hev x (List.mem_of_getElem? hx)) hq
    · have he : es = l := map_line hes hev hmap
      subst he
      exact ⟨hz hp, rfl, hp⟩
/-- Whatever Read answers: without an error it is the trace whose text was read. -/
theorem rd_back {s : ByteArray} {m : List Ev} {n f : Int} (h : RdRes s m n f) : (f ≠ 0 ∧ m = []) ∨ (f = 0 ∧ (played m).2.2 = 0 ∧ textB m = s) := by
  rcases h with ⟨_, rfl, _, rfl⟩ | ⟨rfl, rfl, _, rfl⟩ | ⟨_, _, ⟨es, _, _, _, rfl, _, rfl⟩ | ⟨es, hes, hmap, _, rfl, hz, hnz⟩⟩
  · exact .inl ⟨by decide, rfl⟩
  · exact .inr ⟨rfl, rfl, rfl⟩
  · exact .inl ⟨by decide, rfl⟩
  · by_cases hp : (played es).2.2 = 0
    · rw [hz hp]
      exact .inr ⟨hp, hp, text_join hmap⟩
    · exact .inl ⟨hp, hnz hp⟩
theorem err_ne3 (s : St) (e : Ev) : err s e ≠ 3 := by
  unfold err
  repeat' split
  all_goals decide
theorem playL_ne3 : ∀ (l : List Ev) (s : St) (i : Nat), (playL s i l).2.2 ≠ 3
  | [], _, _ => by show (0 : Int) ≠ 3; decide
  | e :: l, s, i => by
    unfold playL
    split
    · exact playL_ne3 l _ _
    · exact err_ne3 s e
theorem played_ne3 (l : List Ev) : (played l).2.2 ≠ 3 := by
  unfold played
  split
  · show (2 : Int) ≠ 3
    decide
  · exact playL_ne3 _ _ _
/-- A line that can't be read is told by its number. -/
theorem rd_line {s : ByteArray} {m : List Ev} {n f : Int} (h : RdRes s m n f) : (f ≠ 3 ∧ n = 0) ∨ (f = 3 ∧ ∃ k p, n = ((k + 1 : Nat) : Int) ∧ (partsB s)[k]? = some p ∧ ∀ x, isEv x = true → lineB x ≠ p) := by
  rcases h with ⟨_, _, rfl, rfl⟩ | ⟨_, _, rfl, rfl⟩ | ⟨_, _, ⟨es, _, _, ⟨p, hp, hno⟩, _, rfl, rfl⟩ | ⟨es, _, _, rfl, rfl, _⟩⟩
  · exact .inl ⟨by decide, rfl⟩
  · exact .inl ⟨by decide, rfl⟩
  · exact .inr ⟨rfl, es.length, p, by omega, hp, hno⟩
  · exact .inl ⟨played_ne3 es, rfl⟩
end Go.Proofs.YtmeidjhojanogaaDoor

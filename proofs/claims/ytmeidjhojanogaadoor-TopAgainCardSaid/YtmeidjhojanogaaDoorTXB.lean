/- Joined texts. -/
import Derived.Test.YtmeidjhojanogaaDoorTXA
import Derived.HandedShaped
import Derived.Shelf.Vars
import Derived.Lib.SplitLaws
import Derived.Lib.IndexLaws

/- The frame of a tied card whose walk reads a variable of Go's library; the walk of TextLine. -/
namespace Go.Proofs.YtmeidjhojanogaaDoor
open Go.RowKit

theorem event_line (x : Ev) (hx : isEv x = true) (m : Int) (w : World) (hm : w.cell? ⟨0, 0, none⟩ = some (.int .i64 m)) :
    Calls Tryd.prog 12 #[.string (lineB x)] w fun r w' => r = .returned (.tuple #[evV x, .int .i64 0]) ∧ Below w.heap.size w w' := by
  obtain ⟨⟨k1, k8⟩, ⟨t0, t6⟩, o0, o8⟩ := isEv_bounds hx
  obtain ⟨k, t, o⟩ := x
  obtain ⟨k, rfl⟩ := Int.eq_ofNat_of_zero_le (show 0 ≤ k by simp at k1; omega)
  obtain ⟨t, rfl⟩ := Int.eq_ofNat_of_zero_le t0
  obtain ⟨o, rfl⟩ := Int.eq_ofNat_of_zero_le o0
  simp only at k1 k8 t6 o8
  rw [line_X (K := k) (T := t) (O := o) rfl rfl rfl (by omega) (by omega)]
  exact event_X k t o (by omega) (by omega) (by omega) (by omega) hx m w hm
set_option maxRecDepth 100000 in
set_option maxHeartbeats 8000000 in
theorem textLine_walk (x y : Ev) (w : World) (m : Int) (hm : w.cell? ⟨0, 0, none⟩ = some (.int .i64 m)) (_ : I64 x.k ∧ I64 x.t ∧ I64 x.o) (_ : I64 y.k ∧ I64 y.t ∧ I64 y.o) :
    Calls Tryd.prog 4 #[evV x, evV y] w fun e w' => e = .returned (.bool true) ∧ Below w.heap.size w w' := by
  have hb0 := ((Below.refl w.heap.size w).alloc (Nat.le_refl _) (.cells (evC x) 30)).alloc (by simp) (.cells (evC y) 30)
  have hX := (Has.new w (evC x) 30).alloc (.cells (evC y) 30)
  have hY : Has ((w.alloc (.cells (evC x) 30)).alloc (.cells (evC y) 30)) (w.heap.size + 1) (evC y) 30 := by
    have := Has.new (w.alloc (.cells (evC x) 30)) (evC y) 30
    rwa [World.size_alloc] at this
  have hmlt := World.block_lt_of_cell? w _ hm
  go_enter Tryd.func4, Tryd.ntmps4
  go_wp2_with fail
  generalize (w.alloc (.cells (evC x) 30)).alloc (.cells (evC y) 30) = W0 at *
  refine (texted_any W0).mono ?_
  rintro r w1 ⟨rfl, hb1⟩
  have hX1 := hX.below hb1 hX.lt
  have hY1 := hY.below hb1 hY.lt
  have hk1 := hb0.trans (hb1.mono hb0.size)
  clear hX hY hb0 hb1
  have e0 : w1.cell? ⟨w.heap.size, 0, none⟩ = some (.int .i64 x.k) := hX1.cell rfl
  have e1 : w1.cell? ⟨w.heap.size, 1, none⟩ = some (.int .i64 x.t) := hX1.cell rfl
  have e2 : w1.cell? ⟨w.heap.size, 2, none⟩ = some (.int .i64 x.o) := hX1.cell rfl
  go_wp2_with fail
  refine (line_any x w1).mono ?_
  rintro r w2 ⟨rfl, hb2⟩
  have hX2 := hX1.below hb2 hX1.lt
  have hY2 := hY1.below hb2 hY1.lt
  have hk2 := hk1.trans (hb2.mono hk1.size)
  clear hX1 hY1 hk1 hb2 e0 e1 e2
  have f0 : w2.cell? ⟨w.heap.size + 1, 0, none⟩ = some (.int .i64 y.k) := hY2.cell rfl
  have f1 : w2.cell? ⟨w.heap.size + 1, 1, none⟩ = some (.int .i64 y.t) := hY2.cell rfl
  have f2 : w2.cell? ⟨w.heap.size + 1, 2, none⟩ = some (.int .i64 y.o) := hY2.cell rfl
  generalize hu1 : (if isEv x = true then lineB x else ⟨#[]⟩) = u1
  generalize hv1 : (if isEv x = true then (0 : Int) else 1) = v1
  go_wp2_with fail
  refine (line_any y w2).mono ?_
  rintro r w3 ⟨rfl, hb3⟩
  have hX3 := hX2.below hb3 hX2.lt
  have hY3 := hY2.below hb3 hY2.lt
  have hk3 := hk2.trans (hb3.mono hk2.size)
  clear hX2 hY2 hk2 hb3 f0 f1 f2
  have hm3 := (hk3.cell hmlt).trans hm
  have e0 : w3.cell? ⟨w.heap.size, 0, none⟩ = some (.int .i64 x.k) := hX3.cell rfl
  have e1 : w3.cell? ⟨w.heap.size, 1, none⟩ = some (.int .i64 x.t) := hX3.cell rfl
  have e2 : w3.cell? ⟨w.heap.size, 2, none⟩ = some (.int .i64 x.o) := hX3.cell rfl
  have f0 : w3.cell? ⟨w.heap.size + 1, 0, none⟩ = some (.int .i64 y.k) := hY3.cell rfl
  have f1 : w3.cell? ⟨w.heap.size + 1, 1, none⟩ = some (.int .i64 y.t) := hY3.cell rfl
  have f2 : w3.cell? ⟨w.heap.size + 1, 2, none⟩ = some (.int .i64 y.o) := hY3.cell rfl
  generalize hu2 : (if isEv y = true then lineB y else ⟨#[]⟩) = u2
  generalize hv2 : (if isEv y = true then (0 : Int) else 1) = v2
  cases hqx : isEv x
  · rw [hqx] at hu1 hv1
    obtain rfl : u1 = ⟨#[]⟩ := hu1.symm
    obtain rfl : v1 = 1 := hv1.symm
    clear hu1 hv1 hu2 hv2
    go_wp2
    all_goals
      go_ret
      exact ⟨rfl, hk3⟩
  · rw [hqx] at hu1 hv1
    obtain rfl : u1 = lineB x := hu1.symm
    obtain rfl : v1 = 0 := hv1.symm
    cases hqy : isEv y
    · rw [hqy] at hu2 hv2
      obtain rfl : u2 = ⟨#[]⟩ := hu2.symm
      obtain rfl : v2 = 1 := hv2.symm
      clear hu1 hv1 hu2 hv2
      go_wp2
      all_goals
        go_ret
        exact ⟨rfl, hk3⟩
    · rw [hqy] at hu2 hv2
      obtain rfl : u2 = lineB y := hu2.symm
      obtain rfl : v2 = 0 := hv2.symm
      clear hu1 hv1 hu2 hv2
      go_wp2_with fail
      refine (event_line x hqx m w3 hm3).mono ?_
      rintro r w4 ⟨rfl, hb4⟩
      have hX4 := hX3.below hb4 hX3.lt
      have hY4 := hY3.below hb4 hY3.lt
      have hk4 := hk3.trans (hb4.mono hk3.size)
      clear e0 e1 e2 f0 f1 f2 hX3 hY3 hk3 hb4 hm3
      have hk5 := hk4.alloc hk4.size (.cells (evC x) 30)
      have hX5 := hX4.alloc (.cells (evC x) 30)
      have hY5 := hY4.alloc (.cells (evC x) 30)
      have hZ5 := Has.new w4 (evC x) 30
      go_upto_region 8 with fail
      generalize w4.alloc (.cells (evC x) 30) = w5 at *
      have e0 : w5.cell? ⟨w.heap.size, 0, none⟩ = some (.int .i64 x.k) := hX5.cell rfl
      have e1 : w5.cell? ⟨w.heap.size, 1, none⟩ = some (.int .i64 x.t) := hX5.cell rfl
      have e2 : w5.cell? ⟨w.heap.size, 2, none⟩ = some (.int .i64 x.o) := hX5.cell rfl
      have f0 : w5.cell? ⟨w.heap.size + 1, 0, none⟩ = some (.int .i64 y.k) := hY5.cell rfl
      have f1 : w5.cell? ⟨w.heap.size + 1, 1, none⟩ = some (.int .i64 y.t) := hY5.cell rfl
      have f2 : w5.cell? ⟨w.heap.size + 1, 2, none⟩ = some (.int .i64 y.o) := hY5.cell rfl
      have g0 : w5.cell? ⟨w4.heap.size, 0, none⟩ = some (.int .i64 x.k) := hZ5.cell rfl
      have g1 : w5.cell? ⟨w4.heap.size, 1, none⟩ = some (.int .i64 x.t) := hZ5.cell rfl
      have g2 : w5.cell? ⟨w4.heap.size, 2, none⟩ = some (.int .i64 x.o) := hZ5.cell rfl
      have hs : ((lineB x).toList == (lineB y).toList) = decide (x = y) := by
        rw [strEqT]
        exact decide_eq_decide.2 ⟨fun h => line_inj hqx hqy h, fun h => by rw [h]⟩
      have hx3 : x = y ↔ x.k = y.k ∧ x.t = y.t ∧ x.o = y.o := ⟨fun h => by rw [h]; exact ⟨rfl, rfl, rfl⟩, fun h => by
        obtain ⟨a, b, c⟩ := x
        obtain ⟨a', b', c'⟩ := y
        obtain ⟨rfl, rfl, rfl⟩ := h
        rfl⟩
      go_wp2
      all_goals first
        | (go_ret; exact ⟨rfl, hk5⟩)
        | (exfalso; clear hX4 hY4 hX5 hY5 hZ5 hk4 hk5 e0 e1 e2 f0 f1 f2 g0 g1 g2 hm hmlt; trace_state; simp_all; done)
end Go.Proofs.YtmeidjhojanogaaDoor

/- Split of a joined text. -/
namespace Go.Proofs.YtmeidjhojanogaaDoor
open Go.RowKit

theorem idx_none (c : UInt8) : ∀ x : List UInt8, c ∉ x → Lib.indexByte x c = -1
  | [], _ => rfl
  | b :: l, h => by
    have hb : (b == c) = false := beq_eq_false_iff_ne.2 (fun e => h (by rw [e]; simp))
    have ih := idx_none c l (fun e => h (by simp [e]))
    unfold Lib.indexByte
    rw [hb, ih]
    rfl
theorem idx_at (c : UInt8) (r : List UInt8) : ∀ x : List UInt8, c ∉ x → Lib.indexByte (x ++ ([c] ++ r)) c = x.length
  | [], _ => by
    show Lib.indexByte (c :: r) c = 0
    unfold Lib.indexByte
    simp
  | b :: l, h => by
    have hb : (b == c) = false := beq_eq_false_iff_ne.2 (fun e => h (by rw [e]; simp))
    have ih := idx_at c r l (fun e => h (by simp [e]))
    show Lib.indexByte (b :: (l ++ ([c] ++ r))) c = _
    unfold Lib.indexByte
    rw [hb, ih]
    have h2 : ((l.length : Int) == -1) = false := beq_eq_false_iff_ne.2 (by omega)
    rw [h2]
    simp
def ofL (x : List UInt8) : ByteArray := ⟨x.toArray⟩
theorem ofL_ext {s : ByteArray} {x : List UInt8} (h : s.data.toList = x) : s = ofL x := ByteArray.ext (Array.toList_inj.1 (by rw [h]; rfl))
theorem split_join (c : UInt8) : ∀ xs : List (List UInt8), xs ≠ [] → (∀ x ∈ xs, c ∉ x) → Lib.countB (ofL (Lib.join xs [c])) ⟨#[c]⟩ + 1 = xs.length ∧ ∀ k, k + 1 = xs.length → Lib.splitB ⟨#[c]⟩ 0 k (ofL (Lib.join xs [c])) = xs.map ofL
  | [], h, _ => absurd rfl h
  | [x], _, h => by
    rw [Lib.join_one]
    have hi : Lib.indexB (ofL x) ⟨#[c]⟩ = -1 := by
      show Lib.index x [c] = -1
      rw [Lib.index_one]
      exact idx_none c x (h x (by simp))
    refine ⟨by rw [Lib.countB_miss _ _ hi]; rfl, fun k _ => ?_⟩
    rw [Lib.splitB_miss _ _ _ _ hi]
    rfl
  | x :: y :: r, _, h => by
    obtain ⟨ih1, ih2⟩ := split_join c (y :: r) (by simp) (fun z hz => h z (by simp [hz]))
    rw [join_two]
    have hi : Lib.indexB (ofL (x ++ ([c] ++ Lib.join (y :: r) [c]))) ⟨#[c]⟩ = x.length := by
      show Lib.index (x ++ ([c] ++ Lib.join (y :: r) [c])) [c] = _
      rw [Lib.index_one]
      exact idx_at c _ x (h x (by simp))
    have hx : (ofL (x ++ ([c] ++ Lib.join (y :: r) [c]))).extract (x.length + (⟨#[c]⟩ : ByteArray).size) (ofL (x ++ ([c] ++ Lib.join (y :: r) [c]))).size = ofL (Lib.join (y :: r) [c]) := by
      apply ofL_ext
      rw [Lib.extract_to_end]
      show (x ++ ([c] ++ Lib.join (y :: r) [c])).drop (x.length + 1) = _
      rw [← List.append_assoc, List.drop_append_of_le_length (by simp)]
      simp
    refine ⟨?_, fun k hk => ?_⟩
    · rw [Lib.countB_hit _ _ x.length (Nat.le_refl _) hi, hx]
      simp only [List.length_cons] at *
      omega
    · obtain ⟨k, rfl⟩ : ∃ j, k = j + 1 := ⟨k - 1, by simp at hk; omega⟩
      rw [Lib.splitB_hit _ _ _ _ x.length hi, hx, ih2 k (by simp at hk ⊢; omega)]
      show _ = ofL x :: _
      congr 1
      apply ofL_ext
      rw [Lib.extract_from_zero]
      show (x ++ ([c] ++ Lib.join (y :: r) [c])).take (x.length + 0) = x
      simp
def noNl : Bool := (List.range 8).all fun k => (List.range 6).all fun t => (List.range 8).all fun o => (lineX (k + 1) t o).data.toList.all (· != 10)
set_option maxRecDepth 100000 in
theorem noNl_ok : noNl = true := by kernel_rfl
theorem line_nl {e : Ev} (he : isEv e = true) : (10 : UInt8) ∉ lineL e := by
  obtain ⟨⟨k1, k8⟩, ⟨t0, t6⟩, o0, o8⟩ := isEv_bounds he
  obtain ⟨k, t, o⟩ := e
  obtain ⟨k, rfl⟩ := Int.eq_ofNat_of_zero_le (show 0 ≤ k by simp at k1; omega)
  obtain ⟨t, rfl⟩ := Int.eq_ofNat_of_zero_le t0
  obtain ⟨o, rfl⟩ := Int.eq_ofNat_of_zero_le o0
  simp only at k1 k8 t6 o8
  rw [lineL_X (K := k) (T := t) (O := o) rfl rfl rfl (by omega) (by omega)]
  have h := noNl_ok
  unfold noNl at h
  have h2 := List.all_eq_true.1 (List.all_eq_true.1 (List.all_eq_true.1 h (k - 1) (List.mem_range.2 (by omega))) t (List.mem_range.2 (by omega))) o (List.mem_range.2 (by omega))
  rw [show k - 1 + 1 = k by omega] at h2
  intro hm
  have := List.all_eq_true.1 h2 _ hm
  simp at this
theorem split_text {l : List Ev} (hl : l ≠ []) (hev : ∀ e ∈ l, isEv e = true) : Lib.countB (textB l) ⟨#[10]⟩ + 1 = l.length ∧ Lib.splitB ⟨#[10]⟩ 0 (Lib.countB (textB l) ⟨#[10]⟩) (textB l) = l.map lineB := by
  have h := split_join 10 (l.map lineL) (by simpa using hl) (fun x hx => by
    obtain ⟨e, he, rfl⟩ := List.mem_map.1 hx
    exact line_nl (hev e he))
  rw [List.length_map, List.map_map] at h
  exact ⟨h.1, h.2 _ h.1⟩
end Go.Proofs.YtmeidjhojanogaaDoor

/- text.Event at any string: plain part. -/
namespace Go.Proofs.YtmeidjhojanogaaDoor
open Go.RowKit

/-- What Event answers at s. -/
def EvRes (s : ByteArray) (e : Ev) (f : Int) : Prop := (isEv e = true ∧ lineB e = s ∧ f = 0) ∨ ((∀ x, isEv x = true → lineB x ≠ s) ∧ e = ⟨0, 0, 0⟩ ∧ f = 3)
/-- The parts of a string that is the line of an event. -/
theorem ev_parts {x : Ev} {s : ByteArray} (hx : isEv x = true) (h : lineB x = s) : ∃ K T O : Nat, x = ⟨K, T, O⟩ ∧ (1 ≤ K ∧ K ≤ 8) ∧ T < 6 ∧ O < 8 ∧ Lib.countB s ⟨#[32]⟩ = 2 ∧ Lib.splitB ⟨#[32]⟩ 0 2 s = [p0X T, wordA K, p2X K O] := by
  obtain ⟨⟨k1, k8⟩, ⟨t0, t6⟩, o0, o8⟩ := isEv_bounds hx
  obtain ⟨k, t, o⟩ := x
  obtain ⟨k, rfl⟩ := Int.eq_ofNat_of_zero_le (show 0 ≤ k by simp at k1; omega)
  obtain ⟨t, rfl⟩ := Int.eq_ofNat_of_zero_le t0
  obtain ⟨o, rfl⟩ := Int.eq_ofNat_of_zero_le o0
  simp only at k1 k8 t6 o8
  rw [line_X (K := k) (T := t) (O := o) rfl rfl rfl (by omega) (by omega)] at h
  subst h
  obtain ⟨h1, h2⟩ := parts_line (K := k) (T := t) (O := o) (by omega) (by omega) (by omega) (by omega)
  exact ⟨k, t, o, rfl, ⟨by omega, by omega⟩, by omega, by omega, h1, h2⟩
theorem res_count {s : ByteArray} (h : Lib.countB s ⟨#[32]⟩ ≠ 2) : ∀ x, isEv x = true → lineB x ≠ s := fun x hx hl => by
  obtain ⟨_, _, _, _, _, _, _, h1, _⟩ := ev_parts hx hl
  exact h h1
theorem res_sizes {s p0 p1 p2 : ByteArray} (h : Lib.splitB ⟨#[32]⟩ 0 2 s = [p0, p1, p2]) (hz : p0.size ≠ 2 ∨ p2.size ≠ 2) : ∀ x, isEv x = true → lineB x ≠ s := fun x hx hl => by
  obtain ⟨K, T, O, _, ⟨k1, k8⟩, _, _, _, h2⟩ := ev_parts hx hl
  rw [h] at h2
  simp only [List.cons.injEq, and_true] at h2
  obtain ⟨rfl, rfl, rfl⟩ := h2
  obtain ⟨c, hc⟩ := letA_byte (mem_eight.2 ⟨k1, k8⟩)
  rcases hz with hz | hz
  · exact hz rfl
  · apply hz
    unfold p2X
    rw [hc]
    rfl
/-- The event that Event tries at kind k. -/
def tryE (k : Nat) (a b : UInt8) : Ev := ⟨k, (a.toNat : Int) - 48, (b.toNat : Int) - 48⟩
theorem res_none {s p1 : ByteArray} {a0 a b0 b : UInt8} (h : Lib.splitB ⟨#[32]⟩ 0 2 s = [⟨#[a0, a]⟩, p1, ⟨#[b0, b]⟩]) (hk : ∀ k ∈ eight, ¬ (wordA k = p1 ∧ isEv (tryE k a b) = true ∧ lineB (tryE k a b) = s)) : ∀ x, isEv x = true → lineB x ≠ s := fun x hx hl => by
  obtain ⟨K, T, O, rfl, ⟨k1, k8⟩, hT, hO, _, h2⟩ := ev_parts hx hl
  have hK := mem_eight.2 ⟨k1, k8⟩
  obtain ⟨c, hc⟩ := letA_byte hK
  rw [h] at h2
  simp only [List.cons.injEq, and_true] at h2
  obtain ⟨e0, e1, e2⟩ := h2
  have q0 := (bytes_two (show (⟨#[a0, a]⟩ : ByteArray) = ⟨#[116, UInt8.ofNat (48 + T)]⟩ from e0)).2
  have q2 : b = UInt8.ofNat (48 + O) := by
    unfold p2X at e2
    rw [hc] at e2
    exact (bytes_two (show (⟨#[b0, b]⟩ : ByteArray) = ⟨#[c, UInt8.ofNat (48 + O)]⟩ from e2)).2
  have t1 : (a.toNat : Int) - 48 = T := by
    rw [q0]
    have : (UInt8.ofNat (48 + T)).toNat = 48 + T := by show (48 + T) % 2 ^ 8 = 48 + T; omega
    omega
  have t2 : (b.toNat : Int) - 48 = O := by
    rw [q2]
    have : (UInt8.ofNat (48 + O)).toNat = 48 + O := by show (48 + O) % 2 ^ 8 = 48 + O; omega
    omega
  have ht : tryE K a b = ⟨K, T, O⟩ := by unfold tryE; rw [t1, t2]
  exact hk K hK ⟨e1.symm, by rw [ht]; exact hx, by rw [ht]; exact hl⟩
theorem two_bytes {p : ByteArray} (h : p.size = 2) : ∃ a b, p = ⟨#[a, b]⟩ := by
  obtain ⟨⟨l⟩⟩ := p
  match l, h with
  | [a, b], _ => exact ⟨a, b, rfl⟩
theorem three_parts {s : ByteArray} (h : Lib.countB s ⟨#[32]⟩ = 2) : ∃ p0 p1 p2, Lib.splitB ⟨#[32]⟩ 0 2 s = [p0, p1, p2] := by
  have hn : (Lib.splitB ⟨#[32]⟩ 0 (Lib.countB s ⟨#[32]⟩) s).length = Lib.countB s ⟨#[32]⟩ + 1 := Lib.splitB_all ⟨#[32]⟩ (by decide) 0 _ s rfl
  rw [h] at hn
  match hm : Lib.splitB ⟨#[32]⟩ 0 2 s, hn with
  | [a, b, c], _ => exact ⟨a, b, c, rfl⟩
end Go.Proofs.YtmeidjhojanogaaDoor

/- The walk of TextEach. -/
namespace Go.Proofs.YtmeidjhojanogaaDoor
open Go.RowKit

theorem split_n (n : Nat) (s : ByteArray) (m : Int) (w : World) (hs : s.size < 4294967281) (hm : w.cell? ⟨0, 0, none⟩ = some (.int .i64 m)) (hn : Lib.countB s ⟨#[10]⟩ + 1 = n) :
    Calls Tryd.prog 10 #[.string s, .string ⟨#[10]⟩] w fun e w' => e = .returned (.slice (some ⟨w.heap.size, 0, none⟩) n n) ∧ w' = w.alloc (.cells ((Lib.splitB ⟨#[10]⟩ 0 (Lib.countB s ⟨#[10]⟩) s).map Value.string).toArray 9) := by
  subst hn
  exact l_strings_Split s ⟨#[10]⟩ m w hs hm (Nat.le_refl _)
theorem textL_size {l : List Ev} (hl : l.length ≤ 80) (hev : ∀ e ∈ l, isEv e = true) : (textB l).size < 4294967281 := by
  have h := join_len (l.map lineL) (fun x hx => by
    obtain ⟨e, he, rfl⟩ := List.mem_map.1 hx
    exact lineL_size (hev e he))
  rw [List.length_map] at h
  show (textL l).toArray.size < _
  rw [List.size_toArray]
  show (Lib.join (l.map lineL) [10]).length < _
  omega
set_option maxRecDepth 100000 in
set_option maxHeartbeats 8000000 in
theorem textEach_goes (l : List Ev) (a : Option Addr) (c : Nat) (w : World) (m : Int) (hm : w.cell? ⟨0, 0, none⟩ = some (.int .i64 m)) (h : EvS w a l) :
    Calls Tryd.prog 3 #[.slice a l.length c] w fun r w' => r = .returned (.bool true) ∧ Below w.heap.size w w' := by
  have hmlt := World.block_lt_of_cell? w _ hm
  go_enter Tryd.func3, Tryd.ntmps3
  go_wp2_with fail
  refine (texted_any w).mono ?_
  rintro r w1 ⟨rfl, hb1⟩
  go_wp2_with fail
  refine (text_any l a c w1 (h.below hb1)).mono ?_
  rintro r w2 ⟨rfl, hb2⟩
  have hk2 := hb1.trans (hb2.mono hb1.size)
  clear hb1 hb2
  by_cases he : (played l).2.2 = 0
  · obtain ⟨hl80, hev⟩ := played_evs he
    have hV : txtV l = textB l := if_pos he
    rw [hV, he]
    by_cases hl : l = []
    · subst hl
      have ht : textB [] = ⟨#[]⟩ := rfl
      rw [ht]
      go_wp2
      all_goals
        go_ret
        exact ⟨rfl, hk2⟩
    · obtain ⟨hcn, hsp⟩ := split_text hl hev
      have hpos : 0 < l.length := List.length_pos_iff.2 hl
      have hne0 : ((l.length : Int) == 0) = false := beq_eq_false_iff_ne.2 (by omega)
      have hne1 : ¬ (l.length : Int) = 0 := by omega
      have hsz := textL_size hl80 hev
      have hm2 := (hk2.cell hmlt).trans hm
      have hS := Has.new w2 ((l.map lineB).map Value.string).toArray 9
      have hHE := Lib.hid hev
      clear hV he hev hl
      go_wp2_with fail
      refine (split_n l.length (textB l) m w2 hsz hm2 hcn).mono ?_
      rintro r w3 ⟨rfl, rfl⟩
      rw [hsp]
      have hk3 := hk2.alloc hk2.size (.cells ((l.map lineB).map Value.string).toArray 9)
      clear hcn hsp hsz hm2
      have hks := hk2.size
      generalize w2.alloc (.cells ((l.map lineB).map Value.string).toArray 9) = w3 at *
      go_wp2
      go_loopw [35] (fun i wr => ∃ k : Nat, k ≤ l.length ∧ i = .int .i64 k ∧ Below w3.heap.size w3 wr) (fun i _ => l.length - (intOf i).toNat)
      case atStart => exact ⟨0, Nat.zero_le _, rfl, Below.refl _ _⟩
      case round =>
        obtain ⟨k, hk, rfl, hb⟩ := hrel
        obtain ⟨wo, rfl⟩ : ∃ wo : World, wo = wr := ⟨_, rfl⟩
        have hkb := hk3.trans (hb.mono hk3.size)
        by_cases hlt : k < l.length
        · obtain ⟨b', o', rfl, d0, d1, d2⟩ := (h.below hkb).at hlt
          have hxe := hHE.out l[k] (List.getElem_mem hlt)
          have hS4 := hS.below hb hS.lt
          have hcell : wo.cell? ⟨w2.heap.size, k, none⟩ = some (.string (lineB l[k])) := by
            refine hS4.cell ?_
            simp [hlt]
          generalize l[k] = x at *
          have hN := Has.new wo (evC x) 30
          have hbx := hb.alloc hb.size (.cells (evC x) 30)
          have hcx : (wo.alloc (.cells (evC x) 30)).cell? ⟨w2.heap.size, k, none⟩ = some (.string (lineB x)) := (((Below.refl wo.heap.size wo).alloc (Nat.le_refl _) (.cells (evC x) 30)).cell (World.block_lt_of_cell? wo _ hcell)).trans hcell
          go_upto_region 12 with fail
          clear d0 d1 d2 hcell hS4 hb hkb
          generalize wo.alloc (.cells (evC x) 30) = W at *
          obtain ⟨e0, e1, e2⟩ : W.cell? ⟨wo.heap.size, 0, none⟩ = some (.int .i64 x.k) ∧ W.cell? ⟨wo.heap.size, 1, none⟩ = some (.int .i64 x.t) ∧ W.cell? ⟨wo.heap.size, 2, none⟩ = some (.int .i64 x.o) := ⟨hN.cell rfl, hN.cell rfl, hN.cell rfl⟩
          go_wp2_with fail
          refine (line_any x W).mono ?_
          rintro r w5 ⟨rfl, hb5⟩
          rw [if_pos hxe, if_pos hxe]
          have hc5 := (hb5.cell (World.block_lt_of_cell? W _ hcx)).trans hcx
          have hk5 := hbx.trans (hb5.mono hbx.size)
          clear e0 e1 e2 hN hcx hbx hb5
          go_wp2
          go_roundw
          case rel => exact ⟨k + 1, by omega, by go_num, hk5⟩
          case measure => (simp [intOf]; try omega)
        · obtain rfl : k = l.length := by omega
          go_wp2
          go_ret
          exact ⟨rfl, hkb⟩
  · have hV : txtV l = ⟨#[]⟩ := if_neg he
    have he2 : ((played l).2.2 == 0) = false := beq_eq_false_iff_ne.2 he
    rw [hV]
    go_wp2
    all_goals
      go_ret
      exact ⟨rfl, hk2⟩
end Go.Proofs.YtmeidjhojanogaaDoor

/- text.Read: plain part. -/
namespace Go.Proofs.YtmeidjhojanogaaDoor
open Go.RowKit

/-- The lines of a string. -/
def partsB (s : ByteArray) : List ByteArray := Lib.splitB ⟨#[10]⟩ 0 (Lib.countB s ⟨#[10]⟩) s
theorem partsB_len (s : ByteArray) : (partsB s).length = Lib.countB s ⟨#[10]⟩ + 1 := Lib.splitB_all ⟨#[10]⟩ (by decide) 0 _ s rfl
theorem part_size (sep : ByteArray) : ∀ (k : Nat) (s p : ByteArray), p ∈ Lib.splitB sep 0 k s → p.size ≤ s.size
  | 0, s, p, h => by
    rw [Lib.splitB_zero] at h
    rw [List.mem_singleton.1 h]
    exact Nat.le_refl _
  | k + 1, s, p, h => by
    rcases Lib.indexB_cases s sep with hi | ⟨i, hi, _⟩
    · rw [Lib.splitB_miss _ _ _ _ hi] at h
      rw [List.mem_singleton.1 h]
      exact Nat.le_refl _
    · rw [Lib.splitB_hit _ _ _ _ i hi] at h
      rcases List.mem_cons.1 h with rfl | h
      · rw [ByteArray.size_extract]; omega
      · have := part_size sep k _ p h
        rw [ByteArray.size_extract] at this
        omega
/-- What Read answers at s. -/
def RdRes (s : ByteArray) (l : List Ev) (n f : Int) : Prop :=
  (2000 < s.size ∧ l = [] ∧ n = 0 ∧ f = 2) ∨ (s = ⟨#[]⟩ ∧ l = [] ∧ n = 0 ∧ f = 0) ∨
  (s ≠ ⟨#[]⟩ ∧ s.size ≤ 2000 ∧
    ((∃ es : List Ev, (∀ e ∈ es, isEv e = true) ∧ es.map lineB = (partsB s).take es.length ∧ (∃ p, (partsB s)[es.length]? = some p ∧ ∀ x, isEv x = true → lineB x ≠ p) ∧ l = [] ∧ n = es.length + 1 ∧ f = 3) ∨
     (∃ es : List Ev, (∀ e ∈ es, isEv e = true) ∧ es.map lineB = partsB s ∧ n = 0 ∧ f = (played es).2.2 ∧ ((played es).2.2 = 0 → l = es) ∧ ((played es).2.2 ≠ 0 → l = []))))
theorem map_line : ∀ {a b : List Ev}, (∀ e ∈ a, isEv e = true) → (∀ e ∈ b, isEv e = true) → a.map lineB = b.map lineB → a = b
  | [], [], _, _, _ => rfl
  | [], _ :: _, _, _, h => by simp at h
  | _ :: _, [], _, _, h => by simp at h
  | x :: a, y :: b, ha, hb, h => by
    simp only [List.map_cons, List.cons.injEq] at h
    rw [line_inj (ha x (by simp)) (hb y (by simp)) h.1, map_line (fun e he => ha e (by simp [he])) (fun e he => hb e (by simp [he])) h.2]
theorem take_drop_at {c : UInt8} : ∀ {l : List UInt8} {o : Nat}, l[o]? = some c → l.take o ++ ([c] ++ l.drop (o + 1)) = l
  | [], o, h => by simp at h
  | b :: l, 0, h => by simp at h; subst h; simp
  | b :: l, o + 1, h => by
    have := take_drop_at (l := l) (o := o) (by simpa using h)
    simp at this ⊢
    exact this
/-- The parts, joined again. -/
theorem parts_join (c : UInt8) : ∀ (k : Nat) (s : ByteArray), Lib.countB s ⟨#[c]⟩ = k → Lib.join ((Lib.splitB ⟨#[c]⟩ 0 k s).map (·.data.toList)) [c] = s.data.toList
  | 0, s, _ => by
    rw [Lib.splitB_zero]
    exact Lib.join_one _ _
  | k + 1, s, hk => by
    rcases Lib.indexB_cases s ⟨#[c]⟩ with hi | ⟨i, hi, _⟩
    · rw [Lib.countB_miss _ _ hi] at hk
      omega
    · have hc := Lib.countB_hit s ⟨#[c]⟩ i (Nat.le_refl _) hi
      have hk2 : Lib.countB (s.extract (i + (⟨#[c]⟩ : ByteArray).size) s.size) ⟨#[c]⟩ = k := by omega
      have ih := parts_join c k _ hk2
      have hn := Lib.splitB_all ⟨#[c]⟩ (Nat.le_refl _) 0 k _ hk2
      rw [Lib.splitB_hit _ _ _ _ i hi]
      generalize hR : Lib.splitB ⟨#[c]⟩ 0 k (s.extract (i + (⟨#[c]⟩ : ByteArray).size) s.size) = R at *
      obtain ⟨y, r, rfl⟩ : ∃ y r, R = y :: r := by
        cases R with
        | nil => simp at hn
        | cons y r => exact ⟨y, r, rfl⟩
      rw [List.map_cons] at ih
      rw [List.map_cons, List.map_cons, join_two, ih, Lib.extract_to_end, Nat.add_zero, Lib.extract_from_zero]
      have hix : Lib.indexByte s.data.toList c = i := by
        rw [← Lib.index_one]
        exact hi
      exact take_drop_at (Lib.indexByte_some hix).1
theorem text_join {s : ByteArray} {es : List Ev} (h : es.map lineB = partsB s) : textB es = s := by
  have hj := parts_join 10 _ s rfl
  rw [show Lib.splitB ⟨#[10]⟩ 0 (Lib.countB s ⟨#[10]⟩) s = partsB s from rfl, ← h, List.map_map] at hj
  exact ByteArray.ext (Array.toList_inj.1 hj)
def line13 : Bool := (List.range 8).all fun k => (List.range 6).all fun t => (List.range 8).all fun o => decide (1 ≤ (lineX (k + 1) t o).data.toList.length ∧ (lineX (k + 1) t o).data.toList.length ≤ 13)
set_option maxRecDepth 100000 in
theorem line13_ok : line13 = true := by kernel_rfl
theorem line_13 {e : Ev} (he : isEv e = true) : 1 ≤ (lineL e).length ∧ (lineL e).length ≤ 13 := by
  obtain ⟨⟨k1, k8⟩, ⟨t0, t6⟩, o0, o8⟩ := isEv_bounds he
  obtain ⟨k, t, o⟩ := e
  obtain ⟨k, rfl⟩ := Int.eq_ofNat_of_zero_le (show 0 ≤ k by simp at k1; omega)
  obtain ⟨t, rfl⟩ := Int.eq_ofNat_of_zero_le t0
  obtain ⟨o, rfl⟩ := Int.eq_ofNat_of_zero_le o0
  simp only at k1 k8 t6 o8
  rw [lineL_X (K := k) (T := t) (O := o) rfl rfl rfl (by omega) (by omega)]
  have h := line13_ok
  unfold line13 at h
  have h2 := List.all_eq_true.1 (List.all_eq_true.1 (List.all_eq_true.1 h (k - 1) (List.mem_range.2 (by omega))) t (List.mem_range.2 (by omega))) o (List.mem_range.2 (by omega))
  rw [show k - 1 + 1 = k by omega] at h2
  exact of_decide_eq_true h2
theorem join_13 : ∀ (xs : List (List UInt8)), (∀ x ∈ xs, x.length ≤ 13) → (Lib.join xs [10]).length ≤ 14 * xs.length
  | [], _ => by rw [Lib.join_nil]; exact Nat.zero_le _
  | [x], h => by
    rw [Lib.join_one]
    have := h x (by simp)
    simp only [List.length_cons, List.length_nil]
    omega
  | x :: y :: r, h => by
    have ih := join_13 (y :: r) (fun z hz => h z (by simp [hz]))
    have := h x (by simp)
    rw [join_two]
    simp only [List.length_append, List.length_cons, List.length_nil] at *
    omega
theorem text_2000 {l : List Ev} (hl : l.length ≤ 80) (hev : ∀ e ∈ l, isEv e = true) : (textB l).size ≤ 2000 := by
  have h := join_13 (l.map lineL) (fun x hx => by
    obtain ⟨e, he, rfl⟩ := List.mem_map.1 hx
    exact (line_13 (hev e he)).2)
  rw [List.length_map] at h
  show (textL l).toArray.size ≤ _
  rw [List.size_toArray]
  show (Lib.join (l.map lineL) [10]).length ≤ _
  omega
theorem text_nil {l : List Ev} (hev : ∀ e ∈ l, isEv e = true) (h : textB l = ⟨#[]⟩) : l = [] := by
  cases l with
  | nil => rfl
  | cons e r =>
    have h1 := (line_13 (hev e (by simp))).1
    have h2 : (Lib.join ((e :: r).map lineL) [10]).length = 0 := by
      have := congrArg ByteArray.size h
      have h3 : (textL (e :: r)).toArray.size = 0 := this
      rw [List.size_toArray] at h3
      exact h3
    cases r with
    | nil =>
      rw [List.map_cons, List.map_nil, Lib.join_one] at h2
      omega
    | cons f r =>
      rw [List.map_cons, List.map_cons, join_two] at h2
      simp only [List.length_append] at h2
      omega
/-- What Read answers at a printed trace. -/
theorem rd_text {l m : List Ev} {n f : Int} (hp : (played l).2.2 = 0) (h : RdRes (textB l) m n f) : m = l ∧ n = 0 ∧ f = 0 := by
  obtain ⟨hl80, hev⟩ := played_evs hp
  have h2 := text_2000 hl80 hev
  rcases h with ⟨h1, _⟩ | ⟨h1, rfl, rfl, rfl⟩ | ⟨h1, _, h⟩
  · omega
  · exact ⟨(text_nil hev h1).symm, rfl, rfl⟩
  · have hne : l ≠ [] := fun e => h1 (by rw [e]; rfl)
    have hpt : partsB (textB l) = l.map lineB := (split_text hne hev).2
    rw [hpt] at h
    rcases h with ⟨es, _, _, ⟨p, hq, hno⟩, _⟩ | ⟨es, hes, hmap, rfl, rfl, hz, _⟩
    · exfalso
      rw [List.getElem?_map] at hq
      cases hx : l[es.length]? with
      | none => rw [hx] at hq; simp at hq
      | some x =>
        rw [hx] at hq
        simp at hq
        exact hno x (hev x (List.mem_of_getElem? hx)) hq
    · have he : es = l := map_line hes hev hmap
      subst he
      exact ⟨hz hp, rfl, hp⟩
/-- Whatever Read answers: without an error it is the trace whose text was read. -/
theorem rd_back {s : ByteArray} {m : List Ev} {n f : Int} (h : RdRes s m n f) : (f ≠ 0 ∧ m = []) ∨ (f = 0 ∧ (played m).2.2 = 0 ∧ textB m = s) := by
  rcases h with ⟨_, rfl, _, rfl⟩ | ⟨rfl, rfl, _, rfl⟩ | ⟨_, _, ⟨es, _, _, _, rfl, _, rfl⟩ | ⟨es, hes, hmap, _, rfl, hz, hnz⟩⟩
  · exact .inl ⟨by decide, rfl⟩
  · exact .inr ⟨rfl, rfl, rfl⟩
  · exact .inl ⟨by decide, rfl⟩
  · by_cases hp : (played es).2.2 = 0
    · rw [hz hp]
      exact .inr ⟨hp, hp, text_join hmap⟩
    · exact .inl ⟨hp, hnz hp⟩
theorem err_ne3 (s : St) (e : Ev) : err s e ≠ 3 := by
  unfold err
  repeat' split
  all_goals decide
theorem playL_ne3 : ∀ (l : List Ev) (s : St) (i : Nat), (playL s i l).2.2 ≠ 3
  | [], _, _ => by show (0 : Int) ≠ 3; decide
  | e :: l, s, i => by
    unfold playL
    split
    · exact playL_ne3 l _ _
    · exact err_ne3 s e
theorem played_ne3 (l : List Ev) : (played l).2.2 ≠ 3 := by
  unfold played
  split
  · show (2 : Int) ≠ 3
    decide
  · exact playL_ne3 _ _ _
/-- A line that can't be read is told by its number. -/
theorem rd_line {s : ByteArray} {m : List Ev} {n f : Int} (h : RdRes s m n f) : (f ≠ 3 ∧ n = 0) ∨ (f = 3 ∧ ∃ k p, n = ((k + 1 : Nat) : Int) ∧ (partsB s)[k]? = some p ∧ ∀ x, isEv x = true → lineB x ≠ p) := by
  rcases h with ⟨_, _, rfl, rfl⟩ | ⟨_, _, rfl, rfl⟩ | ⟨_, _, ⟨es, _, _, ⟨p, hp, hno⟩, _, rfl, rfl⟩ | ⟨es, _, _, rfl, rfl, _⟩⟩
  · exact .inl ⟨by decide, rfl⟩
  · exact .inl ⟨by decide, rfl⟩
  · exact .inr ⟨rfl, es.length, p, by omega, hp, hno⟩
  · exact .inl ⟨played_ne3 es, rfl⟩
end Go.Proofs.YtmeidjhojanogaaDoor

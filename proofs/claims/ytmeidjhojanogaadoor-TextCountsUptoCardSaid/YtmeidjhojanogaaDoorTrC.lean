/- Contracts of package trace: takes whole, first, played, Check, may. -/
import Derived.Test.YtmeidjhojanogaaDoorTrB
namespace Go.Proofs.YtmeidjhojanogaaDoor
open Go.RowKit

theorem took_same {s s' : St} {w w' : World} {b : Nat} (h : Took w w' b s) (e : s = s') : Took w w' b s' := e ▸ h

theorem takes_any (s : St) (e : Ev) (b : Nat) (w : World) (h : Has w b (stC s) 134) :
    Calls Tryd.prog 53 #[.pointer (some ⟨b, 0, none⟩), evV e] w fun r w' => r = .returned (.int .i64 (err s e)) ∧ Took w w' b (if err s e = 0 then nxt s e else s) := by
  by_cases hE : isEv e = true
  · obtain ⟨K, t, o⟩ := e
    obtain ⟨h1, h2, h3, h4⟩ := isEv_iff.1 hE
    simp only at h1 h2 h3 h4
    have hp := manyOf_pos (k := K) (by omega)
    obtain ⟨t, rfl⟩ := Int.eq_ofNat_of_zero_le h1
    obtain ⟨o, rfl⟩ := Int.eq_ofNat_of_zero_le h3
    have ht : t < 6 := by omega
    by_cases x1 : s.begun t = true
    · by_cases x2 : s.over t = true
      · have he : err s ⟨K, t, o⟩ = 11 := by simp [err, hE, x1, x2]
        rw [he]; exact takes_over s K t o b w h hE ht x1 x2
      · have x2' : s.over t = false := by simpa using x2
        rcases hp with rfl | rfl | rfl | rfl | rfl | rfl | rfl | rfl
        · have he : err s ⟨1, t, o⟩ = 0 := by simp [err, hE, x1, x2']
          rw [he]; exact takes_plain1 s t o b w h hE ht x1 x2'
        · have he : err s ⟨2, t, o⟩ = 0 := by simp [err, hE, x1, x2']
          rw [he]; exact takes_plain2 s t o b w h hE ht x1 x2'
        · have ho : o < 5 := by simp [manyOf] at h4; omega
          by_cases x3 : s.owner o = 0
          · have he : err s ⟨3, t, o⟩ = 0 := by simp [err, hE, x1, x2', x3]
            rw [he]; exact takes_acquire s t o b w h hE ht x1 x2' ho x3
          · have he : err s ⟨3, t, o⟩ = 9 := by simp [err, hE, x1, x2', x3]
            rw [he]; exact takes_held s t o b w h hE ht x1 x2' ho x3
        · have ho : o < 5 := by simp [manyOf] at h4; omega
          by_cases x3 : s.owner o = t + 1
          · have he : err s ⟨4, t, o⟩ = 0 := by simp [err, hE, x1, x2', x3]
            rw [he]; exact takes_release s t o b w h hE ht x1 x2' ho x3
          · have he : err s ⟨4, t, o⟩ = 10 := by simp [err, hE, x1, x2', x3]
            rw [he]; exact takes_notheld s t o b w h hE ht x1 x2' ho x3
        · have ho : o < 6 := by simp [manyOf] at h4; omega
          by_cases x3 : s.begun o = true
          · have he : err s ⟨5, t, o⟩ = 8 := by simp [err, hE, x1, x2', x3]
            rw [he]; exact takes_twice s t o b w h hE ht x1 x2' ho x3
          · have x3' : s.begun o = false := by simpa using x3
            have he : err s ⟨5, t, o⟩ = 0 := by simp [err, hE, x1, x2', x3']
            rw [he]; exact takes_fork s t o b w h hE ht x1 x2' ho x3'
        · have ho : o < 6 := by simp [manyOf] at h4; omega
          by_cases x3 : s.begun o = true
          · by_cases x4 : o = t
            · subst x4
              have he : err s ⟨6, o, o⟩ = 7 := by simp [err, hE, x1, x2']
              rw [he]; exact takes_self s o b w h hE ht x1 x2'
            · have x4' : ¬ (o : Int) = (t : Int) := by omega
              have he : err s ⟨6, t, o⟩ = 0 := by simp [err, hE, x1, x2', x3, x4']
              rw [he]; exact takes_join s t o b w h hE ht x1 x2' ho x3 x4
          · have x3' : s.begun o = false := by simpa using x3
            have he : err s ⟨6, t, o⟩ = 7 := by simp [err, hE, x1, x2', x3']
            rw [he]; exact takes_none s t o b w h hE ht x1 x2' ho x3'
        · have he : err s ⟨7, t, o⟩ = 0 := by simp [err, hE, x1, x2']
          rw [he]; exact takes_plain7 s t o b w h hE ht x1 x2'
        · have he : err s ⟨8, t, o⟩ = 0 := by simp [err, hE, x1, x2']
          rw [he]; exact takes_plain8 s t o b w h hE ht x1 x2'
    · have x1' : s.begun t = false := by simpa using x1
      have he : err s ⟨K, t, o⟩ = 11 := by simp [err, hE, x1']
      rw [he]; exact takes_unbegun s K t o b w h hE ht x1'
  · have hE' : isEv e = false := by simpa using hE
    have he : err s e = 1 := by simp [err, hE']
    rw [he]; exact takes_bad s e b w h hE'

theorem first_any (w : World) : Calls Tryd.prog 52 #[] w fun r w' => r = .returned (.pointer (some ⟨w.heap.size, 0, none⟩)) ∧ Has w' w.heap.size (stC St.first) 134 ∧ Below w.heap.size w w' := by
  go_enter Tryd.func52, Tryd.ntmps52
  go_wp2
  go_ret
  exact ⟨rfl, (Has.new w _ _).to rfl, (Below.refl _ _).alloc (by simp) _⟩

/-- A slice of events: its elements read as a list. -/
structure EvS (w : World) (a : Option Addr) (l : List Ev) : Prop where
  big : l.length < 4611686018427387904
  ok : l = [] ∨ ∃ b o, a = some ⟨b, o, none⟩ ∧ ∀ i (h : i < l.length), w.cell? ⟨b, o + i * 3, none⟩ = some (.int .i64 l[i].k) ∧ w.cell? ⟨b, o + i * 3 + 1, none⟩ = some (.int .i64 l[i].t) ∧ w.cell? ⟨b, o + i * 3 + 2, none⟩ = some (.int .i64 l[i].o)
theorem EvS.below {w w' : World} {a : Option Addr} {l : List Ev} (h : EvS w a l) (k : Below w.heap.size w w') : EvS w' a l := by
  refine ⟨h.big, ?_⟩
  rcases h.ok with h0 | ⟨b, o, ha, hc⟩
  · exact .inl h0
  · refine .inr ⟨b, o, ha, fun i hi => ?_⟩
    obtain ⟨h1, h2, h3⟩ := hc i hi
    exact ⟨(k.cell (World.block_lt_of_cell? w _ h1)).trans h1, (k.cell (World.block_lt_of_cell? w _ h2)).trans h2, (k.cell (World.block_lt_of_cell? w _ h3)).trans h3⟩

set_option maxHeartbeats 1000000 in
theorem played_any (l : List Ev) (a : Option Addr) (c : Nat) (w : World) (h : EvS w a l) :
    Calls Tryd.prog 39 #[.slice a l.length c] w fun r w' => r = .returned (.tuple #[.pointer (some ⟨w.heap.size, 0, none⟩), .int .i64 (played l).2.1, .int .i64 (played l).2.2]) ∧ Has w' w.heap.size (stC (played l).1) 134 ∧ Below w.heap.size w w' := by
  have hbig := h.big
  have HS := Lib.hid h.ok
  by_cases hl : 80 < l.length
  · have hp : played l = (St.first, 0, 2) := by simp [played, hl]
    rw [hp]
    clear hp
    go_enter Tryd.func39, Tryd.ntmps39
    go_wp2_with fail
    refine (first_any _).mono ?_
    rintro r w' ⟨rfl, h1, hb⟩
    go_wp2
    go_ret3
    exact ⟨rfl, h1, hb⟩
  · have hl80 : l.length ≤ 80 := by omega
    have hp : played l = playL St.first 0 l := by simp [played, hl]
    rw [hp]
    clear hp hl
    go_enter Tryd.func39, Tryd.ntmps39
    go_wp2_with fail
    refine (first_any _).mono ?_
    rintro r w' ⟨rfl, h1, hb⟩
    go_wp2
    go_loopw [16] (fun i wr => ∃ (k : Nat) (s : St), k ≤ l.length ∧ i = .int .i64 k ∧ Hid (playL St.first 0 l = playL s k (l.drop k)) ∧ Has wr w.heap.size (stC s) 134 ∧ Below w.heap.size w wr) (fun i _ => l.length - (intOf i).toNat)
    case atStart => exact ⟨0, St.first, Nat.zero_le _, rfl, Lib.hid rfl, h1, hb⟩
    case round =>
      clear h1 hb
      obtain ⟨k, s, hk, rfl, HP, h1, hb⟩ := hrel
      by_cases hlt : k < l.length
      · obtain ⟨b, o, rfl, hc⟩ : ∃ b o, a = some ⟨b, o, none⟩ ∧ ∀ i (h : i < l.length), w.cell? ⟨b, o + i * 3, none⟩ = some (.int .i64 l[i].k) ∧ w.cell? ⟨b, o + i * 3 + 1, none⟩ = some (.int .i64 l[i].t) ∧ w.cell? ⟨b, o + i * 3 + 2, none⟩ = some (.int .i64 l[i].o) := by
          rcases HS.out with h0 | h0
          · simp [h0] at hlt
          · exact h0
        clear HS
        obtain ⟨c0, c1, c2⟩ := hc k hlt
        clear hc
        have hbl := World.block_lt_of_cell? w _ c0
        simp only at hbl
        have d0 := (hb.cell (p := ⟨b, o + k * 3, none⟩) hbl).trans c0
        have d1 := (hb.cell (p := ⟨b, o + k * 3 + 1, none⟩) hbl).trans c1
        have d2 := (hb.cell (p := ⟨b, o + k * 3 + 2, none⟩) hbl).trans c2
        clear c0 c1 c2
        have hd : l.drop k = l[k] :: l.drop (k + 1) := List.drop_eq_getElem_cons hlt
        generalize hx : l[k] = x at *
        have HD := Lib.hid hd
        clear hd hx
        by_cases he : err s x = 0
        · have hn : playL St.first 0 l = playL (nxt s x) (k + 1) (l.drop (k + 1)) := by rw [HP.out, HD.out]; simp [playL, he]
          have HN := Lib.hid hn
          clear hn HP HD
          have h1' := h1.alloc (.cells (evC x) 30)
          have hb' := hb.alloc hb.size (.cells (evC x) 30)
          go_wp2_with fail
          refine (takes_any s x _ _ h1').mono ?_
          rintro r w2 ⟨rfl, ht⟩
          rw [he] at ht ⊢
          rw [if_pos rfl] at ht
          have hb2 := hb'.grown ht.grown hb'.size (by intro j hj; cases hj; exact Nat.le_refl _)
          have h2 := ht.has
          clear ht he h1' hb' h1 hb d0 d1 d2
          go_wp2
          go_roundw
          case rel => exact ⟨k + 1, _, by omega, by go_num, HN, h2, hb2⟩
          case measure => simp [intOf]; omega
        · have hn : playL St.first 0 l = (s, k, err s x) := by rw [HP.out, HD.out]; simp [playL, he]
          have HN := Lib.hid hn
          have hne : (err s x != 0) = true := by simpa using he
          clear hn HP HD
          have h1' := h1.alloc (.cells (evC x) 30)
          have hb' := hb.alloc hb.size (.cells (evC x) 30)
          go_wp2_with fail
          refine (takes_any s x _ _ h1').mono ?_
          rintro r w2 ⟨rfl, ht⟩
          rw [if_neg he] at ht
          have hb2 := hb'.grown ht.grown hb'.size (by intro j hj; cases hj; exact Nat.le_refl _)
          have h2 := ht.has
          clear ht he h1' hb' h1 hb d0 d1 d2
          go_wp2
          go_ret3
          rw [HN.out]
          exact ⟨rfl, h2, hb2⟩
      · obtain rfl : k = l.length := by omega
        have hn : playL St.first 0 l = (s, 0, 0) := by rw [HP.out]; simp [playL]
        have HN := Lib.hid hn
        clear hn HP
        go_wp2
        go_ret3
        rw [HN.out]
        exact ⟨rfl, h1, hb⟩

theorem check_any (l : List Ev) (a : Option Addr) (c : Nat) (w : World) (h : EvS w a l) :
    Calls Tryd.prog 23 #[.slice a l.length c] w fun r w' => r = .returned (.tuple #[.int .i64 (played l).2.1, .int .i64 (played l).2.2]) ∧ Below w.heap.size w w' := by
  go_enter Tryd.func23, Tryd.ntmps23
  go_wp2_with fail
  refine (played_any l a c _ h).mono ?_
  rintro r w' ⟨rfl, h1, hb⟩
  go_wp2
  go_ret2
  exact ⟨rfl, hb⟩
end Go.Proofs.YtmeidjhojanogaaDoor

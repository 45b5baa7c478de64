/- The walk of TextEach. -/
import Derived.Test.YtmeidjhojanogaaDoorTxH
namespace Go.Proofs.YtmeidjhojanogaaDoor
open Go.RowKit

theorem split_n (n : Nat) (s : ByteArray) (m : Int) (w : World) (hs : s.size < 4294967281) (hm : w.cell? ⟨0, 0, none⟩ = some (.int .i64 m)) (hn : Lib.countB s ⟨#[10]⟩ + 1 = n) :
    Calls Tryd.prog 10 #[.string s, .string ⟨#[10]⟩] w fun e w' => e = .returned (.slice (some ⟨w.heap.size, 0, none⟩) n n) ∧ w' = w.alloc (.cells ((Lib.splitB ⟨#[10]⟩ 0 (Lib.countB s ⟨#[10]⟩) s).map Value.string).toArray 9) := by
  subst hn
  exact l_strings_Split s ⟨#[10]⟩ m w hs hm (Nat.le_refl _)
theorem textL_size {l : List Ev} (hl : l.length ≤ 80) (hev : ∀ e ∈ l, isEv e = true) : (textB l).size < 4294967281 := by
  have h := join_len (l.map lineL) (fun x hx => by
    obtain ⟨e, he, rfl⟩ := List.mem_map.1 hx
    exact lineL_size (hev e he))
  rw [List.length_map] at h
  show (textL l).toArray.size < _
  rw [List.size_toArray]
  show (Lib.join (l.map lineL) [10]).length < _
  omega
set_option maxRecDepth 100000 in
set_option maxHeartbeats 8000000 in
theorem textEach_goes (l : List Ev) (a : Option Addr) (c : Nat) (w : World) (m : Int) (hm : w.cell? ⟨0, 0, none⟩ = some (.int .i64 m)) (h : EvS w a l) :
    Calls Tryd.prog 3 #[.slice a l.length c] w fun r w' => r = .returned (.bool true) ∧ Below w.heap.size w w' := by
  have hmlt := World.block_lt_of_cell? w _ hm
  go_enter Tryd.func3, Tryd.ntmps3
  go_wp2_with fail
  refine (texted_any w).mono ?_
  rintro r w1 ⟨rfl, hb1⟩
  go_wp2_with fail
  refine (text_any l a c w1 (h.below hb1)).mono ?_
  rintro r w2 ⟨rfl, hb2⟩
  have hk2 := hb1.trans (hb2.mono hb1.size)
  clear hb1 hb2
  by_cases he : (played l).2.2 = 0
  · obtain ⟨hl80, hev⟩ := played_evs he
    have hV : txtV l = textB l := if_pos he
    rw [hV, he]
    by_cases hl : l = []
    · subst hl
      have ht : textB [] = ⟨#[]⟩ := rfl
      rw [ht]
      go_wp2
      all_goals
        go_ret
        exact ⟨rfl, hk2⟩
    · obtain ⟨hcn, hsp⟩ := split_text hl hev
      have hpos : 0 < l.length := List.length_pos_iff.2 hl
      have hne0 : ((l.length : Int) == 0) = false := beq_eq_false_iff_ne.2 (by omega)
      have hne1 : ¬ (l.length : Int) = 0 := by omega
      have hsz := textL_size hl80 hev
      have hm2 := (hk2.cell hmlt).trans hm
      have hS := Has.new w2 ((l.map lineB).map Value.string).toArray 9
      have hHE := Lib.hid hev
      clear hV he hev hl
      go_wp2_with fail
      refine (split_n l.length (textB l) m w2 hsz hm2 hcn).mono ?_
      rintro r w3 ⟨rfl, rfl⟩
      rw [hsp]
      have hk3 := hk2.alloc hk2.size (.cells ((l.map lineB).map Value.string).toArray 9)
      clear hcn hsp hsz hm2
      have hks := hk2.size
      generalize w2.alloc (.cells ((l.map lineB).map Value.string).toArray 9) = w3 at *
      go_wp2
      go_loopw [35] (fun i wr => ∃ k : Nat, k ≤ l.length ∧ i = .int .i64 k ∧ Below w3.heap.size w3 wr) (fun i _ => l.length - (intOf i).toNat)
      case atStart => exact ⟨0, Nat.zero_le _, rfl, Below.refl _ _⟩
      case round =>
        obtain ⟨k, hk, rfl, hb⟩ := hrel
        obtain ⟨wo, rfl⟩ : ∃ wo : World, wo = wr := ⟨_, rfl⟩
        have hkb := hk3.trans (hb.mono hk3.size)
        by_cases hlt : k < l.length
        · obtain ⟨b', o', rfl, d0, d1, d2⟩ := (h.below hkb).at hlt
          have hxe := hHE.out l[k] (List.getElem_mem hlt)
          have hS4 := hS.below hb hS.lt
          have hcell : wo.cell? ⟨w2.heap.size, k, none⟩ = some (.string (lineB l[k])) := by
            refine hS4.cell ?_
            simp [hlt]
          generalize l[k] = x at *
          have hN := Has.new wo (evC x) 30
          have hbx := hb.alloc hb.size (.cells (evC x) 30)
          have hcx : (wo.alloc (.cells (evC x) 30)).cell? ⟨w2.heap.size, k, none⟩ = some (.string (lineB x)) := (((Below.refl wo.heap.size wo).alloc (Nat.le_refl _) (.cells (evC x) 30)).cell (World.block_lt_of_cell? wo _ hcell)).trans hcell
          go_upto_region 12 with fail
          clear d0 d1 d2 hcell hS4 hb hkb
          generalize wo.alloc (.cells (evC x) 30) = W at *
          obtain ⟨e0, e1, e2⟩ : W.cell? ⟨wo.heap.size, 0, none⟩ = some (.int .i64 x.k) ∧ W.cell? ⟨wo.heap.size, 1, none⟩ = some (.int .i64 x.t) ∧ W.cell? ⟨wo.heap.size, 2, none⟩ = some (.int .i64 x.o) := ⟨hN.cell rfl, hN.cell rfl, hN.cell rfl⟩
          go_wp2_with fail
          refine (line_any x W).mono ?_
          rintro r w5 ⟨rfl, hb5⟩
          rw [if_pos hxe, if_pos hxe]
          have hc5 := (hb5.cell (World.block_lt_of_cell? W _ hcx)).trans hcx
          have hk5 := hbx.trans (hb5.mono hbx.size)
          clear e0 e1 e2 hN hcx hbx hb5
          go_wp2
          go_roundw
          case rel => exact ⟨k + 1, by omega, by go_num, hk5⟩
          case measure => (simp [intOf]; try omega)
        · obtain rfl : k = l.length := by omega
          go_wp2
          go_ret
          exact ⟨rfl, hkb⟩
  · have hV : txtV l = ⟨#[]⟩ := if_neg he
    have he2 : ((played l).2.2 == 0) = false := beq_eq_false_iff_ne.2 he
    rw [hV]
    go_wp2
    all_goals
      go_ret
      exact ⟨rfl, hk2⟩
end Go.Proofs.YtmeidjhojanogaaDoor

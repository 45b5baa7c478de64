/- The walk of TextCounts, at a text of bounded size. -/
import Derived.Test.YtmeidjhojanogaaDoorTxM
namespace Go.Proofs.YtmeidjhojanogaaDoor
open Go.RowKit

theorem rd_num {s : ByteArray} {k : Nat} {p : ByteArray} (hp : (partsB s)[k]? = some p) : k + 1 ≤ Lib.countB s ⟨#[10]⟩ + 1 := by
  have := (List.getElem?_eq_some_iff.1 hp).1
  rw [partsB_len] at this
  omega
theorem count_byte (s : ByteArray) (c : UInt8) : Lib.countByte s.data.toList c = Lib.countB s ⟨#[c]⟩ := (Lib.count_one c s.data.toList).symm
theorem ev_post_no {p : ByteArray} {e : Ev} {f : Int} (h : EvRes p e f) (hno : ∀ x, isEv x = true → lineB x ≠ p) : e = ⟨0, 0, 0⟩ ∧ f = 3 := by
  rcases h with ⟨h1, h2, _⟩ | ⟨_, h1, h2⟩
  · exact absurd h2 (hno e h1)
  · exact ⟨h1, h2⟩
set_option maxRecDepth 100000 in
set_option maxHeartbeats 8000000 in
theorem textCounts_goes (z : List Ev) (a : Option Addr) (c : Nat) (s : ByteArray) (hs : s.size < 4294967281) (w : World) (m : Int) (hm : w.cell? ⟨0, 0, none⟩ = some (.int .i64 m)) (h1 : EvS w a z) :
    Calls Tryd.prog 6 #[.slice a z.length c, .string s] w fun r w' => r = .returned (.bool true) ∧ Below w.heap.size w w' := by
  have hmlt := World.block_lt_of_cell? w _ hm
  have hbig := h1.big
  go_enter Tryd.func6, Tryd.ntmps6
  go_wp2_with fail
  refine (texted_any w).mono ?_
  rintro r w1 ⟨rfl, hb⟩
  replace h1 := h1.below hb
  go_wp2_with fail
  refine (text_any z _ _ _ h1).mono ?_
  rintro r w2 ⟨rfl, hk⟩
  replace hb := hb.trans (hk.mono hb.size)
  clear hk h1
  have h3 : (played z).2.2 ≠ 0 ∨ ((played z).2.2 = 0 ∧ z = []) ∨ ((played z).2.2 = 0 ∧ z ≠ []) := by
    by_cases he : (played z).2.2 = 0
    · by_cases hz : z = []
      · exact .inr (.inl ⟨he, hz⟩)
      · exact .inr (.inr ⟨he, hz⟩)
    · exact .inl he
  rcases h3 with he | ⟨he, hz⟩ | ⟨he, hz⟩
  case' inl =>
    have hV : txtV z = ⟨#[]⟩ := if_neg he
    have he2 : ((played z).2.2 == 0) = false := by simpa using he
    rw [hV]
    clear hV he
    go_upto_region 6 with fail
    clear he2
  case' inr.inl =>
    subst hz
    have hV : txtV [] = ⟨#[]⟩ := rfl
    rw [hV, he]
    clear hV he
    go_upto_region 6 with fail
  case' inr.inr =>
    obtain ⟨hl80, hev⟩ := played_evs he
    have hV : txtV z = textB z := if_pos he
    rw [hV, he]
    have hpos : 0 < z.length := List.length_pos_iff.2 hz
    have hcn := (split_text hz hev).1
    have hc2 : (Lib.countB (textB z) ⟨#[10]⟩ : Int) = (z.length : Int) - 1 := by omega
    have hg : ((z.length : Int) > 0) := by omega
    have hw1 := IntWalk.i64_in ((z.length : Int) - 1) (by omega)
    clear hV he hev hz
    go_wp2_with fail
    refine (l_strings_Count_one (textB z) 10 _).mono ?_
    rintro r w3 ⟨rfl, rfl⟩
    rw [count_byte, hc2]
    clear hcn hc2
    generalize textB z = t at *
    go_upto_region 6 with fail
    clear hg hw1 hpos
  all_goals
    clear hbig
    have hm5 := (hb.cell hmlt).trans hm
    go_wp2_with fail
    refine (read_any s m _ hm5).mono ?_
    rintro r w6 ⟨l6, n6, f6, a6, c6, rfl, _, hR6, hk⟩
    replace hb := hb.trans (hk.mono hb.size)
    clear hk hm5
    have hm6 := (hb.cell hmlt).trans hm
    obtain ⟨n, hn⟩ : ∃ n, Lib.countB s ⟨#[10]⟩ + 1 = n := ⟨_, rfl⟩
    have hlen : (partsB s).length = n := (partsB_len s).trans hn
    have hn80 : n ≤ s.size + 1 := by
      have := Lib.countB_le ⟨#[10]⟩ (Nat.le_refl _) s.size s (Nat.le_refl _)
      omega
    rcases rd_line hR6 with ⟨hf, rfl⟩ | ⟨rfl, k, p, rfl, hp, hno⟩
    · have hf2 : (f6 == 3) = false := by simpa using hf
      clear hR6 hf
      go_wp2_with fail
      refine (split_n n s m _ hs hm6 hn).mono ?_
      rintro r w7 ⟨rfl, rfl⟩
      have hb8 := hb.alloc hb.size (.cells ((Lib.splitB ⟨#[10]⟩ 0 (Lib.countB s ⟨#[10]⟩) s).map Value.string).toArray 9)
      generalize w6.alloc (.cells ((Lib.splitB ⟨#[10]⟩ 0 (Lib.countB s ⟨#[10]⟩) s).map Value.string).toArray 9) = W at *
      clear hn hlen hm6
      go_wp2
      go_ret
      exact ⟨rfl, hb8⟩
    · have hkn : k + 1 ≤ n := by
        have := rd_num hp
        omega
      clear hR6
      go_wp2_with fail
      refine (split_n n s m _ hs hm6 hn).mono ?_
      rintro r w7 ⟨rfl, rfl⟩
      rw [show Lib.splitB ⟨#[10]⟩ 0 (Lib.countB s ⟨#[10]⟩) s = partsB s from rfl]
      have hS := Has.new w6 ((partsB s).map Value.string).toArray 9
      have hb8 := hb.alloc hb.size (.cells ((partsB s).map Value.string).toArray 9)
      have hmW := (hb8.cell hmlt).trans hm
      have hpm : p ∈ partsB s := List.mem_of_getElem? hp
      have hps := part_size _ _ _ _ hpm
      have hcell : (w6.alloc (.cells ((partsB s).map Value.string).toArray 9)).cell? ⟨w6.heap.size, k, none⟩ = some (.string p) := by
        refine hS.cell ?_
        simp [hp]
      generalize w6.alloc (.cells ((partsB s).map Value.string).toArray 9) = W at *
      have hw1 := IntWalk.i64_in ((k : Int) + 1 - 1) (by omega)
      have e1 : ((k + 1 : Nat) : Int) - 1 = k := by omega
      have e2 : (((k + 1 : Nat) : Int) < 1) = False := by simp; omega
      have e3 : (((k + 1 : Nat) : Int) > n) = False := by simp; omega
      clear hS hpm hp hn hlen hm6
      go_wp2_with fail
      refine (event_any p (by omega) m W hmW).mono ?_
      rintro r w8 ⟨e, f, rfl, hres, hk⟩
      obtain ⟨rfl, rfl⟩ := ev_post_no hres hno
      have hb9 := hb8.trans (hk.mono hb8.size)
      have hb10 := hb9.alloc hb9.size (.cells (evC ⟨0, 0, 0⟩) 30)
      clear hcell hres hno hk hb8
      go_wp2
      go_ret
      exact ⟨rfl, hb10⟩
end Go.Proofs.YtmeidjhojanogaaDoor

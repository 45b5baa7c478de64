/- Contract of text.Read at any string. -/
import Derived.Test.YtmeidjhojanogaaDoorTxL
import Derived.Test.YtmeidjhojanogaaDoorTxN
namespace Go.Proofs.YtmeidjhojanogaaDoor
open Go.RowKit

def RdPost (s : ByteArray) (w : World) (r : Ending) (w' : World) : Prop := ∃ (l : List Ev) (n f : Int) (a : Option Addr) (c : Nat), r = .returned (.tuple #[.slice a l.length c, .int .i64 n, .int .i64 f]) ∧ EvS w' a l ∧ RdRes s l n f ∧ Below w.heap.size w w'
theorem EvS.none (w : World) : EvS w none [] := ⟨by decide, .inl rfl⟩
set_option maxRecDepth 100000 in
set_option maxHeartbeats 8000000 in
theorem read_any (s : ByteArray) (m : Int) (w : World) (hm : w.cell? ⟨0, 0, none⟩ = some (.int .i64 m)) :
    Calls Tryd.prog 14 #[.string s] w (RdPost s w) := by
  have hmlt := World.block_lt_of_cell? w _ hm
  go_enter Tryd.func14, Tryd.ntmps14
  by_cases hbig : 2000 < s.size
  · have hb : ((s.size : Int) > 2000) := by omega
    have hR : RdRes s [] 0 2 := .inl ⟨hbig, rfl, rfl, rfl⟩
    have hR := Lib.hid hR
    go_wp2
    go_ret3
    exact ⟨[], 0, 2, none, 0, rfl, EvS.none _, hR.out, Below.refl _ _⟩
  · have hb : ¬ ((s.size : Int) > 2000) := by omega
    by_cases hz : s = ⟨#[]⟩
    · subst hz
      have hR := Lib.hid (show RdRes ⟨#[]⟩ [] 0 0 from .inr (.inl ⟨rfl, rfl, rfl, rfl⟩))
      go_wp2
      go_ret3
      exact ⟨[], 0, 0, none, 0, rfl, EvS.none _, hR.out, Below.refl _ _⟩
    · have heq : (s.toList == (⟨#[]⟩ : ByteArray).toList) = false := by rw [strEqT]; exact decide_eq_false hz
      have hl0 : ¬ s.toList = [] := fun h => hz (ByteArray.ext (by simpa [ByteArray.toList_eq] using h))
      have hl1 : s.toList.isEmpty = false := by cases h : s.toList with | nil => exact absurd h hl0 | cons a b => rfl
      have hl2 : (s.toList == []) = false := beq_eq_false_iff_ne.2 hl0
      obtain ⟨n, hn⟩ : ∃ n, Lib.countB s ⟨#[10]⟩ + 1 = n := ⟨_, rfl⟩
      have hlen : (partsB s).length = n := (partsB_len s).trans hn
      have hn80 : n ≤ 2001 := by
        have := Lib.countB_mul_le ⟨#[10]⟩ (Nat.le_refl _) s.size s (Nat.le_refl _)
        have h1 : (⟨#[10]⟩ : ByteArray).size = 1 := rfl
        rw [h1] at this
        omega
      go_wp2_with fail
      refine (split_n n s m w (by omega) hm hn).mono ?_
      rintro r w2 ⟨rfl, rfl⟩
      rw [show Lib.splitB ⟨#[10]⟩ 0 (Lib.countB s ⟨#[10]⟩) s = partsB s from rfl]
      have hS := Has.new w ((partsB s).map Value.string).toArray 9
      have hk2 := (Below.refl w.heap.size w).alloc (Nat.le_refl _) (.cells ((partsB s).map Value.string).toArray 9)
      generalize hW : w.alloc (.cells ((partsB s).map Value.string).toArray 9) = w2 at *
      go_wp2
      have hks := hk2.size
      go_loopw [5, 22] (fun v i wr => ∃ es : List Ev, es.length ≤ n ∧ i = .int .i64 es.length ∧ (∀ e ∈ es, isEv e = true) ∧ es.map lineB = (partsB s).take es.length ∧ wr.ownsRow w2.heap.size 30 3 v es.length (evL es) ∧ Below w2.heap.size w2 wr) (fun _ i _ => n - (intOf i).toNat)
      case atStart =>
        refine ⟨[], Nat.zero_le _, by simp, ?_, by simp, World.ownsRow_nil _ _ _ _, Below.refl _ _⟩
        intro e he
        cases he
      case round =>
        obtain ⟨es, hk, rfl, hes, hln, hown, hb1⟩ := hrel
        obtain ⟨wo, rfl⟩ : ∃ wo : World, wo = wr := ⟨_, rfl⟩
        have hko := hk2.trans (hb1.mono hk2.size)
        have hmo := (hko.cell hmlt).trans hm
        by_cases hlt : es.length < n
        · have hlp : es.length < (partsB s).length := by omega
          obtain ⟨p, hp⟩ : ∃ p, (partsB s)[es.length]? = some p := ⟨_, List.getElem?_eq_getElem hlp⟩
          have hpm : p ∈ partsB s := List.mem_of_getElem? hp
          have hps := part_size _ _ _ _ hpm
          have hcell : wo.cell? ⟨w.heap.size, es.length, none⟩ = some (.string p) := by
            refine (hS.below hb1 hS.lt).cell ?_
            simp [hp]
          go_wp2_with fail
          refine (event_any p (by omega) m wo hmo).mono ?_
          rintro r w5 ⟨e, f, rfl, hres, hb5⟩
          have ho5 := own_below hown hb5
          have hb6 := hb1.trans (hb5.mono hb1.size)
          have hN := Has.new w5 (evC e) 30
          have hox := ho5.alloc (.cells (evC e) 30)
          have hbx := hb6.alloc hb6.size (.cells (evC e) 30)
          have hs5 := hb5.size
          rcases hres with ⟨hev, hle, rfl⟩ | ⟨hno, rfl, rfl⟩
          · have hT := Has.new (w5.alloc (.cells (evC e) 30)) (evC e) 30
            rw [World.size_alloc] at hT
            have hby := hbx.alloc hbx.size (.cells (evC e) 30)
            obtain ⟨i0, hi, hz0, hz1, hz2⟩ := info_parts infoE
            have HX := Lib.hid (show (∀ x ∈ es ++ [e], isEv x = true) ∧ (es ++ [e]).map lineB = (partsB s).take (es.length + 1) by
              refine ⟨fun x hx => ?_, ?_⟩
              · rcases List.mem_append.1 hx with h | h
                · exact hes x h
                · rw [List.mem_singleton.1 h]; exact hev
              · rw [List.map_append, hln, List.take_add_one, hp]
                simp [hle])
            clear hes hln hp hpm hcell hev hle hb1 hb6 hown ho5
            go_wp2_with (at_builtin; refine app_list _ rfl (.tmp 37) (.tmp 39) 22 rfl Tryd.underlying22 hi hz0 hz1 hz2 rfl (by decide) rfl (hox.alloc _) rfl (news := evL [e]) ⟨rfl, .inr ⟨_, rfl, fun j u hu => hT.cell_add (by simpa [evL] using hu)⟩⟩ (evL_one _) ?c3 ?c4 ?c5 ?_)
            case c3 => unfold maxLen; omega
            case c4 => omega
            case c5 => have := hby.size; simp at this ⊢; omega
            intro v6 w6 hA
            have hb7 := hA.below (hox.alloc _) hby (by have := hby.size; simp at this ⊢; omega)
            have ho6 := hA.own
            rw [← evL_append] at ho6
            clear hA hox hT hN hbx hby
            go_wp2
            go_roundw
            case rel => exact ⟨es ++ [e], by simp; omega, by simp, HX.out.1, by rw [List.length_append]; exact HX.out.2, by rw [List.length_append]; exact ho6, hb7⟩
            case measure => (simp [intOf]; try omega)
          · have HR := Lib.hid (show RdRes s [] ((es.length : Int) + 1) 3 from .inr (.inr ⟨hz, by omega, .inl ⟨es, hes, hln, ⟨p, hp, hno⟩, rfl, rfl, rfl⟩⟩))
            have hw1 := IntWalk.i64_in ((es.length : Int) + 1) (by omega)
            clear hes hln hp hpm hcell hno hown ho5
            go_wp2
            go_ret3
            exact ⟨[], _, 3, none, 0, rfl, EvS.none _, HR.out, hk2.trans (hbx.mono hk2.size)⟩
        · obtain rfl : es.length = n := by omega
          have hln2 : es.map lineB = partsB s := by rw [hln, ← hlen, List.take_length]
          obtain ⟨a8, c8, rfl, hE8, _⟩ := evS_own hown (by omega)
          have HR := Lib.hid (show ((played es).2.2 = 0 → RdRes s es 0 0) ∧ ((played es).2.2 ≠ 0 → RdRes s [] 0 (played es).2.2) from ⟨fun h => .inr (.inr ⟨hz, by omega, .inr ⟨es, hes, hln2, rfl, h.symm, fun _ => rfl, fun h2 => absurd h h2⟩⟩), fun h => .inr (.inr ⟨hz, by omega, .inr ⟨es, hes, hln2, rfl, rfl, fun h2 => absurd h2 h, fun _ => rfl⟩⟩)⟩)
          clear hln hes hln2 hown
          go_wp2_with fail
          refine (check_any es a8 c8 wo hE8).mono ?_
          rintro r w9 ⟨rfl, hk9⟩
          have hb9 := hko.trans (hk9.mono hko.size)
          have hE9 := hE8.below hk9
          clear hE8 hk9
          by_cases he : (played es).2.2 = 0
          · have HR2 := Lib.hid (HR.out.1 he)
            rw [he]
            clear he HR
            go_wp2
            go_ret3
            exact ⟨es, 0, 0, a8, c8, rfl, hE9, HR2.out, hb9⟩
          · have HR2 := Lib.hid (HR.out.2 he)
            have he' : ((played es).2.2 != 0) = true := by simpa using he
            clear he HR
            go_wp2
            go_ret3
            exact ⟨[], 0, _, none, 0, rfl, EvS.none _, HR2.out, hb9⟩
end Go.Proofs.YtmeidjhojanogaaDoor

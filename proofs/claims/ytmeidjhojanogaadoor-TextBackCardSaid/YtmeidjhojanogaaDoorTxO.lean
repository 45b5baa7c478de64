/- The walk of TextBack. -/
import Derived.Test.YtmeidjhojanogaaDoorTxM
import Derived.Test.YtmeidjhojanogaaDoorEqE
namespace Go.Proofs.YtmeidjhojanogaaDoor
open Go.RowKit

set_option maxRecDepth 100000 in
set_option maxHeartbeats 8000000 in
theorem textBack_goes (z : List Ev) (a : Option Addr) (c : Nat) (s : ByteArray) (w : World) (m : Int) (hm : w.cell? ⟨0, 0, none⟩ = some (.int .i64 m)) (h1 : EvS w a z) :
    Calls Tryd.prog 5 #[.slice a z.length c, .string s] w fun r w' => r = .returned (.bool true) ∧ Below w.heap.size w w' := by
  have hmlt := World.block_lt_of_cell? w _ hm
  go_enter Tryd.func5, Tryd.ntmps5
  go_wp2_with fail
  refine (texted_any w).mono ?_
  rintro r w1 ⟨rfl, hb⟩
  replace h1 := h1.below hb
  go_wp2_with fail
  refine (text_any z _ _ _ h1).mono ?_
  rintro r w2 ⟨rfl, hk⟩
  replace hb := hb.trans (hk.mono hb.size)
  replace h1 := h1.below hk
  clear hk
  by_cases he : (played z).2.2 = 0
  case' pos =>
    have hV : txtV z = textB z := if_pos he
    have HE := Lib.hid he
    have hM : mayB z = true := by unfold mayB; simpa using he
    rw [hV, he]
    clear hV he
    go_wp2_with fail
    refine (may_any z _ _ _ h1).mono ?_
    rintro r w3 ⟨rfl, hk⟩
    replace hb := hb.trans (hk.mono hb.size)
    replace h1 := h1.below hk
    clear hk
    rw [hM]
    have hm3 := (hb.cell hmlt).trans hm
    go_wp2_with fail
    refine (read_any (textB z) m _ hm3).mono ?_
    rintro r w4 ⟨l4, n4, f4, a4, c4, rfl, hE4, hR4, hk⟩
    replace hb := hb.trans (hk.mono hb.size)
    replace h1 := h1.below hk
    clear hk hm3 hM
    obtain ⟨rfl, rfl, rfl⟩ := rd_text HE.out hR4
    clear hR4 HE
    generalize textB l4 = t at *
    go_wp2_with fail
    refine (eqEv_any l4 l4 _ _ _ _ _ hE4 h1).mono ?_
    rintro r w5 ⟨rfl, hk⟩
    replace hb := hb.trans (hk.mono hb.size)
    clear hk h1 hE4
    rw [show eqB l4 l4 = true from eqB_iff.2 rfl]
    go_upto_region 10 with fail
  case' neg =>
    have hV : txtV z = ⟨#[]⟩ := if_neg he
    have hM : mayB z = false := by unfold mayB; simpa using he
    have he2 : ((played z).2.2 == 0) = false := by simpa using he
    rw [hV]
    clear hV he
    go_wp2_with fail
    refine (may_any z _ _ _ h1).mono ?_
    rintro r w3 ⟨rfl, hk⟩
    replace hb := hb.trans (hk.mono hb.size)
    clear hk h1
    rw [hM]
    go_upto_region 10 with fail
    clear hM he2
  all_goals
    have hm5 := (hb.cell hmlt).trans hm
    go_wp2_with fail
    refine (read_any s m _ hm5).mono ?_
    rintro r w6 ⟨l6, n6, f6, a6, c6, rfl, hE6, hR6, hk⟩
    replace hb := hb.trans (hk.mono hb.size)
    clear hk hm5
    rcases rd_back hR6 with ⟨hf, rfl⟩ | ⟨rfl, hp, ht⟩
    · have hf2 : (f6 != 0) = true := by simpa using hf
      clear hR6 hf
      go_wp2_with fail
      refine (text_any [] _ _ _ hE6).mono ?_
      rintro r w7 ⟨rfl, hk⟩
      replace hb := hb.trans (hk.mono hb.size)
      clear hk hE6
      generalize txtV [] = u at *
      generalize (played []).2.2 = g at *
      go_wp2
      go_ret
      exact ⟨rfl, hb⟩
    · have hV : txtV l6 = s := (if_pos hp).trans ht
      have hst : (s.toList == s.toList) = true := by simp
      clear hR6 ht
      go_wp2_with fail
      refine (text_any l6 _ _ _ hE6).mono ?_
      rintro r w7 ⟨rfl, hk⟩
      replace hb := hb.trans (hk.mono hb.size)
      clear hk hE6
      rw [hV, hp]
      clear hV hp
      go_wp2
      go_ret
      exact ⟨rfl, hb⟩
end Go.Proofs.YtmeidjhojanogaaDoor

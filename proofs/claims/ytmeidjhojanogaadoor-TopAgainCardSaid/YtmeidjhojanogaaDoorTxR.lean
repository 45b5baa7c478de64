/- The walk of TopAgain. -/
import Derived.Test.YtmeidjhojanogaaDoorTXC
import Derived.Test.YtmeidjhojanogaaDoorEqE
import Derived.Test.YtmeidjhojanogaaDoorEqR
import Derived.Test.YtmeidjhojanogaaDoorPkE
import Derived.Test.YtmeidjhojanogaaDoorRacA
import Derived.Test.YtmeidjhojanogaaDoorMR
namespace Go.Proofs.YtmeidjhojanogaaDoor
open Go.RowKit

theorem raceL_few (l : List Ev) (hl : l.length ≤ 80) : (raceL l).length ≤ 6400 := by
  have h1 := allR_len l l.length l.length
  have h2 : l.length * l.length ≤ 80 * 80 := Nat.mul_le_mul hl hl
  simp only [raceL]
  omega
set_option maxRecDepth 100000 in
set_option maxHeartbeats 8000000 in
theorem topAgain_goes (z : List Ev) (a : Option Addr) (c : Nat) (w : World) (m : Int) (hm : w.cell? ⟨0, 0, none⟩ = some (.int .i64 m)) (h1 : EvS w a z) :
    Calls Tryd.prog 7 #[.slice a z.length c] w fun r w' => r = .returned (.bool true) ∧ Below w.heap.size w w' := by
  have hmlt := World.block_lt_of_cell? w _ hm
  go_enter Tryd.func7, Tryd.ntmps7
  go_wp2_with fail
  refine (works_any w).mono ?_
  rintro r w1 ⟨rfl, hb⟩
  replace h1 := h1.below hb
  go_wp2_with fail
  refine (text_any z _ _ _ h1).mono ?_
  rintro r w2 ⟨rfl, hk⟩
  replace hb := hb.trans (hk.mono hb.size)
  replace h1 := h1.below hk
  clear hk
  by_cases he : (played z).2.2 = 0
  · obtain ⟨hl80, hev⟩ := played_evs he
    have hV : txtV z = textB z := if_pos he
    have HE := Lib.hid he
    have HRV := Lib.hid (read_pack he)
    have HRG := Lib.hid (pack_rng hev hl80)
    have HPL := Lib.hid (packL_len z)
    have hrl := raceL_few z hl80
    rw [hV, he]
    clear hV he hev
    go_wp2_with fail
    refine (pack_ok z _ _ _ h1 HE.out).mono ?_
    rintro r w3 ⟨rfl, hk⟩
    replace hb := hb.trans (hk.mono hb.size)
    replace h1 := h1.below hk
    clear hk
    have hm3 := (hb.cell hmlt).trans hm
    go_wp2_with fail
    refine (textRead_any (textB z) m _ hm3).mono ?_
    rintro r w4 ⟨l4, n4, f4, a4, c4, rfl, hE4, hR4, hk⟩
    replace hb := hb.trans (hk.mono hb.size)
    replace h1 := h1.below hk
    clear hk hm3
    obtain ⟨rfl, rfl, rfl⟩ := rd_text HE.out hR4
    clear hR4
    generalize textB l4 = t at *
    go_wp2_with fail
    refine (read_any (packL l4) HRG.out (by rw [HPL.out]; omega) _).mono ?_
    rintro r w5 ⟨a5, c5, rfl, hE5, hk⟩
    replace hb := hb.trans (hk.mono hb.size)
    replace h1 := h1.below hk
    replace hE4 := hE4.below hk
    clear hk
    rw [HRV.out] at hE5 ⊢
    simp only at hE5 ⊢
    generalize strOfNums (packL l4) = t5 at *
    go_wp2_with fail
    refine (eqEv_any l4 l4 _ _ _ _ _ hE4 hE5).mono ?_
    rintro r w6 ⟨rfl, hk⟩
    replace hb := hb.trans (hk.mono hb.size)
    replace h1 := h1.below hk
    replace hE4 := hE4.below hk
    clear hk hE5
    rw [show eqB l4 l4 = true from eqB_iff.2 rfl]
    go_wp2_with fail
    refine (eqEv_any l4 l4 _ _ _ _ _ hE4 h1).mono ?_
    rintro r w7 ⟨rfl, hk⟩
    replace hb := hb.trans (hk.mono hb.size)
    replace h1 := h1.below hk
    replace hE4 := hE4.below hk
    clear hk
    rw [show eqB l4 l4 = true from eqB_iff.2 rfl]
    go_wp2_with fail
    refine (all_ok l4 _ _ _ h1 HE.out).mono ?_
    rintro r w8 ⟨v1, rfl, hown1, hk⟩
    have hex : ∃ a2 c2, v1 = .slice a2 (raceL l4).length c2 ∧ RcS w8 a2 (raceL l4) := rcS_own hown1 (by omega)
    obtain ⟨a8, c8, rfl, hA⟩ := hex
    replace hb := hb.trans (hk.mono hb.size)
    replace hE4 := hE4.below hk
    clear hk hown1 h1
    go_wp2_with fail
    refine (all_ok l4 _ _ _ hE4 HE.out).mono ?_
    rintro r w9 ⟨v2, rfl, hown2, hk⟩
    have hex : ∃ a2 c2, v2 = .slice a2 (raceL l4).length c2 ∧ RcS w9 a2 (raceL l4) := rcS_own hown2 (by omega)
    obtain ⟨a9, c9, rfl, hB⟩ := hex
    replace hA := hA.below hk
    replace hb := hb.trans (hk.mono hb.size)
    clear hk hown2 hE4
    generalize raceL l4 = L at *
    go_wp2_with fail
    refine (eqRc_any L L _ _ _ _ _ hA hB).mono ?_
    rintro r w10 ⟨rfl, hk⟩
    replace hb := hb.trans (hk.mono hb.size)
    clear hk hA hB
    rw [show eqB L L = true from eqB_iff.2 rfl]
    go_wp2
    go_ret
    exact ⟨rfl, hb⟩
  · have hV : txtV z = ⟨#[]⟩ := if_neg he
    have he2 : ((played z).2.2 != 0) = true := by simpa using he
    have he3 : ((played z).2.2 == (played z).2.2) = true := by simp
    have hst : ((⟨#[]⟩ : ByteArray).toList == (⟨#[]⟩ : ByteArray).toList) = true := by simp
    rw [hV]
    clear hV
    go_wp2_with fail
    refine (pack_err z _ _ _ h1 he).mono ?_
    rintro r w3 ⟨rfl, hk⟩
    replace hb := hb.trans (hk.mono hb.size)
    clear hk h1 he
    go_wp2
    go_ret
    exact ⟨rfl, hb⟩
end Go.Proofs.YtmeidjhojanogaaDoor

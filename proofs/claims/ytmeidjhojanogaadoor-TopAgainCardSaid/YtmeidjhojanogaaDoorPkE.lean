/- Contract of pack.Read. -/
import Derived.Test.YtmeidjhojanogaaDoorPkD
import Derived.Test.YtmeidjhojanogaaDoorMD
import Derived.ArgAppend
import Derived.Laws.IdiomStrings
import Derived.Laws.DeepStrings4
import Derived.Deep.DeepCutAuto
import Derived.Deep.RegionLaw
namespace Go.Proofs.YtmeidjhojanogaaDoor
open Go.RowKit

def byteL (l : List Int) : Prop := ∀ n ∈ l, 0 ≤ n ∧ n ≤ 255
theorem str_size (l : List Int) : (strOfNums l).size = l.length := by simp [strOfNums, ByteArray.size]
theorem str_take (l : List Int) (n : Nat) : (strOfNums l).extract 0 n = strOfNums (l.take n) := by
  apply ByteArray.ext
  simp [strOfNums, ByteArray.data_extract, ← List.map_take]
theorem str_get (l : List Int) (hr : byteL l) (c : Nat) {i : Nat} (hi : i < l.length) : (bytesRow (strOfNums l) c)[i]? = some (.int .u8 l[i]) := by
  have h := hr _ (List.getElem_mem hi)
  unfold bytesRow
  rw [Array.getElem?_append_left (by simp [strOfNums]; exact hi)]
  simp [strOfNums, hi]
  omega
theorem conv_str (l : List Int) (hr : byteL l) (hl : l.length ≤ 140737488355328) (w : World) : ∃ C w1, (convert 9 68 (.string (strOfNums l))).run Tryd.prog w = .ok (.slice (some ⟨w.heap.size, 0, none⟩) l.length C) w1 ∧ ByS w1 (some ⟨w.heap.size, 0, none⟩) l ∧ l.length ≤ C ∧ Below w.heap.size w w1 := by
  have h := run_bytes_of_string (P := Tryd.prog) w 9 68 5 (strOfNums l) Tryd.underlying9 Tryd.underlying68 Tryd.underlying5
  rw [str_size] at h
  refine ⟨_, _, h, ⟨hl, hr, .inr ⟨_, _, rfl, fun i hi => ?_⟩⟩, grownCap_ge _ _ _ _, (Below.refl _ _).drew.alloc (Nat.le_refl _) _⟩
  rw [Nat.zero_add]
  have hc := str_get l hr (grownCap w l.length 0 5) hi
  have hh : (w.drew.alloc (.cells (bytesRow (strOfNums l) (grownCap w l.length 0 5)) 5 ((bytesRow (strOfNums l) (grownCap w l.length 0 5)).size, (bytesRow (strOfNums l) (grownCap w l.length 0 5)).size + 1))).heap[w.heap.size]? = some (.cells (bytesRow (strOfNums l) (grownCap w l.length 0 5)) 5 ((bytesRow (strOfNums l) (grownCap w l.length 0 5)).size, (bytesRow (strOfNums l) (grownCap w l.length 0 5)).size + 1)) := by
    show (w.heap.push _)[w.heap.size]? = _
    simp
  unfold World.cell?
  rw [hh]
  simp [hc]
theorem sum_n (l : List Int) (n : Nat) (hn : l.length = n) (a : Option Addr) (c : Nat) (w : World) (h : ByS w a l) :
    Calls Tryd.prog 35 #[.slice a n c] w fun r w' => r = .returned (.slice (some ⟨w.heap.size, 0, none⟩) 2 2) ∧ Has w' w.heap.size #[.int .u8 (sumL l / 256 % 256), .int .u8 (sumL l % 256)] 5 ∧ Below w.heap.size w w' := by
  subst hn; exact sum_any l a c w h
section
variable {P : Program} (w : World)
/-- A full slice appended to: a new row. In a region that draws. -/
theorem grow_step {ops : Array Oper} {o : Oper} {a : Act} {K : Act → World → Prop} {Q : Exit → Act → World → Prop} {E : Prop} (hgd : o.guard = none) (s x : Operand) (t : TypeId) (ho : o.op = .call { callee := .builtin .append, args := #[s, x], argTypes := #[t, t] })
    {e : TypeId} {i : TypeInfo} {z : Value} {size bytes : Nat} (ht : P.underlying t = some (.slice e)) (hi : P.info? e = some i) (hz : i.zero = some z)
    (hsize : i.size = size) (hby : i.bytes = bytes) (hzs : z.cells.size = size) (hsz : 0 < size)
    {b n cap : Nat} {olds : List Value} (hv : a.eval s = .slice (some ⟨b, 0, none⟩) n cap) (hlo : olds.length = n * size) (holds : ∀ j u, olds[j]? = some u → w.cell? ((⟨b, 0, none⟩ : Addr).add j) = some u)
    {ad : Addr} {m c : Nat} {news : List Value} (hx : a.eval x = .slice (some ad) m c) (hl : news.length = m * size) (hnews : ∀ j u, news[j]? = some u → w.cell? (ad.add j) = some u)
    (hg : cap < n + m) (h63 : n + m ≤ maxLen) (hbytes : (n + m) * bytes ≤ 140737488355328)
    (h : ∀ v' w', w'.ownsRow w.heap.size e size v' (n + m) (olds ++ news) → w.grownBy w' none → K (a.put o.dst v') w') :
    if Region.wanted o (yielded ops a.tmps) = true then Oper.wp P o a w K Q else E := by
  have hw : Region.wanted o (yielded ops a.tmps) = true := by simp [Region.wanted, hgd]
  rw [if_pos hw]
  obtain ⟨v', w', hrun, r1, r2⟩ := run_append_arg_grows (P := P) w t o.type e i z size bytes ht hi hz hsize hby hzs hsz ⟨b, 0, none⟩ n cap olds hlo holds ad m c news hl hnews hg h63 hbytes
  unfold Oper.wp
  simp [execOp, ho, resolve, invoke, builtin, hv, hx, hrun, Result.andThen]
  exact h v' w' r1 r2
end
theorem ByS.cells {w : World} {b : Nat} {l : List Int} (h : ByS w (some ⟨b, 0, none⟩) l) : ∀ j u, (byts l)[j]? = some u → w.cell? ((⟨b, 0, none⟩ : Addr).add j) = some u := by
  intro j u hu
  have hj : j < l.length := by have := (List.getElem?_eq_some_iff.1 hu).1; simpa using this
  obtain ⟨b', o', e, hc⟩ := h.at hj
  cases e
  have hadd : (⟨b, 0, none⟩ : Addr).add j = ⟨b, 0 + j, none⟩ := by unfold Addr.add; split <;> simp_all
  rw [hadd, hc]
  simp [hj] at hu
  rw [hu]
theorem byS_n {w : World} {base : Nat} {e : TypeId} {v : Value} {l : List Int} {n : Nat} (h : w.ownsRow base e 1 v n (byts l)) (hn : l.length = n) (hb : l.length ≤ 140737488355328) (hr : byteL l) : ∃ a c, v = .slice a n c ∧ ByS w a l := by
  obtain ⟨a, c, h1, h2⟩ := byS_own h hn.symm hb hr
  exact ⟨a, c, by rw [h1, hn], h2⟩
theorem conv_n {w : World} {a : Option Addr} {l : List Int} {n c : Nat} (h : ByS w a l) (hn : l.length = n) (hl : 0 < n) : (convert 68 9 (.slice a n c)).run Tryd.prog w = .ok (.string (strOfNums l)) w := by
  subst hn; exact conv_bytes h hl
theorem strEq (s t : ByteArray) : (s.toList == t.toList) = decide (s = t) := by
  rw [Bool.eq_iff_iff, decide_eq_true_eq, beq_iff_eq]
  constructor
  · intro h
    have hd := congrArg (fun l : List UInt8 => (⟨l.toArray⟩ : ByteArray)) h
    exact ByteArray.ext (by simpa [ByteArray.toList_eq] using hd)
  · intro h
    rw [h]
theorem and7 (x : Int) (h0 : 0 ≤ x) (h1 : x ≤ 255) : bits .and .u8 x 7 = x % 8 := by
  obtain ⟨n, rfl⟩ := Int.eq_ofNat_of_zero_le h0
  have hall : ∀ m : Fin 256, bits .and .u8 ((m.val : Nat) : Int) 7 = ((m.val : Nat) : Int) % 8 := by decide +kernel
  exact hall ⟨n, by omega⟩
theorem pack_n (l : List Ev) (n : Nat) (hn : l.length = n) (a : Option Addr) (c : Nat) (w : World) (h : EvS w a l) (he : (played l).2.2 = 0) :
    Calls Tryd.prog 18 #[.slice a n c] w fun r w' => r = .returned (.tuple #[.string (strOfNums (packL l)), .int .i64 0]) ∧ Below w.heap.size w w' := by
  subst hn; exact pack_ok l a c w h he
theorem pack_errn (l : List Ev) (n : Nat) (hn : l.length = n) (a : Option Addr) (c : Nat) (w : World) (h : EvS w a l) (he : (played l).2.2 ≠ 0) :
    Calls Tryd.prog 18 #[.slice a n c] w fun r w' => r = .returned (.tuple #[.string ⟨#[]⟩, .int .i64 (played l).2.2]) ∧ Below w.heap.size w w' := by
  subst hn; exact pack_err l a c w h he
def ReadPost (L : List Int) (w : World) (r : Ending) (w' : World) : Prop := ∃ a c, r = .returned (.tuple #[.slice a (readV L).1.length c, .int .i64 (readV L).2]) ∧ EvS w' a (readV L).1 ∧ Below w.heap.size w w'
set_option maxRecDepth 100000 in
set_option maxHeartbeats 4000000 in
theorem read_any (L : List Int) (hr : byteL L) (hl : L.length ≤ 1048576) (w : World) :
    Calls Tryd.prog 19 #[.string (strOfNums L)] w (ReadPost L w) := by
  have hsz := str_size L
  obtain ⟨s, hs⟩ : ∃ s, s = strOfNums L := ⟨_, rfl⟩
  rw [← hs] at hsz ⊢
  go_enter Tryd.func19, Tryd.ntmps19
  by_cases h4 : L.length < 4
  · have t4 : decide ((L.length : Int) < 4) = true := decide_eq_true (by omega)
    have HV := Lib.hid (show readV L = ([], 4) by unfold readV; rw [if_pos h4])
    clear hs
    go_wp2
    go_ret2
    unfold ReadPost
    rw [HV.out]
    exact ⟨none, 0, rfl, ⟨by simp, .inl rfl⟩, Below.refl _ _⟩
  · obtain ⟨N, hN⟩ : ∃ N, L.length = N + 2 := ⟨L.length - 2, by omega⟩
    rw [hN] at hsz hl h4
    have t4 : decide (((N + 2 : Nat) : Int) < 4) = false := decide_eq_false (by omega)
    have hw := IntWalk.i64_in (((N + 2 : Nat) : Int) - 2) (by omega)
    have hBl : (bodyOf L).length = N := by unfold bodyOf; rw [List.length_take]; omega
    have hBr : byteL (bodyOf L) := fun n hn => hr n (List.mem_of_mem_take hn)
    have hse : s.extract 0 N = strOfNums (bodyOf L) := by rw [hs, str_take, bodyOf, hN, show N + 2 - 2 = N by omega]
    obtain ⟨C, w1, hcv, hB, hNC, hb⟩ := conv_str (bodyOf L) hBr (by omega) w
    rw [← hse, hBl] at hcv
    rw [hBl] at hNC
    have HBL := Lib.hid hBl
    have HBR := Lib.hid hBr
    obtain ⟨X, hX⟩ : ∃ X, X = bodyOf L ++ sum2 (bodyOf L) := ⟨_, rfl⟩
    obtain ⟨q, hq⟩ : ∃ q, ((strOfNums X).toList == s.toList) = q := ⟨_, rfl⟩
    have HXL := Lib.hid (show X.length = N + 2 by rw [hX, List.length_append, hBl]; rfl)
    have HXR := Lib.hid (show byteL X by
      intro n hn
      rw [hX] at hn
      rcases List.mem_append.1 hn with h | h
      · exact hBr n h
      · simp [sum2] at h
        rcases h with rfl | rfl <;> omega)
    have HXB := Lib.hid (show byts X = byts (bodyOf L) ++ byts (sum2 (bodyOf L)) by rw [hX, byts, List.map_append])
    have hBC := hB.cells
    have HV := Lib.hid (show readV L = if X ≠ L then ([], 6) else if (played (outOf L)).2.2 = 0 ∧ packL (outOf L) = L then (outOf L, 0) else ([], 5) by unfold readV; rw [if_neg (by omega), ← hX])
    have hk0 : (0 : Int) ≤ N := by omega
    have hk1 : (N : Int) ≤ C := by omega
    obtain ⟨i0, hi, hz0, hz1, hz2⟩ := info_parts infoB
    have HS := Lib.hid hs
    clear hs hse hBl hBr hX
    go_upto_region 4 with fail
    clear hcv
    have hd := hB.below (Below.refl _ _).drew
    go_region_law (first
      | (go_simp; go_at_call 35; refine (sum_n (bodyOf L) N HBL.out _ _ _ hd).mono ?_; rintro r w2 ⟨rfl, hH, hk⟩; have hB2 := (hd.below hk).cells; have hb2 := hb.drew.trans (hk.mono hb.size))
      | (refine grow_step _ rfl (.tmp 23) (.tmp 25) 68 rfl Tryd.underlying68 hi hz0 hz1 hz2 rfl (by decide) (b := w.heap.size) (n := N) (cap := N) (olds := byts (bodyOf L)) (by conv => lhs; simp [go_sem]) (by rw [List.length_map, HBL.out, Nat.mul_one]) hB2 (ad := ⟨w1.heap.size, 0, none⟩) (m := 2) (c := 2) (news := byts (sum2 (bodyOf L))) (by simp [go_sem]) rfl (fun j u hu => hH.cell_add (by simpa [sum2] using hu)) (by omega) (by unfold maxLen; omega) (by omega) ?_; intro v5 w5 ho5 hg5; rw [← HXB.out] at ho5; have hb5 := hb2.grown hg5 hb2.size (fun k hk => by cases hk); obtain ⟨a5, c5, rfl, hB5⟩ := byS_n ho5 HXL.out (by rw [HXL.out]; omega) HXR.out; have hcv5 := conv_n (c := c5) hB5 HXL.out (by omega)))
    all_goals
      have hbw : Below w1.drew.heap.size w1.drew w5 := hk.grown hg5 hk.size (fun k hk => by cases hk)
      have hB6 := hd.below hbw
      clear hd hB hbw hk hg5 hH hB2 hBC hb hb2 ho5 hB5 hcv5 hi hz0 hz1 hz2
      cases q
      · have HV2 := Lib.hid (show readV L = ([], 6) by
          rw [HV.out, if_pos]
          intro h
          rw [h, ← HS.out, strEq] at hq
          simp at hq)
        clear HV hq
        go_wp2
        go_ret2
        unfold ReadPost
        rw [HV2.out]
        exact ⟨none, 0, rfl, ⟨by simp, .inl rfl⟩, hb5⟩
      · have hXL : X = L := str_inj HXR.out hr (by
          have h1 := HS.out
          rw [strEq, decide_eq_true_eq] at hq
          rw [hq, h1])
        have HV2 := Lib.hid (show readV L = if (played (outOf L)).2.2 = 0 ∧ packL (outOf L) = L then (outOf L, 0) else ([], 5) by rw [HV.out, if_neg (by intro h; exact h hXL)])
        have HOF := Lib.hid (show outOf L = outB (bodyOf L) ((N - 2) / 2) by unfold outOf; rw [hN, show N + 2 - 4 = N - 2 by omega])
        obtain ⟨i0, hi, hz0, hz1, hz2⟩ := info_parts infoE
        have HR := Lib.hid hr
        clear hq hXL HV HXL HXR HXB hr
        generalize bodyOf L = B at *
        obtain ⟨K, hK⟩ : ∃ K, K = (N - 2) / 2 := ⟨_, rfl⟩
        rw [← hK] at HOF
        have hbB := Below.refl w5.heap.size w5
        go_wp2
        go_loopw [5, 6] (fun v i wr => ∃ k j : Nat, k ≤ K ∧ j = 2 + 2 * k ∧ i = .int .i64 j ∧ wr.ownsRow w5.heap.size 30 3 v k (evL (outB B k)) ∧ Below w5.heap.size w5 wr) (fun _ i _ => N + 2 - (intOf i).toNat)
        case atStart => exact ⟨0, 2, Nat.zero_le _, rfl, rfl, World.ownsRow_nil _ _ _ _, hbB⟩
        case round =>
          clear hbB
          obtain ⟨k, j, hk, hj, rfl, hown, hbB⟩ := hrel
          have hwj := IntWalk.i64_in ((j : Int) + 1) (by omega)
          by_cases hlt : k < K
          · have hjd : decide ((j : Int) + 1 < N) = true := decide_eq_true (by omega)
            have hBr := hB6.below hbB
            have hjl : j < B.length := by rw [HBL.out]; omega
            have hjl1 : j + 1 < B.length := by rw [HBL.out]; omega
            obtain ⟨b', o', e, d0⟩ := hBr.at hjl
            cases e
            obtain ⟨b', o', e, d1⟩ := hBr.at hjl1
            cases e
            have hX := HBR.out _ (List.getElem_mem hjl)
            have hY := HBR.out _ (List.getElem_mem hjl1)
            have HE := Lib.hid (show evI B k = ⟨B[j] % 8 + 1, B[j] / 8, B[j + 1]⟩ by
              unfold evI
              rw [show 3 + 2 * k = j + 1 by omega, show 2 + 2 * k = j by omega, List.getD_eq_getElem?_getD, List.getD_eq_getElem?_getD, List.getElem?_eq_getElem hjl, List.getElem?_eq_getElem hjl1]
              rfl)
            rw [Nat.zero_add] at d0 d1
            generalize B[j] = x at *
            generalize B[j + 1] = y at *
            have i0' : (0 : Int) ≤ j := by omega
            have i1' : (j : Int) < N := by omega
            have i2' : (j : Int) + 1 < N := by omega
            have HJ := Lib.hid hj
            have hs := hbB.size
            have h7 := and7 x hX.1 hX.2
            have hw7 := IntWalk.i64_in (x % 8) (by omega)
            have hw8 := IntWalk.i64_in (x % 8 + 1) (by omega)
            have hw9 := IntWalk.i64_in (x / 8) (by omega)
            have hwy := IntWalk.i64_in y (by omega)
            have i3' : (0 : Int) ≤ (j : Int) + 1 := by omega
            clear hBr hjl hjl1 hj
            go_upto_region 10 with fail
            go_region_law (first
              | (refine app_step _ rfl (.tmp 37) (.tmp 58) 22 rfl Tryd.underlying22 hi hz0 hz1 hz2 rfl (by decide) (by conv => lhs; simp [go_sem]) ((own_below hown ((Below.refl _ _).drew)).alloc _) (A := some ⟨wr.heap.size, 0, none⟩) (m := 1) (c := 1) (news := evL [⟨x % 8 + 1, x / 8, y⟩]) (by simp [go_sem]) ⟨rfl, .inr ⟨_, rfl, fun j u hu => (Has.new wr.drew (evC ⟨x % 8 + 1, x / 8, y⟩) 30).cell_add (by simpa [evL] using hu)⟩⟩ (evL_one _) (by unfold maxLen; omega) (by omega) (by simp; omega) ?_; intro v' w6 hA))
            all_goals
              have hb6 := hA.below ((own_below hown ((Below.refl _ _).drew)).alloc _) ((hbB.drew).alloc (by simp; omega) _) (by simp; omega)
              have ho6 := hA.own
              rw [← evL_append, ← HE.out, ← outB_succ] at ho6
              have hwj2 := IntWalk.i64_in ((j : Int) + 2) (by omega)
              clear hA hown hbB d0 d1 hX hY hs HE h7 hw7 hw8 hw9 hwy
              go_wp2
              go_roundw
              case rel => exact ⟨k + 1, j + 2, by omega, by have := HJ.out; omega, by go_num, ho6, hb6⟩
              case measure => (simp [intOf]; try omega)
          · obtain rfl : k = K := by omega
            have hjd : decide ((j : Int) + 1 < N) = false := decide_eq_false (by omega)
            have hol := outB_len B k
            obtain ⟨a8, c8, hv, hE8, _⟩ := evS_own (l := outB B k) (by rw [hol]; exact hown) (by rw [hol]; omega)
            rw [hol] at hv
            subst hv
            have hb8 := hb5.trans (hbB.mono hb5.size)
            have HOL := Lib.hid (show (outOf L).length = k by rw [HOF.out]; exact hol)
            rw [← HOF.out] at hE8
            clear hown hbB hol hj hB6 HBR HBL hK HOF
            generalize outOf L = M at *
            by_cases he : (played M).2.2 = 0
            · have hrg := pack_rng (played_evs he).2 (played_evs he).1
              have HRG := Lib.hid hrg
              have HE0 := Lib.hid he
              obtain ⟨q2, hq2⟩ : ∃ q, ((strOfNums (packL M)).toList == s.toList) = q := ⟨_, rfl⟩
              clear hrg
              go_wp2_with fail
              refine (pack_n M k HOL.out _ _ _ hE8 HE0.out).mono ?_
              rintro r w9 ⟨rfl, hk9⟩
              have hb9 := hb8.trans (hk9.mono hb8.size)
              replace hE8 := hE8.below hk9
              clear hk9 hb8
              cases q2
              · have HV3 := Lib.hid (show readV L = ([], 5) by
                  rw [HV2.out, if_neg]
                  rintro ⟨_, h⟩
                  rw [h, ← HS.out, strEq] at hq2
                  simp at hq2)
                clear he
                go_wp2
                go_ret2
                unfold ReadPost
                rw [HV3.out]
                exact ⟨none, 0, rfl, ⟨by simp, .inl rfl⟩, hb9⟩
              · have hML : packL M = L := str_inj HRG.out HR.out (by
                  rw [strEq, decide_eq_true_eq] at hq2
                  rw [hq2, HS.out])
                have HV3 := Lib.hid (show readV L = (M, 0) by rw [HV2.out, if_pos ⟨HE0.out, hML⟩])
                clear he hML
                go_wp2
                go_ret2
                unfold ReadPost
                rw [HV3.out]
                have hlk : ((M, (0 : Int)) : List Ev × Int).1.length = k := HOL.out
                rw [hlk]
                exact ⟨a8, c8, rfl, hE8, hb9⟩
            · have HV3 := Lib.hid (show readV L = ([], 5) by
                rw [HV2.out, if_neg]
                rintro ⟨h, _⟩
                exact he h)
              have he2 : ((played M).2.2 != 0) = true := by simpa using he
              go_wp2_with fail
              refine (pack_errn M k HOL.out _ _ _ hE8 he).mono ?_
              rintro r w9 ⟨rfl, hk9⟩
              have hb9 := hb8.trans (hk9.mono hb8.size)
              clear he hk9 hb8
              go_wp2
              go_ret2
              unfold ReadPost
              rw [HV3.out]
              exact ⟨none, 0, rfl, ⟨by simp, .inl rfl⟩, hb9⟩
end Go.Proofs.YtmeidjhojanogaaDoor

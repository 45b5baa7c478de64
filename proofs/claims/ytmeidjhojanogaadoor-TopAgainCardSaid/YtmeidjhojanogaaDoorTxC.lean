/- Contract of text.Text. -/
import Derived.Test.YtmeidjhojanogaaDoorTxB
import Derived.Test.YtmeidjhojanogaaDoorMD
import Derived.Test.YtmeidjhojanogaaDoorPkB
namespace Go.Proofs.YtmeidjhojanogaaDoor
open Go.RowKit

def strL (l : List Ev) : List Value := l.map fun e => Value.string (lineB e)
theorem strL_append (l m : List Ev) : strL (l ++ m) = strL l ++ strL m := by simp [strL]
theorem infoS : (Tryd.prog.info? 9).map (fun i => (i.zero, i.size, i.bytes)) = some (some (.string ⟨#[]⟩), 1, 16) := by kernel_rfl
/-- The text of a trace. -/
def textL (l : List Ev) : List UInt8 := Lib.join (l.map lineL) [10]
def textB (l : List Ev) : ByteArray := ⟨(textL l).toArray⟩
def txtV (l : List Ev) : ByteArray := if (played l).2.2 = 0 then textB l else ⟨#[]⟩
theorem lineL_size {e : Ev} (h : isEv e = true) : (lineL e).length ≤ 30 := by
  obtain ⟨⟨k1, k8⟩, ⟨t0, t6⟩, o0, o8⟩ := isEv_bounds h
  have hK8 : e.k.toNat ∈ eight := mem_eight.2 (by omega)
  have hA := wordA_size hK8
  have hL := letA_size hK8
  have h1 : (wordA e.k.toNat).data.toList.length ≤ 20 := by simpa using hA
  have h2 : (letA e.k.toNat).data.toList.length ≤ 2 := by simpa using hL
  unfold lineL
  rw [dec_one (show e.t.toNat < 10 by omega), dec_one (show e.o.toNat < 10 by omega)]
  simp only [List.length_append, List.length_cons, List.length_nil]
  omega
theorem join_two (x y sep : List UInt8) (r : List (List UInt8)) : Lib.join (x :: y :: r) sep = x ++ (sep ++ Lib.join (y :: r) sep) := by
  rw [Lib.join_cons, Lib.join_cons]
  simp [Lib.joinTail, List.append_assoc]
theorem join_len : ∀ (xs : List (List UInt8)), (∀ x ∈ xs, x.length ≤ 30) → (Lib.join xs [10]).length ≤ 31 * xs.length
  | [], _ => by rw [Lib.join_nil]; exact Nat.zero_le _
  | [x], h => by
    have := h x (by simp)
    rw [Lib.join_one]
    simp only [List.length_cons, List.length_nil]
    omega
  | x :: y :: r, h => by
    have h1 := h x (by simp)
    have ih := join_len (y :: r) (fun z hz => h z (by simp [hz]))
    rw [join_two]
    simp only [List.length_append, List.length_cons, List.length_nil] at *
    omega
theorem join_n (bk c n : Nat) (xs : List ByteArray) (hn : xs.length = n) (w : World) (hcells : ∀ (j : Nat) x, xs[j]? = some x → w.cell? ⟨bk, 0 + j, none⟩ = some (.string x)) (hbk : bk < w.heap.size) (hN : xs.length ≤ 140737488355328) (hcap : xs.length ≤ c) (hlen : (Lib.join (xs.map (·.data.toList)) [10]).length ≤ 140737488355328) :
    Calls Tryd.prog 24 #[.slice (some ⟨bk, 0, none⟩) n c, .string ⟨#[10]⟩] w fun e w' => e = .returned (.string ⟨(Lib.join (xs.map (·.data.toList)) [10]).toArray⟩) ∧ Below w.heap.size w w' := by
  subst hn
  exact l_strings_Join bk 0 c xs ⟨#[10]⟩ w hcells hbk hN hcap hlen
theorem text_parts (l : List Ev) : (l.map lineB).map (·.data.toList) = l.map lineL := by
  rw [List.map_map]
  rfl
set_option maxRecDepth 100000 in
set_option maxHeartbeats 8000000 in
theorem text_any (l : List Ev) (a : Option Addr) (c : Nat) (w : World) (h : EvS w a l) :
    Calls Tryd.prog 9 #[.slice a l.length c] w fun r w' => r = .returned (.tuple #[.string (txtV l), .int .i64 (played l).2.2]) ∧ Below w.heap.size w w' := by
  obtain ⟨i0, hi, hz0, hz1, hz2⟩ := info_parts infoS
  go_enter Tryd.func9, Tryd.ntmps9
  go_wp2_with fail
  refine (check_any l a c _ h).mono ?_
  rintro r w1 ⟨rfl, hb⟩
  replace h := h.below hb
  by_cases he : (played l).2.2 = 0
  · obtain ⟨hl, hev⟩ := played_evs he
    have HE := Lib.hid hev
    have HV := Lib.hid (show txtV l = textB l from if_pos he)
    have HZ := Lib.hid he
    rw [he]
    clear hev he
    go_wp2
    go_loopw [6, 21] (fun v i wr => ∃ k : Nat, k ≤ l.length ∧ i = .int .i64 k ∧ wr.ownsRow w1.heap.size 9 1 v k (strL (l.take k)) ∧ Below w1.heap.size w1 wr) (fun _ i _ => l.length - (intOf i).toNat)
    case atStart => exact ⟨0, Nat.zero_le _, rfl, World.ownsRow_nil _ _ _ _, Below.refl _ _⟩
    case round =>
      obtain ⟨k, hk, rfl, hown, hb1⟩ := hrel
      obtain ⟨wo, rfl⟩ : ∃ wo : World, wo = wr := ⟨_, rfl⟩
      by_cases hlt : k < l.length
      · obtain ⟨b', o', rfl, d0, d1, d2⟩ := (h.below hb1).at hlt
        have hx : l.take (k + 1) = l.take k ++ [l[k]] := by rw [List.take_add_one, List.getElem?_eq_getElem hlt]; rfl
        have hxe := HE.out l[k] (List.getElem_mem hlt)
        generalize l[k] = x at *
        have HX := Lib.hid hx
        have HI := Lib.hid hxe
        clear hx hxe
        have hN := Has.new wo (evC x) 30
        have hox := hown.alloc (.cells (evC x) 30)
        have hbx := hb1.alloc hb1.size (.cells (evC x) 30)
        go_upto_region 8 with fail
        clear d0 d1 d2 hown hb1
        generalize wo.alloc (.cells (evC x) 30) = W at *
        obtain ⟨e0, e1, e2⟩ : W.cell? ⟨wo.heap.size, 0, none⟩ = some (.int .i64 x.k) ∧ W.cell? ⟨wo.heap.size, 1, none⟩ = some (.int .i64 x.t) ∧ W.cell? ⟨wo.heap.size, 2, none⟩ = some (.int .i64 x.o) := ⟨hN.cell rfl, hN.cell rfl, hN.cell rfl⟩
        go_wp2_with fail
        refine (line_any x W).mono ?_
        rintro r w2 ⟨rfl, hb2⟩
        rw [if_pos HI.out, if_pos HI.out]
        have ho2 := own_below hox hb2
        have hk2 := hbx.trans (hb2.mono hbx.size)
        clear hox hbx hb2 hN e0 e1 e2
        have hT := Has.new w2 #[.string (lineB x)] 9
        have hb3 := hk2.alloc hk2.size (.cells #[.string (lineB x)] 9)
        go_wp2_with (at_builtin; refine app_list _ rfl (.tmp 30) (.tmp 32) 27 rfl Tryd.underlying27 hi hz0 hz1 hz2 rfl (by decide) rfl (ho2.alloc _) rfl (news := [.string (lineB x)]) ⟨rfl, .inr ⟨_, rfl, fun j u hu => hT.cell_add (by simpa using hu)⟩⟩ (by intro u hu; simp at hu; subst hu; rfl) ?c3 ?c4 ?c5 ?_)
        case c3 => unfold maxLen; omega
        case c4 => omega
        case c5 => have := hk2.size; simp; omega
        intro v' w6 hA
        have hb7 := hA.below (ho2.alloc _) hb3 (by have := hk2.size; simp; omega)
        have ho6 : w6.ownsRow w1.heap.size 9 1 v' (k + 1) (strL (l.take (k + 1))) := by
          rw [HX.out, strL_append]
          exact hA.own
        clear hA ho2 hT hb3 hk2
        go_wp2
        go_roundw
        case rel => exact ⟨k + 1, by omega, by go_num, ho6, hb7⟩
        case measure => (simp [intOf]; try omega)
      · obtain rfl : k = l.length := by omega
        rw [List.take_length] at hown
        rcases hown.2 with ⟨rfl, h0⟩ | ⟨g, cap, cur, rfl, _, hg, hc, _, hs, hcur⟩
        · obtain rfl : l = [] := List.eq_nil_of_length_eq_zero h0
          go_wp2_with fail
          refine (l_strings_Join_none none 0 _ _).mono ?_
          rintro r w2 ⟨rfl, rfl⟩
          go_wp2
          go_ret2
          refine ⟨?_, hb.trans (hb1.mono hb.size)⟩
          rw [HV.out]
          rfl
        · have hcell : ∀ (j : Nat) x, (l.map lineB)[j]? = some x → wo.cell? ⟨g, 0 + j, none⟩ = some (.string x) := by
            intro j x hj
            have hlt' : j < l.length := by
              have := (List.getElem?_eq_some_iff.1 hj).1
              simpa using this
            have h2 := hown.cellAt j (by rw [Nat.mul_one]; exact hlt')
            rw [Nat.zero_add]
            refine h2.trans ?_
            rw [strL, List.getElem?_map]
            rw [List.getElem?_map] at hj
            revert hj
            cases l[j]? <;> simp
          have hgl : g < wo.heap.size := (Array.getElem?_eq_some_iff.1 hg).1
          go_wp2_with fail
          refine (join_n g cap l.length (l.map lineB) (by simp) wo hcell hgl (by simp; omega) (by simpa using hc) ?_).mono ?_
          · rw [text_parts]
            have := join_len (l.map lineL) (fun x hx => by
              obtain ⟨e, he, rfl⟩ := List.mem_map.1 hx
              exact lineL_size (HE.out e he))
            rw [List.length_map] at this
            omega
          · rintro r w2 ⟨rfl, hb2⟩
            rw [text_parts]
            go_wp2
            go_ret2
            refine ⟨?_, hb.trans ((hb1.trans (hb2.mono hb1.size)).mono hb.size)⟩
            rw [HV.out, HZ.out]
            rfl
  · have he' : ((played l).2.2 != 0) = true := by simpa using he
    have HV := Lib.hid (show txtV l = ⟨#[]⟩ from if_neg he)
    clear he
    go_wp2
    go_ret2
    refine ⟨?_, hb⟩
    rw [HV.out]
    rfl
end Go.Proofs.YtmeidjhojanogaaDoor

/- Joined texts. -/
import Derived.Shelf.Strings.Builder1
import Derived.Shelf.Strings.Builder2
import Derived.Shelf.Strings.OnBuilder
import Derived.Shelf.Small.Wraps
import Derived.Shelf.Strings.BuilderF
import Derived.Shelf.Strings.BuilderK
import Derived.Shelf.Utf8.RuneCount
import Derived.Shelf.Strings.Builder2Cap
import Derived.Shelf.Strconv.Atoi
import Derived.Shelf.Strconv.Itoa1
import Derived.Shelf.LaysM
import Derived.Shelf.Strconv.Itoa2
import Derived.Shelf.Strconv.Itoa3
import Derived.Shelf.Strconv.AtoiErrFast
import Derived.Shelf.Strconv.ParseIntEmpty
import Derived.Shelf.Strconv.AtoiFail
import Derived.Shelf.Strconv.Clone
import Derived.Shelf.Strconv.SyntaxError
import Derived.Shelf.LaysC
import Derived.Shelf.Strconv.ToError
import Derived.Shelf.Strconv.Lower
import Derived.Shelf.Strconv.ParseUint10
import Derived.Shelf.Strconv.ParseUint10Empty
import Derived.Shelf.Strconv.ParseUint10Any
import Derived.Shelf.Strconv.ParseInt10
import Derived.Shelf.Strconv.AtoiLong
import Derived.Shelf.Strconv.AtoiInnerAll
import Derived.Shelf.Strconv.RangeError
import Derived.Shelf.Strconv.ToErrorRange
import Derived.Shelf.Strconv.AtoiAll
import Derived.Shelf.Strings.Search1
import Derived.Shelf.Strings.Search2
import Derived.Shelf.Strings.Search3
import Derived.Shelf.Strings.Count
import Derived.Shelf.Strings.Shaped
import Derived.Shelf.Sort.Plain
import Derived.Shelf.Strings.Split
import Derived.Shelf.Strings.SplitShaped
import Derived.Shelf.Unicode.Decode
import Derived.Shelf.Strings.RuneCount
import Derived.Shelf.Strings.Explode
import Derived.Shelf.Unicode.DecodeSlow
import Derived.Shelf.Unicode.DecodeAny
import Derived.Shelf.Strings.FieldsFuncAny
import Derived.Shelf.Strings.BuilderCap
import Derived.Ground.Names2Prog
import Derived.Shelf.Slices.Clone
import Derived.Shelf.Slices.CompactI
import Derived.Shelf.Slices.In.SortNone
import Derived.Ground.SlgnProg
import Derived.Shelf.SlicesE.Clone
import Derived.Test.YtfjbnhacfficnaaGreatDoorChecked
import Derived.Lib.SlicesCompact
import Derived.Test.YtfjbnhacfficnaaGreatDoorZF
import Derived.Lib.OwnBridge

/- The library's contracts of slices.Sort and slices.Compact at numbers, at this program. Printed by a program for one seat. -/
namespace Go.Proofs.YtfjbnhacfficnaaGreatDoor
open Go.Shelf
def l_lays189_ren : Go.Shelf.Ren := ⟨fun | 189 => 138 | 125 => 146 | 257 => 145 | 128 => 158 | 129 => 106 | 294 => 149 | 295 => 150 | 296 => 151 | 297 => 152 | 298 => 153 | 299 => 154 | 216 => 155 | 300 => 156 | 301 => 157 | 328 => 159 | 329 => 160 | 330 => 161 | 331 => 162 | 332 => 163 | 215 => 164 | 343 => 165 | n => n, fun | 28 => 46 | 3 => 3 | 46 => 196 | 0 => 0 | 51 => 203 | 53 => 154 | 4 => 4 | 183 => 255 | 182 => 254 | 131 => 259 | 5 => 5 | 9 => 9 | 218 => 261 | 222 => 265 | 228 => 267 | 229 => 268 | n => n, fun | n => n⟩
theorem l_lays189 : Go.Proofs.Lays.n189 Tryz.prog l_lays189_ren := {
  mixed := by kernel_rfl
  f125 := Tryz.func146.trans (congrArg some (by kernel_rfl))
  f128 := Tryz.func158.trans (congrArg some (by kernel_rfl))
  f129 := Tryz.func106.trans (congrArg some (by kernel_rfl))
  f189 := Tryz.func138.trans (congrArg some (by kernel_rfl))
  f215 := Tryz.func164.trans (congrArg some (by kernel_rfl))
  f216 := Tryz.func155.trans (congrArg some (by kernel_rfl))
  f257 := Tryz.func145.trans (congrArg some (by kernel_rfl))
  f294 := Tryz.func149.trans (congrArg some (by kernel_rfl))
  f295 := Tryz.func150.trans (congrArg some (by kernel_rfl))
  f296 := Tryz.func151.trans (congrArg some (by kernel_rfl))
  f297 := Tryz.func152.trans (congrArg some (by kernel_rfl))
  f298 := Tryz.func153.trans (congrArg some (by kernel_rfl))
  f299 := Tryz.func154.trans (congrArg some (by kernel_rfl))
  f300 := Tryz.func156.trans (congrArg some (by kernel_rfl))
  f301 := Tryz.func157.trans (congrArg some (by kernel_rfl))
  f328 := Tryz.func159.trans (congrArg some (by kernel_rfl))
  f329 := Tryz.func160.trans (congrArg some (by kernel_rfl))
  f330 := Tryz.func161.trans (congrArg some (by kernel_rfl))
  f331 := Tryz.func162.trans (congrArg some (by kernel_rfl))
  f332 := Tryz.func163.trans (congrArg some (by kernel_rfl))
  f343 := Tryz.func165.trans (congrArg some (by kernel_rfl))
  t0 := Tryz.underlying0
  a0 := Tryz.isAgg0
  z0 := Tryz.sizeOf0
  v0 := Tryz.zeroValue0
  t3 := Tryz.underlying3
  a3 := Tryz.isAgg3
  z3 := Tryz.sizeOf3
  v3 := Tryz.zeroValue3
  t4 := Tryz.underlying4
  a4 := Tryz.isAgg4
  z4 := Tryz.sizeOf4
  v4 := Tryz.zeroValue4
  t5 := Tryz.underlying5
  a5 := Tryz.isAgg5
  z5 := Tryz.sizeOf5
  v5 := Tryz.zeroValue5
  t9 := Tryz.underlying9
  a9 := Tryz.isAgg9
  z9 := Tryz.sizeOf9
  v9 := Tryz.zeroValue9
  t28 := Tryz.underlying46
  a28 := Tryz.isAgg46
  z28 := Tryz.sizeOf46
  v28 := Tryz.zeroValue46
  t46 := Tryz.underlying196
  a46 := Tryz.isAgg196
  z46 := Tryz.sizeOf196
  v46 := Tryz.zeroValue196
  t51 := Tryz.underlying203
  a51 := Tryz.isAgg203
  z51 := Tryz.sizeOf203
  v51 := Tryz.zeroValue203
  t53 := Tryz.underlying154
  a53 := Tryz.isAgg154
  z53 := Tryz.sizeOf154
  v53 := Tryz.zeroValue154
  t131 := Tryz.underlying259
  a131 := Tryz.isAgg259
  z131 := Tryz.sizeOf259
  v131 := Tryz.zeroValue259
  t182 := Tryz.underlying254
  a182 := Tryz.isAgg254
  z182 := Tryz.sizeOf254
  v182 := Tryz.zeroValue254
  t183 := Tryz.underlying255
  a183 := Tryz.isAgg255
  z183 := Tryz.sizeOf255
  v183 := Tryz.zeroValue255
  t218 := Tryz.underlying261
  a218 := Tryz.isAgg261
  z218 := Tryz.sizeOf261
  v218 := Tryz.zeroValue261
  t222 := Tryz.underlying265
  a222 := Tryz.isAgg265
  z222 := Tryz.sizeOf265
  v222 := Tryz.zeroValue265
  t228 := Tryz.underlying267
  a228 := Tryz.isAgg267
  z228 := Tryz.sizeOf267
  v228 := Tryz.zeroValue267
  t229 := Tryz.underlying268
  a229 := Tryz.isAgg268
  z229 := Tryz.sizeOf268
  v229 := Tryz.zeroValue268 }
open Go.Sort Go.RowKit in
theorem l_slices_Sort_int (blk off cap : Nat) (zs : List Int) (w : World) (hH : Holds (Value.int .i64) w blk off zs.toArray) (hblk : blk < w.heap.size) (hsz : zs.length < 4611686018427387904) :
    Calls Tryz.prog 138 #[.slice (some ⟨blk, off, none⟩) zs.length cap] w fun e w' =>
      e = .returned (.tuple #[]) ∧ ∃ n os, w' = grow (putRow (Value.int .i64) (Sort.ahead w n) blk off (zs.mergeSort fun x y => decide (x ≤ y)).toArray) os := Any.slices_Sort_int l_lays189 blk off cap zs w hH hblk hsz
def l_laysNm220_ren : Go.Shelf.Ren := ⟨fun | 20 => 139 | n => n, fun | 22 => 46 | 3 => 3 | 4 => 4 | 0 => 0 | n => n, fun | n => n⟩
theorem l_laysNm220 : Go.Proofs.Lays2.n20 Tryz.prog l_laysNm220_ren := {
  mixed := by kernel_rfl
  f20 := Tryz.func139.trans (congrArg some (by kernel_rfl))
  t0 := Tryz.underlying0
  a0 := Tryz.isAgg0
  z0 := Tryz.sizeOf0
  v0 := Tryz.zeroValue0
  t3 := Tryz.underlying3
  a3 := Tryz.isAgg3
  z3 := Tryz.sizeOf3
  v3 := Tryz.zeroValue3
  t4 := Tryz.underlying4
  a4 := Tryz.isAgg4
  z4 := Tryz.sizeOf4
  v4 := Tryz.zeroValue4
  t22 := Tryz.underlying46
  a22 := Tryz.isAgg46
  z22 := Tryz.sizeOf46
  v22 := Tryz.zeroValue46
  i3 := by kernel_rfl }
open Go.RowKit Go.Lib Go.Sort in
theorem l_slices_Compact_int (blk off cap : Nat) (zs : List Int) (w : World) (hH : Holds (Value.int .i64) w blk off zs.toArray) (hsz : zs.length ≤ 9223372036854775807) (hcap : zs.length ≤ cap) :
    Calls Tryz.prog 139 #[.slice (some ⟨blk, off, none⟩) zs.length cap] w fun e w' => e = .returned (.slice (some ⟨blk, off, none⟩) (Lib.compact zs).length cap) ∧ ∃ q, w' = putRow (Value.int .i64) (Sort.ahead w q) blk off (Lib.compact zs ++ List.replicate (zs.length - (Lib.compact zs).length) 0).toArray := Any.slices_Compact_int l_laysNm220 blk off cap zs w hH hsz hcap
open Go.RowKit Go.Lib Go.Sort in
theorem l_slices_Compact_int_empty (a : Option Addr) (cap : Nat) (w : World) :
    Calls Tryz.prog 139 #[.slice a 0 cap] w fun e w' => e = .returned (.slice a 0 cap) ∧ w' = w := Any.slices_Compact_int_empty l_laysNm220 a cap w
open Go.RowKit Go.Sort in
theorem l_slices_Sort_int_none (p : Option Addr) (cap : Nat) (w : World) :
    Calls Tryz.prog 138 #[.slice p 0 cap] w fun e w' => e = .returned (.tuple #[]) ∧ w' = w := Any.slices_Sort_int_none l_lays189 p cap w
end Go.Proofs.YtfjbnhacfficnaaGreatDoor

/- What is left of a list of numbers, sorted and each once. No program. -/
namespace Go.Proofs.YtfjbnhacfficnaaGreatDoor

/-- Rising, each once. -/
def secL (l : List Int) : List Int := Lib.compact (l.mergeSort fun x y => decide (x ≤ y))
theorem comp_mem (d : Array Int) : ∀ (m : Nat) (x : Int), x ∈ Lib.compactUpTo d m ↔ ∃ j, j < m ∧ d[j]! = x
  | 0, x => by simp [Lib.compactUpTo]
  | m + 1, x => by
    rw [Lib.compactUpTo_succ, List.mem_append, comp_mem d m x]
    by_cases hk : Lib.keeps d m = true
    · rw [if_pos hk, List.mem_singleton]
      constructor
      · rintro (⟨j, h1, h2⟩ | h)
        · exact ⟨j, by omega, h2⟩
        · exact ⟨m, by omega, h.symm⟩
      · rintro ⟨j, h1, h2⟩
        by_cases e : j = m
        · subst e; exact .inr h2.symm
        · exact .inl ⟨j, by omega, h2⟩
    · rw [if_neg hk]
      have hk2 : ¬ m = 0 ∧ d[m]! = d[m - 1]! := by simpa [Lib.keeps] using hk
      constructor
      · rintro (⟨j, h1, h2⟩ | h)
        · exact ⟨j, by omega, h2⟩
        · cases h
      · rintro ⟨j, h1, h2⟩
        left
        by_cases e : j = m
        · subst e; exact ⟨j - 1, by omega, by rw [← hk2.2]; exact h2⟩
        · exact ⟨j, by omega, h2⟩
theorem comp_rises (d : Array Int) : ∀ (m : Nat), (∀ i j, i ≤ j → j < m → d[i]! ≤ d[j]!) → (Lib.compactUpTo d m).Pairwise (· < ·)
  | 0, _ => by simp [Lib.compactUpTo]
  | m + 1, hs => by
    rw [Lib.compactUpTo_succ]
    have ih := comp_rises d m (fun i j h1 h2 => hs i j h1 (by omega))
    by_cases hk : Lib.keeps d m = true
    · rw [if_pos hk, List.pairwise_append]
      refine ⟨ih, by simp, fun a ha b hb => ?_⟩
      rw [List.mem_singleton] at hb
      subst hb
      obtain ⟨j, h1, rfl⟩ := (comp_mem d m a).1 ha
      have hk2 : m = 0 ∨ ¬ d[m]! = d[m - 1]! := by simpa [Lib.keeps] using hk
      have h3 := hs j (m - 1) (by omega) (by omega)
      have h4 := hs (m - 1) m (by omega) (by omega)
      rcases hk2 with e | e
      · omega
      · omega
    · rw [if_neg hk, List.append_nil]
      exact ih
theorem comp_len (d : Array Int) (m : Nat) : (Lib.compactUpTo d m).length ≤ m := by
  unfold Lib.compactUpTo
  rw [List.length_map]
  have := List.length_filter_le (Lib.keeps d) (List.range m)
  simpa using this
theorem mem_secL {l : List Int} {x : Int} : x ∈ secL l ↔ x ∈ l := by
  unfold secL Lib.compact
  rw [comp_mem]
  have hm : x ∈ l ↔ x ∈ l.mergeSort fun x y => decide (x ≤ y) := (List.mem_mergeSort (le := fun x y : Int => decide (x ≤ y))).symm
  rw [hm]
  generalize (l.mergeSort fun x y => decide (x ≤ y)) = s
  rw [List.mem_iff_getElem]
  constructor
  · rintro ⟨j, h1, h2⟩
    exact ⟨j, h1, by rw [← h2]; simp [h1]⟩
  · rintro ⟨j, h1, h2⟩
    exact ⟨j, h1, by rw [← h2]; simp [h1]⟩
theorem secL_rises (l : List Int) : (secL l).Pairwise (· < ·) := by
  unfold secL Lib.compact
  have hs : (l.mergeSort fun x y => decide (x ≤ y)).Pairwise fun x y => decide (x ≤ y) = true :=
    List.pairwise_mergeSort (fun a b c h1 h2 => by simp at h1 h2 ⊢; omega) (fun a b => by simp; omega) l
  generalize (l.mergeSort fun x y => decide (x ≤ y)) = s at *
  refine comp_rises _ _ fun i j h1 h2 => ?_
  have hi : i < s.length := by omega
  by_cases e : i = j
  · subst e; exact Int.le_refl _
  · have := List.pairwise_iff_getElem.1 hs i j hi h2 (by omega)
    simpa [hi, h2] using this
theorem secL_len (l : List Int) : (secL l).length ≤ l.length := by
  unfold secL Lib.compact
  have := comp_len (l.mergeSort fun x y => decide (x ≤ y)).toArray (l.mergeSort fun x y => decide (x ≤ y)).length
  simpa using this
theorem secL_nil {l : List Int} : secL l = [] ↔ l = [] := by
  rw [List.eq_nil_iff_forall_not_mem, List.eq_nil_iff_forall_not_mem]
  exact forall_congr' fun x => not_congr mem_secL
end Go.Proofs.YtfjbnhacfficnaaGreatDoor

/- Contracts: what is told of all races, rising, each once: race.sorted at both of its closures, Seconds, Vars. -/
namespace Go.Proofs.YtfjbnhacfficnaaGreatDoor
open Go.RowKit

def encN : Int → Value := Value.int .i64
theorem below_grow {B : Nat} {w0 w : World} (h : Below B w0 w) (hB : B ≤ w.heap.size) (os : Array Obj) : Below B w0 (Sort.grow w os) :=
  ⟨h.os, h.tape, h.output, by have := h.size; simp; omega, fun k hk => by rw [Sort.heap_grow_old w os (by omega)]; exact h.block k hk⟩
/-- What such a function yields. -/
def SecPost (Q : List Int) (w : World) (r : Ending) (w' : World) : Prop := ∃ a c, r = .returned (.tuple #[.slice a Q.length c, .int .i64 0]) ∧ IntS w' a Q ∧ Below w.heap.size w w'
/-- .. at a trace that is not valid. -/
def SecNo (l : List Ev) (w : World) (r : Ending) (w' : World) : Prop := r = .returned (.tuple #[.slice none 0 0, .int .i64 (played l).2.2]) ∧ Below w.heap.size w w'
/-- Sorted, each once: of an own row. -/
theorem secRow {w : World} {base : Nat} {e : TypeId} {v : Value} {M : List Int} (h : w.ownsRow base e 1 v M.length (M.map encN)) (hM : M ≠ []) (_hb : M.length < 4611686018427387904) :
    ∃ g cap, v = .slice (some ⟨g, 0, none⟩) M.length cap ∧ base ≤ g ∧ g < w.heap.size ∧ Sort.Holds encN w g 0 M.toArray ∧
      ∀ n os, (Sort.grow (Sort.putRow encN (Sort.ahead w n) g 0 (M.mergeSort fun x y => decide (x ≤ y)).toArray) os).ownsRow base e 1 (.slice (some ⟨g, 0, none⟩) M.length cap) M.length ((M.mergeSort fun x y => decide (x ≤ y)).map encN) ∧
        Below base w (Sort.grow (Sort.putRow encN (Sort.ahead w n) g 0 (M.mergeSort fun x y => decide (x ≤ y)).toArray) os) := by
  have hv : v ≠ .slice none 0 0 := fun hv => by
    rcases h.2 with ⟨_, h0⟩ | ⟨g, cap, cur, e, _⟩
    · exact hM (List.eq_nil_of_length_eq_zero h0)
    · rw [hv] at e; cases e
  obtain ⟨g, cap, rfl, h1, h2, h3, h4, h5, h6⟩ := Lib.holds_of_ownsRow h hv
  refine ⟨g, cap, rfl, h1, h2, h6, fun n os => ?_⟩
  have hl : (M.mergeSort fun x y => decide (x ≤ y)).length = M.length := List.length_mergeSort _
  have h7 := Lib.ownsRow_putRow (q := n) h hl (Nat.le_refl _)
  rw [List.take_of_length_le (by omega)] at h7
  refine ⟨own_below h7 (below_grow (Below.refl _ _) (Nat.le_refl _) os), below_grow ?_ (by simp; omega) os⟩
  exact Lib.below_putRow (Below.refl _ _) h1
theorem compRow {w : World} {base : Nat} {e : TypeId} {g cap : Nat} {S : List Int} (h : w.ownsRow base e 1 (.slice (some ⟨g, 0, none⟩) S.length cap) S.length (S.map encN)) (hb : S.length < 4611686018427387904) :
    Sort.Holds encN w g 0 S.toArray ∧ S.length ≤ cap ∧
      ∀ q, ∃ a c, (Value.slice (some ⟨g, 0, none⟩) (Lib.compact S).length cap) = .slice a (Lib.compact S).length c ∧ IntS (Sort.putRow encN (Sort.ahead w q) g 0 (Lib.compact S ++ List.replicate (S.length - (Lib.compact S).length) 0).toArray) a (Lib.compact S) ∧
        Below base w (Sort.putRow encN (Sort.ahead w q) g 0 (Lib.compact S ++ List.replicate (S.length - (Lib.compact S).length) 0).toArray) := by
  obtain ⟨g', cap', e1, h1, h2, h3, h4, h5, h6⟩ := Lib.holds_of_ownsRow h (fun e => by cases e)
  cases e1
  refine ⟨h6, h3, fun q => ?_⟩
  have hc : (Lib.compact S).length ≤ S.length := comp_len S.toArray S.length
  have h7 := Lib.ownsRow_putRow (q := q) (ys := Lib.compact S ++ List.replicate (S.length - (Lib.compact S).length) 0) h (by simp; omega) hc
  rw [List.take_append_of_le_length (Nat.le_refl _), List.take_length] at h7
  obtain ⟨a, c, e2, h8, _⟩ := intS_own h7 (by omega)
  exact ⟨a, c, e2, h8, Lib.below_putRow (Below.refl _ _) h1⟩

theorem selB_any (r : Rc) (w : World) : Calls Tryz.prog 126 #[rcV r] w fun e w' => e = .returned (.int .i64 r.b) ∧ Below w.heap.size w w' := by
  have hN := Has.new w (rcC r) 71
  have hb := (Below.refl w.heap.size w).alloc (Nat.le_refl _) (.cells (rcC r) 71)
  go_enter Tryz.func126, Tryz.ntmps126
  go_upto_region 1 with fail
  have n0 : (w.alloc (.cells (rcC r) 71)).cell? ⟨w.heap.size, 1, none⟩ = some (.int .i64 r.b) := hN.cell rfl
  generalize w.alloc (.cells (rcC r) 71) = w1 at *
  go_wp2
  go_ret
  exact ⟨rfl, hb⟩
set_option maxRecDepth 100000 in
set_option maxHeartbeats 4000000 in
theorem sortedselB_ok (l : List Ev) (n : Nat) (hn : l.length = n) (a : Option Addr) (c : Nat) (w : World) (h : EvS w a l) (he : (played l).2.2 = 0) :
    Calls Tryz.prog 125 #[.slice a n c, .func (.func 126) #[] #[]] w (SecPost (secL ((raceL l).map Rc.b)) w) := by
  subst hn
  have hl80 := (played_evs he).1
  have hlen : (raceL l).length ≤ 6400 := by
    have h1 := allR_len l l.length l.length
    have h2 : l.length * l.length ≤ 80 * 80 := Nat.mul_le_mul hl80 hl80
    unfold raceL
    omega
  obtain ⟨i0, hi, hz0, hz1, hz2⟩ := info_parts infoI
  have HE := Lib.hid he
  have hlen2 : ((raceL l).map Rc.b).length = (raceL l).length := List.length_map _
  obtain ⟨M, hM⟩ : ∃ M, (raceL l).map Rc.b = M := ⟨_, rfl⟩
  have HM := Lib.hid hM
  rw [hM] at hlen2 ⊢
  have HL := Lib.hid hlen2
  clear hM hlen2 he
  go_enter Tryz.func125, Tryz.ntmps125
  go_wp2_with fail
  refine (all_ok l a c _ h HE.out).mono ?_
  rintro r w1 ⟨v, rfl, hown, hb⟩
  obtain ⟨a2, c2, rfl, hS⟩ := rcS_own hown (by omega)
  clear hown h HE
  generalize raceL l = L at *
  go_wp2
  have hI := Below.refl w1.heap.size w1
  go_loopw [8, 21] (fun o i wr => ∃ k : Nat, k ≤ L.length ∧ i = .int .i64 k ∧ wr.ownsRow w1.heap.size 3 1 o k ((M.map encN).take k) ∧ Below w1.heap.size w1 wr) (fun _ i _ => L.length - (intOf i).toNat)
  case atStart => exact ⟨0, Nat.zero_le _, rfl, (by rw [List.take_zero]; exact World.ownsRow_nil _ _ _ _), hI⟩
  case round =>
    clear hI
    obtain ⟨k, hk, rfl, hO, hb1⟩ := hrel
    by_cases hlt : k < L.length
    · obtain ⟨g, o, rfl, d0, d1, d2, d3⟩ := (hS.below hb1).at hlt
      have hMk : M[k]? = some (L[k].b) := by rw [← HM.out]; simp [hlt]
      generalize L[k] = x at *
      have hT := Has.new wr (rcC x) 71
      have hb3 := hb1.alloc hb1.size (.cells (rcC x) 71)
      have hO2 := hO.alloc (.cells (rcC x) 71)
      have hsn : (M.map encN).take (k + 1) = (M.map encN).take k ++ [.int .i64 x.b] := by
        rw [List.take_add_one, List.getElem?_map, hMk]; rfl
      have HSN := Lib.hid hsn
      have k0 : (0 : Int) ≤ k := by omega
      have k1 : (k : Int) < L.length := by omega
      clear hsn hMk hO hb1
      go_upto_region 8 with fail
      clear d0 d1 d2 d3
      generalize wr.alloc (.cells (rcC x) 71) = w2 at *
      obtain ⟨x0, x1, x2, x3⟩ : w2.cell? ⟨wr.heap.size, 0, none⟩ = some (.int .i64 x.a) ∧ w2.cell? ⟨wr.heap.size, 1, none⟩ = some (.int .i64 x.b) ∧ w2.cell? ⟨wr.heap.size, 2, none⟩ = some (.int .i64 x.v) ∧ w2.cell? ⟨wr.heap.size, 3, none⟩ = some (.int .i64 x.k) := ⟨hT.cell rfl, hT.cell rfl, hT.cell rfl, hT.cell rfl⟩
      go_wp2_with fail
      refine (selB_any x _).mono ?_
      rintro r w3 ⟨rfl, hk3⟩
      have hb5 := hb3.trans (hk3.mono hb3.size)
      have hO3 := own_below hO2 hk3
      clear x0 x1 x2 x3 hT hb3 hO2 hk3
      have hN := Has.new w3 #[.int .i64 x.b] 3
      have hb7 := hb5.alloc hb5.size (.cells #[.int .i64 x.b] 3)
      go_wp2_with (at_builtin; refine app_list _ rfl (.tmp 25) (.tmp 29) 46 rfl Tryz.underlying46 hi hz0 hz1 hz2 rfl (by decide) rfl (hO3.alloc _) rfl (news := [.int .i64 x.b]) ⟨rfl, .inr ⟨_, rfl, fun j u hu => hN.cell_add (by simpa using hu)⟩⟩ (by intro q hq; simp at hq; subst hq; rfl) (by unfold maxLen; omega) (by omega) (by have := hb7.size; simp at this ⊢; omega) ?_)
      intro v6 w6 hAp
      have hb8 := hAp.below (hO3.alloc _) hb7 (by have := hb7.size; simp at this ⊢; omega)
      have ho6 : w6.ownsRow w1.heap.size 3 1 v6 (k + 1) ((M.map encN).take (k + 1)) := by
        rw [HSN.out]; exact hAp.own
      clear hAp hO3 hN hb7 hb5
      go_wp2
      go_roundw
      case rel => exact ⟨k + 1, by omega, by go_num, ho6, hb8⟩
      case measure => (simp [intOf]; try omega)
    · obtain rfl : k = L.length := by omega
      rw [List.take_of_length_le (by rw [List.length_map]; have := HL.out; omega)] at hO
      clear hlt hk HM hS
      by_cases h0 : L.length = 0
      · have hMn : M = [] := List.eq_nil_of_length_eq_zero (by have := HL.out; omega)
        subst hMn
        rw [h0] at hO ⊢
        have hex : ∃ p cap, u8 = .slice p 0 cap := by
          rcases hO.2 with ⟨rfl, _⟩ | ⟨g, cap, cur, rfl, _⟩
          · exact ⟨_, _, rfl⟩
          · exact ⟨_, _, rfl⟩
        obtain ⟨p, cap, rfl⟩ := hex
        have hq : secL [] = [] := secL_nil.2 rfl
        have HQ := Lib.hid hq
        clear hq hO
        go_wp2_with fail
        refine (l_slices_Sort_int_none p cap _).mono ?_
        rintro r w4 ⟨rfl, rfl⟩
        go_wp2_with fail
        refine (l_slices_Compact_int_empty p cap _).mono ?_
        rintro r w5 ⟨rfl, rfl⟩
        have hb9 := hb.trans (hb1.mono hb.size)
        go_wp2
        go_ret2
        unfold SecPost
        rw [HQ.out]
        exact ⟨_, _, rfl, ⟨by simp, .inl rfl⟩, hb9⟩
      · rw [← HL.out] at hO
        obtain ⟨g, cap, rfl, h1, h2, hH, hnx⟩ := secRow hO (fun e => by subst e; have := HL.out; simp at this; omega) (by have := HL.out; omega)
        have HNX := Lib.hid hnx
        have hMl : M.length < 4611686018427387904 := by have := HL.out; omega
        clear hnx hO
        go_wp2_with fail
        refine (l_slices_Sort_int g 0 cap M _ hH h2 hMl).mono ?_
        rintro r w4 ⟨rfl, n, os, hw4⟩
        have hnx := HNX.out n os
        rw [show encN = Value.int .i64 from rfl] at hnx
        rw [← hw4] at hnx
        obtain ⟨ho4, hb4⟩ := hnx
        clear HNX hw4 hH
        have hsl : (M.mergeSort fun x y => decide (x ≤ y)).length = M.length := List.length_mergeSort _
        have hQ : secL M = Lib.compact (M.mergeSort fun x y => decide (x ≤ y)) := rfl
        have HQ := Lib.hid hQ
        clear hQ
        generalize (M.mergeSort fun x y => decide (x ≤ y)) = S at *
        rw [← hsl] at ho4 ⊢
        obtain ⟨hH, hcap, hcm⟩ := compRow ho4 (by omega)
        have HCM := Lib.hid hcm
        have hsz : S.length ≤ 9223372036854775807 := by omega
        clear hcm ho4 hsl
        go_wp2_with fail
        refine (l_slices_Compact_int g 0 cap S _ hH hsz hcap).mono ?_
        rintro r w5 ⟨rfl, q, hw5⟩
        obtain ⟨a5, c5, e5, hI5, hb5⟩ := HCM.out q
        rw [show encN = Value.int .i64 from rfl] at hI5 hb5
        rw [← hw5] at hI5 hb5
        rw [e5]
        have hb9 := hb.trans (((hb1.trans hb4).trans hb5).mono hb.size)
        clear hw5 e5 HCM hH
        go_wp2
        go_ret2
        unfold SecPost
        rw [HQ.out]
        exact ⟨_, _, rfl, hI5, hb9⟩
theorem sortedselB_no (l : List Ev) (n : Nat) (hn : l.length = n) (a : Option Addr) (c : Nat) (w : World) (h : EvS w a l) (he : (played l).2.2 ≠ 0) :
    Calls Tryz.prog 125 #[.slice a n c, .func (.func 126) #[] #[]] w (SecNo l w) := by
  subst hn
  have e2 : ((played l).2.2 != 0) = true := by simpa using he
  go_enter Tryz.func125, Tryz.ntmps125
  go_wp2_with fail
  refine (all_err l a c _ h he).mono ?_
  rintro r w1 ⟨rfl, hb⟩
  go_wp2
  go_ret2
  exact ⟨rfl, hb⟩
theorem seconds_ok (l : List Ev) (n : Nat) (hn : l.length = n) (a : Option Addr) (c : Nat) (w : World) (h : EvS w a l) (he : (played l).2.2 = 0) :
    Calls Tryz.prog 101 #[.slice a n c] w (SecPost (secL ((raceL l).map Rc.b)) w) := by
  have HC := Lib.hid (sortedselB_ok l n hn a c w h he)
  generalize secL ((raceL l).map Rc.b) = Q at *
  clear h he hn
  go_enter Tryz.func101, Tryz.ntmps101
  go_wp2_with fail
  refine HC.out.mono ?_
  rintro r w1 ⟨a1, c1, rfl, hI, hb⟩
  clear HC
  go_wp2
  go_ret2
  exact ⟨_, _, rfl, hI, hb⟩
theorem seconds_no (l : List Ev) (n : Nat) (hn : l.length = n) (a : Option Addr) (c : Nat) (w : World) (h : EvS w a l) (he : (played l).2.2 ≠ 0) :
    Calls Tryz.prog 101 #[.slice a n c] w (SecNo l w) := by
  have HC := Lib.hid (sortedselB_no l n hn a c w h he)
  clear h he hn
  go_enter Tryz.func101, Tryz.ntmps101
  go_wp2_with fail
  refine HC.out.mono ?_
  rintro r w1 ⟨rfl, hb⟩
  clear HC
  go_wp2
  go_ret2
  exact ⟨rfl, hb⟩

end Go.Proofs.YtfjbnhacfficnaaGreatDoor

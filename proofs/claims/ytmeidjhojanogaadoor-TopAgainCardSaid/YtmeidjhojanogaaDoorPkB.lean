/- Contracts of package pack: Pack. -/
import Derived.Test.YtmeidjhojanogaaDoorPkA
import Derived.Test.YtmeidjhojanogaaDoorMA
import Derived.Laws.BytesArg
namespace Go.Proofs.YtmeidjhojanogaaDoor
open Go.RowKit

/-- The bytes of an event; of a trace but for the sum; of a trace. -/
def evB (e : Ev) : List Int := [e.t * 8 + (e.k - 1), e.o]
def bodyL (l : List Ev) : List Int := [68, (l.length : Int)] ++ l.flatMap evB
def packL (l : List Ev) : List Int := bodyL l ++ [sumL (bodyL l) / 256 % 256, sumL (bodyL l) % 256]
abbrev byts (l : List Int) : List Value := l.map fun n => Value.int .u8 n
theorem bodyL_len (l : List Ev) : (bodyL l).length = 2 + 2 * l.length := by
  simp [bodyL, evB]
  induction l with
  | nil => rfl
  | cons e l ih => simp; omega
theorem body_snoc (l : List Ev) (k : Nat) (hk : k < l.length) : (l.take (k + 1)).flatMap evB = (l.take k).flatMap evB ++ evB l[k] := by
  rw [List.take_succ_eq_append_getElem hk, List.flatMap_append]; simp
theorem infoB : (Tryd.prog.info? 5).map (fun i => (i.zero, i.size, i.bytes)) = some (some (.int .u8 0), 1, 1) := by kernel_rfl

theorem or_bits (t k : Int) (h0 : 0 ≤ t) (h6 : t < 6) (k1 : 1 ≤ k) (k8 : k ≤ 8) : bits .or .i64 (t * 8) (k - 1) = t * 8 + (k - 1) := by
  rcases (by omega : t = 0 ∨ t = 1 ∨ t = 2 ∨ t = 3 ∨ t = 4 ∨ t = 5) with rfl | rfl | rfl | rfl | rfl | rfl <;>
  rcases (by omega : k = 1 ∨ k = 2 ∨ k = 3 ∨ k = 4 ∨ k = 5 ∨ k = 6 ∨ k = 7 ∨ k = 8) with rfl | rfl | rfl | rfl | rfl | rfl | rfl | rfl <;> decide +kernel
theorem byS_own {w : World} {base : Nat} {e : TypeId} {v : Value} {l : List Int} {n : Nat} (h : w.ownsRow base e 1 v n (byts l)) (hn : n = l.length) (hb : l.length ≤ 140737488355328) (hr : ∀ n ∈ l, 0 ≤ n ∧ n ≤ 255) : ∃ a c, v = .slice a l.length c ∧ ByS w a l := by
  subst hn
  rcases h.2 with ⟨rfl, hn⟩ | ⟨g, cap, cur, rfl, hg, hh, _⟩
  · exact ⟨none, 0, by rw [hn], ⟨hb, hr, .inl (List.eq_nil_of_length_eq_zero hn)⟩⟩
  · refine ⟨_, _, rfl, ⟨hb, hr, .inr ⟨g, 0, rfl, fun i hi => ?_⟩⟩⟩
    have e1 := h.cells (g := g) rfl i (.int .u8 l[i]) (by simp [hi])
    have hadd : ∀ n, (⟨g, 0, none⟩ : Addr).add n = ⟨g, 0 + n, none⟩ := by intro n; unfold Addr.add; split <;> simp_all
    rw [hadd] at e1
    exact e1
theorem conv_bytes {w : World} {a : Option Addr} {l : List Int} {c : Nat} (h : ByS w a l) (hl : 0 < l.length) : (convert 68 9 (.slice a l.length c)).run Tryd.prog w = .ok (.string (strOfNums l)) w := by
  rcases h.ok with h0 | ⟨b, o, rfl, hc⟩
  · simp [h0] at hl
  · exact run_convert_bytes_arg w _ _ Tryd.underlying68 Tryd.underlying5 b o l.length c l rfl (fun i hi => by rw [hc i hi]; simp [List.getD, hi]) _ Tryd.underlying9
theorem body_rng {l : List Ev} (h : ∀ e ∈ l, isEv e = true) (hl : l.length ≤ 80) : ∀ n ∈ bodyL l, 0 ≤ n ∧ n ≤ 255 := by
  intro n hn
  simp only [bodyL, List.cons_append, List.nil_append, List.mem_cons, List.mem_flatMap] at hn
  rcases hn with rfl | rfl | ⟨e, he, hn⟩
  · omega
  · omega
  · obtain ⟨x1, x2, x3, x4⟩ := isEv_iff.1 (h e he)
    have x5 := manyOf_le e.k
    have x6 := manyOf_pos (k := e.k) (by omega)
    simp only [evB, List.mem_cons, List.not_mem_nil, or_false] at hn
    rcases hn with rfl | rfl <;> omega

theorem pack_err (l : List Ev) (a : Option Addr) (c : Nat) (w : World) (h : EvS w a l) (he : (played l).2.2 ≠ 0) :
    Calls Tryd.prog 18 #[.slice a l.length c] w fun r w' => r = .returned (.tuple #[.string ⟨#[]⟩, .int .i64 (played l).2.2]) ∧ Below w.heap.size w w' := by
  have e2 : ((played l).2.2 != 0) = true := by simpa using he
  go_enter Tryd.func18, Tryd.ntmps18
  go_wp2_with fail
  refine (check_any l a c _ h).mono ?_
  rintro r w1 ⟨rfl, hb⟩
  go_wp2
  go_ret2
  exact ⟨rfl, hb⟩

set_option maxHeartbeats 2000000 in
theorem pack_ok (l : List Ev) (a : Option Addr) (c : Nat) (w : World) (h : EvS w a l) (he : (played l).2.2 = 0) :
    Calls Tryd.prog 18 #[.slice a l.length c] w fun r w' => r = .returned (.tuple #[.string (strOfNums (packL l)), .int .i64 0]) ∧ Below w.heap.size w w' := by
  obtain ⟨hl80, hev⟩ := played_evs he
  obtain ⟨i0, hi, hz0, hz1, hz2⟩ := info_parts infoB
  have HE := Lib.hid he
  have HV := Lib.hid hev
  clear he hev
  go_enter Tryd.func18, Tryd.ntmps18
  go_wp2_with fail
  refine (check_any l a c _ h).mono ?_
  rintro r w1 ⟨rfl, hb⟩
  rw [HE.out]
  go_wp2
  have hown := own_full (base := w.heap.size) (size := 1) (n := 2) (Has.new w1 #[.int .u8 68, .int .u8 l.length] 5) hb.size rfl (by decide)
  have hb1 := hb.alloc hb.size (.cells #[.int .u8 68, .int .u8 l.length] 5)
  go_loopw [6, 23] (fun v i wr => ∃ k : Nat, k ≤ l.length ∧ i = .int .i64 k ∧ wr.ownsRow w.heap.size 5 1 v (2 + 2 * k) (byts ([68, (l.length : Int)] ++ (l.take k).flatMap evB)) ∧ Below w.heap.size w wr) (fun _ i _ => l.length - (intOf i).toNat)
  case atStart => exact ⟨0, Nat.zero_le _, rfl, hown, hb1⟩
  case round =>
    clear hown hb1 hb
    obtain ⟨k, hk, rfl, hown, hb⟩ := hrel
    replace h := h.below hb
    by_cases hlt : k < l.length
    · obtain ⟨b, o, rfl, hc⟩ : ∃ b o, a = some ⟨b, o, none⟩ ∧ _ := by
        rcases h.ok with h0 | h0
        · simp [h0] at hlt
        · exact h0
      obtain ⟨d0, d1, d2⟩ := hc k hlt
      clear hc
      have hx := HV.out l[k] (List.getElem_mem hlt)
      have hs := body_snoc l k hlt
      generalize l[k] = x at *
      obtain ⟨x1, x2, x3, x4⟩ := isEv_iff.1 hx
      have x5 := manyOf_le x.k
      have x6 := manyOf_pos (k := x.k) (by omega)
      have x7 : 1 ≤ x.k ∧ x.k ≤ 8 := by omega
      have x8 : x.o < 8 := by omega
      obtain ⟨x9, x10⟩ := x7
      have HS := Lib.hid hs
      clear hs hx x4 x5 x6
      have hor := or_bits x.t x.k x1 x2 x9 x10
      have hs0 := hb.size
      have hN := (Has.new (wr.alloc (.cells (evC x) 30)) #[.int .u8 (x.t * 8 + (x.k - 1)), .int .u8 x.o] 5).at (c := wr.heap.size + 1) (by simp)
      have hb' := (hb.alloc hb.size (.cells (evC x) 30)).alloc (by simp; omega) (.cells #[.int .u8 (x.t * 8 + (x.k - 1)), .int .u8 x.o] 5)
      go_wp2_with (at_builtin; refine app_list _ rfl (.tmp 27) (.tmp 39) 68 rfl Tryd.underlying68 hi hz0 hz1 hz2 rfl (by decide) rfl ((hown.alloc _).alloc _) rfl (news := byts [x.t * 8 + (x.k - 1), x.o]) ⟨rfl, .inr ⟨_, rfl, fun j u hu => hN.cell_add (by simpa using hu)⟩⟩ ?c2 ?c3 ?c4 ?c5 ?_)
      case c2 => intro u hu; simp at hu; rcases hu with rfl | rfl <;> rfl
      case c3 => unfold maxLen; omega
      case c4 => omega
      case c5 => simp; omega
      intro v' w2 hA
      have hbw := hA.below ((hown.alloc _).alloc _) hb' (by simp; omega)
      have ho2 : w2.ownsRow w.heap.size 5 1 v' (2 + 2 * (k + 1)) (byts ([68, (l.length : Int)] ++ (l.take (k + 1)).flatMap evB)) := by
        have := hA.own
        rw [HS.out]
        simpa [byts, evB, Nat.mul_add, Nat.add_assoc] using this
      clear hA hN hb' hown hb h d0 d1 d2 hor
      go_wp2
      go_roundw
      case rel => exact ⟨k + 1, by omega, by go_num, ho2, hbw⟩
      case measure => simp [intOf]; omega
    · obtain rfl : k = l.length := by omega
      rw [List.take_length] at hown
      have hrng := body_rng HV.out hl80
      have hbl := bodyL_len l
      obtain ⟨a', c', hv, hB⟩ := byS_own (l := bodyL l) hown (by rw [hbl]) (by omega) hrng
      rw [hv] at hown ⊢
      have HBL := Lib.hid hbl
      have hbig : (bodyL l).length ≤ 200 := by omega
      clear hv h hbl
      go_wp2_with fail
      refine (sum_any (bodyL l) a' c' _ hB).mono ?_
      rintro r w3 ⟨rfl, hN, hk⟩
      have hown3 := own_below hown hk
      have hb3 := hb.trans (hk.mono hb.size)
      have hs0 := hb3.size
      clear hown hB hb hk
      go_wp2_with (at_builtin; refine app_list _ rfl (.tmp 42) (.tmp 44) 68 rfl Tryd.underlying68 hi hz0 hz1 hz2 rfl (by decide) rfl hown3 rfl (news := byts [sumL (bodyL l) / 256 % 256, sumL (bodyL l) % 256]) ⟨rfl, .inr ⟨_, rfl, fun j u hu => hN.cell_add (by simpa using hu)⟩⟩ ?c2 ?c3 ?c4 ?c5 ?_)
      case c2 => intro u hu; simp at hu; rcases hu with rfl | rfl <;> rfl
      case c3 => unfold maxLen; omega
      case c4 => omega
      case c5 => exact hs0
      intro v' w4 hA
      have hb4 := hA.below hown3 hb3 hs0
      have hpl : (packL l).length = 4 + 2 * l.length := by have := HBL.out; simp [packL]; omega
      have ho4 : w4.ownsRow w.heap.size 5 1 v' (2 + 2 * l.length + 2) (byts (packL l)) := by
        have := hA.own
        simpa [byts, packL, bodyL] using this
      obtain ⟨a4, c4, hv, hB4⟩ := byS_own ho4 (by rw [hpl]; omega) (by omega) (by
        intro n hn
        simp only [packL, List.mem_append, List.mem_cons, List.not_mem_nil, or_false] at hn
        have := sumL_bd (bodyL l) hrng
        rcases hn with hn | rfl | rfl
        · exact hrng n hn
        · omega
        · omega)
      have hconv := conv_bytes (c := c4) hB4 (by omega)
      have HPL := Lib.hid hpl
      clear hpl
      rw [hv]
      clear hA ho4 hB4 hv hown3 hb3 hN
      go_wp2
      go_ret2
      exact ⟨rfl, hb4⟩
end Go.Proofs.YtmeidjhojanogaaDoor

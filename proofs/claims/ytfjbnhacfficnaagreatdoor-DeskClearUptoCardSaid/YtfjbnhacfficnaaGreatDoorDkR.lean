/- Contract of desk.Run. -/
import Derived.Test.YtfjbnhacfficnaaGreatDoorDkI
import Derived.Test.YtfjbnhacfficnaaGreatDoorZA
namespace Go.Proofs.YtfjbnhacfficnaaGreatDoor
open Go.RowKit Go.Lib

/-- Lines that are not too many nor too long. -/
def okLines (r : List ByteArray) : Prop := r.length ≤ 60 ∧ ∀ s ∈ r, s.size ≤ 200
def DkRun (r : List ByteArray) (w : World) (e : Ending) (w' : World) : Prop := ∃ a c, e = .returned (.tuple #[.slice a r.length c, .int .i64 0]) ∧ StrS w' a (dkA dkF [] r) ∧ r.length ≤ c ∧ Below w.heap.size w w'
theorem DkI.first (w : World) : DkI (w.alloc (.cells #[.slice none 0 0] dkT)) w.heap.size [] :=
  ⟨by decide, none, 0, Has.new w _ _, ⟨by decide, .inl rfl⟩, Nat.le_refl _, .inl rfl⟩
theorem below_some {B : Nat} {w0 w w' : World} {d : Nat} (h : Below B w0 w) (hB : B ≤ w.heap.size) (hd : B ≤ d) (g : w.grownBy w' (some d)) : Below B w0 w' := h.grown g hB (fun k hk => by cases hk; exact hd)
theorem DkI.keptRow {w w' : World} {d : Nat} {l : List Ev} {row : Option Nat} (h : DkI w d l) (g : w.grownBy w' row) (hr : ∀ b, row = some b → ∃ cs, Has w b cs 9) : DkI w' d l := by
  obtain ⟨h0, a, c, hD, hS, hc, hT⟩ := h
  have hd : some d ≠ row := fun e => by
    obtain ⟨cs, hh⟩ := hr d e.symm
    exact absurd rfl (hD.ne_ty hh (by decide))
  rcases hT with h1 | ⟨b, o, cs, ha, hb⟩
  · exact ⟨h0, a, c, hD.grown g hd, ⟨hS.big, .inl h1⟩, hc, .inl h1⟩
  · have hbr : some b ≠ row := fun e => by
      obtain ⟨cs, hh⟩ := hr b e.symm
      exact absurd rfl (hb.ne_ty hh (by decide))
    have hk := g.block b hb.lt hbr
    refine ⟨h0, a, c, hD.grown g hd, ⟨hS.big, ?_⟩, hc, .inr ⟨b, o, cs, ha, hb.grown g hbr⟩⟩
    rcases hS.ok with h1 | ⟨b', o', ha', hcl⟩
    · exact .inl h1
    · rw [ha] at ha'
      cases ha'
      refine .inr ⟨b, o, ha, fun i hi => ?_⟩
      obtain ⟨d0, d1, d2⟩ := hcl i hi
      have oth : ∀ q, w'.cell? ⟨b, q, none⟩ = w.cell? ⟨b, q, none⟩ := fun q => by simp [World.cell?, hk]
      rw [oth, oth, oth]
      exact ⟨d0, d1, d2⟩
theorem own_row {w : World} {base n : Nat} {v : Value} {xs : List Value} (h : w.ownsRow base 9 1 v n xs) : ∀ b, v.ownBlock = some b → ∃ cs, Has w b cs 9 := by
  intro b hb
  rcases h.2 with ⟨rfl, _⟩ | ⟨g, cap, cur, rfl, _, hh, _⟩
  · simp [Value.ownBlock] at hb
  · simp [Value.ownBlock] at hb
    subst hb
    exact ⟨cur, ⟨hh⟩⟩
theorem DkI.keptAlloc {w : World} {d : Nat} {l : List Ev} (h : DkI w d l) (o : Obj) : DkI (w.alloc o) d l := h.below ((Below.refl _ _).alloc (Nat.le_refl _) o)
set_option maxRecDepth 100000 in
set_option maxHeartbeats 4000000 in
theorem run_no (r : List ByteArray) (a : Option Addr) (c : Nat) (w : World) (h : StrS w a r) (hr : ¬ okLines r) :
    Calls Tryz.prog 6 #[.slice a r.length c] w fun e w' => e = .returned (.tuple #[.slice none 0 0, .int .i64 2]) ∧ Below w.heap.size w w' := by
  have hbig := h.big
  go_enter Tryz.func6, Tryz.ntmps6
  by_cases h60 : r.length ≤ 60
  · have hb : ¬ ((r.length : Int) > 60) := by omega
    have hex : ¬ ∀ s ∈ r, s.size ≤ 200 := fun hh => hr ⟨h60, hh⟩
    have HE := Lib.hid hex
    clear hr hex
    go_wp2
    go_loopw [5, 15] (fun _ i wr => ∃ k : Nat, k ≤ r.length ∧ i = .int .i64 k ∧ (∀ j (hj : j < r.length), j < k → r[j].size ≤ 200) ∧ wr = w) (fun _ i _ => r.length - (intOf i).toNat)
    case atStart => exact ⟨0, Nat.zero_le _, rfl, fun j _ h0 => absurd h0 (Nat.not_lt_zero _), rfl⟩
    case round =>
      obtain ⟨k, hk, rfl, hall, rfl⟩ := hrel
      by_cases hlt : k < r.length
      · obtain ⟨b', o', rfl, d0⟩ := h.at hlt
        have HA := Lib.hid hall
        obtain ⟨x, hx⟩ : ∃ x, r[k] = x := ⟨_, rfl⟩
        rw [hx] at d0
        have HX := Lib.hid hx
        clear hall hx
        by_cases h2 : x.size ≤ 200
        · have q1 : ¬ ((x.size : Int) > 200) := by omega
          go_wp2
          go_roundw
          case rel => exact ⟨k + 1, by omega, by go_num, fun j hj h1 => by
            by_cases e : j = k
            · subst e
              rw [HX.out]
              exact h2
            · exact HA.out j hj (by omega), trivial⟩
          case measure => (simp [intOf]; try omega)
        · have q1 : ((x.size : Int) > 200) := by omega
          go_wp2
          go_ret2
          exact ⟨rfl, Below.refl _ _⟩
      · exact absurd (fun s hs => by
          obtain ⟨j, hj, rfl⟩ := List.mem_iff_getElem.1 hs
          exact hall j hj (by omega)) HE.out
  · have hb : ((r.length : Int) > 60) := by omega
    go_wp2
    go_ret2
    exact ⟨rfl, Below.refl _ _⟩
set_option maxRecDepth 100000 in
set_option maxHeartbeats 8000000 in
theorem run_ok (r : List ByteArray) (a : Option Addr) (c : Nat) (w : World) (h : StrS w a r) (hr : okLines r) (hv : DkV w) (h8 : 8 ≤ w.heap.size) :
    Calls Tryz.prog 6 #[.slice a r.length c] w (DkRun r w) := by
  have hbig := h.big
  obtain ⟨h60, h200⟩ := hr
  obtain ⟨i0', hi, hz0, hz1, hz2⟩ := info_parts infoSt
  have hb : ¬ ((r.length : Int) > 60) := by omega
  have H2 := Lib.hid h200
  clear h200
  go_enter Tryz.func6, Tryz.ntmps6
  go_wp2
  go_loopw [5, 15] (fun _ i wr => ∃ k : Nat, k ≤ r.length ∧ i = .int .i64 k ∧ wr = w) (fun _ i _ => r.length - (intOf i).toNat)
  case atStart => exact ⟨0, Nat.zero_le _, rfl, rfl⟩
  case round =>
    obtain ⟨k, hk, rfl, rfl⟩ := hrel
    obtain ⟨wo, rfl⟩ : ∃ wo : World, wo = wr := ⟨_, rfl⟩
    by_cases hlt : k < r.length
    · obtain ⟨b', o', rfl, d0⟩ := h.at hlt
      have h2 := H2.out _ (List.getElem_mem hlt)
      generalize r[k] = x at *
      have q1 : ¬ ((x.size : Int) > 200) := by omega
      go_wp2
      go_roundw
      case rel => exact ⟨k + 1, by omega, by go_num, trivial⟩
      case measure => (simp [intOf]; try omega)
    · have hI0 := DkI.first wo
      have hb0 := (Below.refl wo.heap.size wo).alloc (Nat.le_refl _) (.cells #[.slice none 0 0] dkT)
      have hs0 : (wo.alloc (.cells #[.slice none 0 0] dkT)).heap.size = wo.heap.size + 1 := by simp
      have hS0 := h.below hb0
      go_upto_region 11 with fail
      generalize wo.alloc (.cells #[.slice none 0 0] dkT) = W at *
      clear hlt hb
      go_wp2
      go_loopw [7, 27] (fun v i wr => ∃ k : Nat, k ≤ r.length ∧ i = .int .i64 k ∧ wr.ownsRow (wo.heap.size + 1) 9 1 v k (stL (dkA dkF [] (r.take k))) ∧ DkI wr wo.heap.size (dkS dkF [] (r.take k)) ∧ Below wo.heap.size wo wr ∧ wo.heap.size + 1 ≤ wr.heap.size) (fun _ i _ => r.length - (intOf i).toNat)
      case atStart => exact ⟨0, Nat.zero_le _, rfl, World.ownsRow_nil _ _ _ _, hI0, hb0, by omega⟩
      case round =>
        obtain ⟨k, hk, rfl, hown, hI, hbk, hsk⟩ := hrel
        obtain ⟨wq, rfl⟩ : ∃ wq : World, wq = wr := ⟨_, rfl⟩
        by_cases hlt : k < r.length
        · obtain ⟨b', o', rfl, d0⟩ := (h.below hbk).at hlt
          have h2 := H2.out _ (List.getElem_mem hlt)
          have hA := dkA_take dkF [] r hlt
          have hSt := dkS_take dkF [] r hlt
          have hVq := hv.below h8 hbk
          obtain ⟨x, hx⟩ : ∃ x, r[k] = x := ⟨_, rfl⟩
          rw [hx] at d0 h2 hA hSt
          obtain ⟨L, hL⟩ : ∃ L, dkS dkF [] (r.take k) = L := ⟨_, rfl⟩
          rw [hL] at hA hSt hI
          have HA := Lib.hid hA
          have HS := Lib.hid hSt
          clear hx hL hA hSt
          have hln := line_dk L x h2 wo.heap.size wq hI hVq h8
          go_wp2_with fail
          refine hln.mono ?_
          clear hln
          rintro e w5 ⟨rfl, hI5, hg5⟩
          have hb5 := below_some hbk hbk.size (Nat.le_refl _) hg5
          have hs5 := hg5.size
          have ho5 : w5.ownsRow (wo.heap.size + 1) 9 1 u7 k (stL (dkA dkF [] (r.take k))) := hown.kept hg5 (.inr (by
            intro e
            have := hown.lt _ e
            omega))
          clear hown hg5 hI hVq d0 h2 hbk
          obtain ⟨AN, hAN⟩ : ∃ AN, (dkF L x).1 = AN := ⟨_, rfl⟩
          rw [hAN]
          have HAN := Lib.hid hAN
          clear hAN
          have hT := Has.new w5 #[.string AN] 9
          have hb6 := hb5.alloc hb5.size (.cells #[.string AN] 9)
          have hI6 := hI5.keptAlloc (.cells #[.string AN] 9)
          go_wp2_with (at_builtin; refine app_list _ rfl (.tmp 31) (.tmp 35) 22 rfl Tryz.underlying22 hi hz0 hz1 hz2 rfl (by decide) rfl (ho5.alloc _) rfl (news := stL [AN]) ⟨rfl, .inr ⟨_, rfl, fun j u hu => hT.cell_add (by simpa [stL] using hu)⟩⟩ (stL_one _) ?c3 ?c4 ?c5 ?_)
          case c3 => unfold maxLen; omega
          case c4 => omega
          case c5 => simp; omega
          intro v' w6 hAp
          have ho5a := ho5.alloc (.cells #[.string AN] 9)
          have hI7 := hI6.keptRow hAp.grown (own_row ho5a)
          have hb7 : Below wo.heap.size wo w6 := hb6.grown hAp.grown hb6.size (fun q hq => by have := (ho5a.lt q hq).1; omega)
          have ho7 : w6.ownsRow (wo.heap.size + 1) 9 1 v' (k + 1) (stL (dkA dkF [] (r.take (k + 1)))) := by
            rw [HA.out, stL_append, HAN.out]
            exact hAp.own
          have hs7 := hAp.grown.size
          have hI8 : DkI w6 wo.heap.size (dkS dkF [] (r.take (k + 1))) := by rw [HS.out]; exact hI7
          have hs8 : wo.heap.size + 1 ≤ w6.heap.size := by
            have : (w5.alloc (.cells #[.string AN] 9)).heap.size = w5.heap.size + 1 := by simp
            omega
          have H7 := Lib.hid (And.intro ho7 (And.intro hI8 (And.intro hb7 hs8)))
          clear hAp ho5 ho5a hI5 hI6 hI7 hb5 hb6 hb7 ho7 hI8 hs8 hT hs5 hs7
          go_wp2
          go_roundw
          case rel => exact ⟨k + 1, by omega, by go_num, H7.out.1, H7.out.2.1, H7.out.2.2.1, H7.out.2.2.2⟩
          case measure => (simp [intOf]; try omega)
        · obtain rfl : k = r.length := by omega
          rw [List.take_length] at hown
          have hml := dkA_len dkF r []
          obtain ⟨a8, c8, hv8, hS8, hc8⟩ := strS_own (l := dkA dkF [] r) (by rw [hml]; exact hown) (by omega)
          rw [hml] at hv8 hc8
          subst hv8
          clear hown hI hml
          go_wp2
          go_ret2
          exact ⟨a8, c8, rfl, hS8, hc8, hbk⟩
end Go.Proofs.YtfjbnhacfficnaaGreatDoor

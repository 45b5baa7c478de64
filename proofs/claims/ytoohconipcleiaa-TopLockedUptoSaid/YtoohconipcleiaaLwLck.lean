/- TopLocked: a program that accesses variables under one lock only: no race, no warning, epochs suffice: for every program and every slice of picks that are small. -/
import Derived.Test.YtoohconipcleiaaRows
import Derived.Test.YtoohconipcleiaaND
import Derived.Test.YtoohconipcleiaaTlP
import Derived.Test.YtoohconipcleiaaNC
import Derived.Test.YtoohconipcleiaaMR
import Derived.Test.YtoohconipcleiaaMF
import Derived.Test.YtoohconipcleiaaRacA
import Derived.Test.YtoohconipcleiaaNA
import Derived.Test.YtoohconipcleiaaMI
import Derived.Deep.CondSized
import Derived.Deep.DeepCutAuto
namespace Go.Proofs.Ytoohconipcleiaa
open Go.ChangeShapes Go.WideShapes Go.ChangeAt Go.RowKit

theorem infoLk1 : (Try.prog.info? 40).map (fun i => (i.zero, i.size, i.bytes)) = some (some (evV ⟨0, 0, 0⟩), 3, 24) := by kernel_rfl
theorem infoLk2 : (Try.prog.info? 38).map (fun i => (i.zero, i.size, i.bytes)) = some (some (.slice none 0 0), 1, 24) := by kernel_rfl
theorem lk_one {e : Ev} (h4 : e.k ≠ 4) (h5 : e.k ≠ 5) (h1 : e.k ≠ 1) (h2 : e.k ≠ 2) : lkOp e = [e] := by unfold lkOp; rw [if_neg (by omega), if_neg (by omega)]
theorem lk_acc {e : Ev} (h : e.k = 1 ∨ e.k = 2) : lkOp e = [⟨4, 0, 0⟩, e, ⟨5, 0, 0⟩] := by unfold lkOp; rw [if_neg (by omega), if_pos h]
theorem lk_no {e : Ev} (h : e.k = 4 ∨ e.k = 5) : lkOp e = [] := by unfold lkOp; rw [if_pos h]
set_option maxRecDepth 100000 in
set_option maxHeartbeats 16000000 in
theorem topLocked_walk (a : Option Addr) (p : List (List Ev)) (c : Nat) (ap : Option Addr) (l : List Int) (cp : Nat) (w : World) (hp : PgS w a p ∧ (p.length ≤ c ∧ p.length * 24 ≤ 140737488351232) ∧ ∀ z ∈ p, ∀ e ∈ z, I64 e.k ∧ I64 e.t ∧ I64 e.o) (hn : p.length ≤ 1048576 ∧ ∀ z ∈ p, z.length ≤ 1048576)
    (hl : IntS w ap l ∧ l.length ≤ cp ∧ l.length * 8 ≤ 140737488351232 ∧ ∀ n ∈ l, I64 n) (_ : l.length ≤ 1048576) :
    Calls Try.prog 4 #[.slice a p.length c, .slice ap l.length cp] w fun e w' => e = .returned (.bool true) ∧ Below w.heap.size w w' := by
  have h := hp.1
  have hq := hl.1
  have HN := Lib.hid hn.2
  have hpn := hn.1
  clear hp hl hn
  obtain ⟨i0, hi, hz0, hz1, hz2⟩ := info_parts infoLk1
  obtain ⟨j0, hj, jz0, jz1, jz2⟩ := info_parts infoLk2
  go_enter Try.func4, Try.ntmps4
  go_wp2_with fail
  refine (works_any _).mono ?_
  rintro r w4 ⟨rfl, hb4⟩
  have hP4 := h.below hb4
  have hq4 := hq.below hb4
  have hbB := Below.refl w4.heap.size w4
  clear h hq
  go_wp2
  go_loopw [5, 26] (fun v i wr => ∃ (k : Nat) (R : List Value), k ≤ p.length ∧ i = .int .i64 k ∧ RowsI wr w4.heap.size k ((p.take k).map lkZ) v R ∧ Below w4.heap.size w4 wr) (fun _ i _ => p.length - (intOf i).toNat)
  case atStart => exact ⟨0, [], Nat.zero_le _, rfl, RowsI.zero _ _, hbB⟩
  case round =>
    clear hbB
    obtain ⟨k, R, hk, rfl, hR, hbB⟩ := hrel
    by_cases hlt : k < p.length
    · obtain ⟨pb, po, a1, c1, rfl, d0, hz⟩ := (hP4.below hbB).at hlt
      have hz24 := HN.out p[k] (List.getElem_mem hlt)
      have k0 : (0 : Int) ≤ k := by omega
      have k1 : (k : Int) < p.length := by omega
      have hTq : (p.take (k + 1)).map lkZ = (p.take k).map lkZ ++ [lkZ p[k]] := by rw [List.take_add_one, List.getElem?_eq_getElem hlt, List.map_append]; rfl
      have HTQ := Lib.hid hTq
      clear hTq
      generalize p[k] = z at *
      obtain ⟨q, hqe⟩ : ∃ q, (p.take k).map lkZ = q := ⟨_, rfl⟩
      rw [hqe] at hR HTQ
      have hzb := hz.big
      have hg0 := Below.refl wr.heap.size wr
      clear hqe
      generalize wr = w5 at *
      go_wp2
      go_loopw [8, 32] (fun v i wv => ∃ n : Nat, n ≤ z.length ∧ i = .int .i64 n ∧ wv.ownsRow w5.heap.size 40 3 v (lkN z n).length (evL (lkN z n)) ∧ Below w5.heap.size w5 wv) (fun _ i _ => z.length - (intOf i).toNat)
      case atStart => exact ⟨0, Nat.zero_le _, rfl, World.ownsRow_nil _ _ _ _, hg0⟩
      case round =>
        clear hg0
        obtain ⟨n, hn, rfl, hown, hg⟩ := hrel
        have hgs := hg.size
        by_cases hlt2 : n < z.length
        · obtain ⟨b, o, rfl, e0, e1, e2⟩ := (hz.below hg).at hlt2
          have n0 : (0 : Int) ≤ n := by omega
          have n1 : (n : Int) < z.length := by omega
          have HLN := Lib.hid (lkN_succ hlt2)
          have hll := lkN_len z n hn
          generalize z[n] = x at *
          obtain ⟨L, hL⟩ : ∃ L, lkN z n = L := ⟨_, rfl⟩
          rw [hL] at hown HLN hll
          have HL := Lib.hid hL
          clear hL
          obtain ⟨K, T, O⟩ := x
          simp only at e0 e1 e2
          have hN := Has.new wr (evC ⟨K, T, O⟩) 40
          have hown6 := hown.alloc (.cells (evC ⟨K, T, O⟩) 40)
          have hg6 := hg.alloc hgs (.cells (evC ⟨K, T, O⟩) 40)
          clear hown hg
          go_upto_region 12 with fail
          clear e0 e1 e2
          generalize wr.alloc (.cells (evC ⟨K, T, O⟩) 40) = w6 at *
          generalize wr.heap.size = E at *
          have x0 : w6.cell? ⟨E, 0, none⟩ = some (.int .i64 K) := hN.cell rfl
          have x1 : w6.cell? ⟨E, 1, none⟩ = some (.int .i64 T) := hN.cell rfl
          have x2 : w6.cell? ⟨E, 2, none⟩ = some (.int .i64 O) := hN.cell rfl
          have hg6s := hg6.size
          clear hN
          by_cases k4 : K = 4
          · subst k4
            have HL2 := Lib.hid (show lkN z (n + 1) = L by rw [HLN.out, lk_no (.inl rfl), List.append_nil])
            go_wp2
            go_roundw
            case rel => exact ⟨n + 1, by omega, by go_num, by rw [HL2.out]; exact hown6, hg6⟩
            case measure => (simp [intOf]; try omega)
          · have r4 : (K == 4) = false := beq_eq_false_iff_ne.2 k4
            have q4 : decide (K = 4) = false := decide_eq_false k4
            by_cases k5 : K = 5
            · subst k5
              have HL2 := Lib.hid (show lkN z (n + 1) = L by rw [HLN.out, lk_no (.inr rfl), List.append_nil])
              go_wp2
              go_roundw
              case rel => exact ⟨n + 1, by omega, by go_num, by rw [HL2.out]; exact hown6, hg6⟩
              case measure => (simp [intOf]; try omega)
            · have r5 : (K == 5) = false := beq_eq_false_iff_ne.2 k5
              have q5 : decide (K = 5) = false := decide_eq_false k5
              by_cases k1' : K = 1
              · subst k1'
                have HL2 := Lib.hid (show lkN z (n + 1) = L ++ [⟨4, 0, 0⟩, ⟨1, T, O⟩, ⟨5, 0, 0⟩] by rw [HLN.out, lk_acc (.inl rfl)])
                go_wp2_with (at_builtin; refine app_list _ rfl (.tmp 58) (.tmp 62) 38 rfl Try.underlying38 hi hz0 hz1 hz2 rfl (by decide) rfl (hown6.alloc _) rfl (m := 3) (news := evL [⟨4, 0, 0⟩, ⟨1, T, O⟩, ⟨5, 0, 0⟩]) ⟨rfl, .inr ⟨_, rfl, fun j u hu => (Has.new w6 (evL [⟨4, 0, 0⟩, ⟨1, T, O⟩, ⟨5, 0, 0⟩]).toArray 40).cell_add (by simpa using hu)⟩⟩ (evL_one _) (by unfold maxLen; omega) (by omega) (by simp; omega) ?_)
                intro v' w8 hAp
                have hg8 := hAp.below (hown6.alloc _) (hg6.alloc (by omega) _) (by simp; omega)
                have ho8 := hAp.own
                rw [← evL_append] at ho8
                clear hAp hown6 hg6 x0 x1 x2
                go_wp2
                go_roundw
                case rel => exact ⟨n + 1, by omega, by go_num, by rw [HL2.out, List.length_append]; exact ho8, hg8⟩
                case measure => (simp [intOf]; try omega)
              · have r1 : (K == 1) = false := beq_eq_false_iff_ne.2 k1'
                have q1 : decide (K = 1) = false := decide_eq_false k1'
                by_cases k2' : K = 2
                · subst k2'
                  have HL2 := Lib.hid (show lkN z (n + 1) = L ++ [⟨4, 0, 0⟩, ⟨2, T, O⟩, ⟨5, 0, 0⟩] by rw [HLN.out, lk_acc (.inr rfl)])
                  go_wp2_with (at_builtin; refine app_list _ rfl (.tmp 58) (.tmp 62) 38 rfl Try.underlying38 hi hz0 hz1 hz2 rfl (by decide) rfl (hown6.alloc _) rfl (m := 3) (news := evL [⟨4, 0, 0⟩, ⟨2, T, O⟩, ⟨5, 0, 0⟩]) ⟨rfl, .inr ⟨_, rfl, fun j u hu => (Has.new w6 (evL [⟨4, 0, 0⟩, ⟨2, T, O⟩, ⟨5, 0, 0⟩]).toArray 40).cell_add (by simpa using hu)⟩⟩ (evL_one _) (by unfold maxLen; omega) (by omega) (by simp; omega) ?_)
                  intro v' w8 hAp
                  have hg8 := hAp.below (hown6.alloc _) (hg6.alloc (by omega) _) (by simp; omega)
                  have ho8 := hAp.own
                  rw [← evL_append] at ho8
                  clear hAp hown6 hg6 x0 x1 x2
                  go_wp2
                  go_roundw
                  case rel => exact ⟨n + 1, by omega, by go_num, by rw [HL2.out, List.length_append]; exact ho8, hg8⟩
                  case measure => (simp [intOf]; try omega)
                · have r2 : (K == 2) = false := beq_eq_false_iff_ne.2 k2'
                  have q2 : decide (K = 2) = false := decide_eq_false k2'
                  have HL2 := Lib.hid (show lkN z (n + 1) = L ++ [⟨K, T, O⟩] by rw [HLN.out, lk_one k4 k5 k1' k2'])
                  go_wp2_with (at_builtin; refine app_list _ rfl (.tmp 36) (.tmp 38) 38 rfl Try.underlying38 hi hz0 hz1 hz2 rfl (by decide) rfl (hown6.alloc _) rfl (m := 1) (news := evL [⟨K, T, O⟩]) ⟨rfl, .inr ⟨_, rfl, fun j u hu => (Has.new w6 (evL [⟨K, T, O⟩]).toArray 40).cell_add (by simpa using hu)⟩⟩ (evL_one _) (by unfold maxLen; omega) (by omega) (by simp; omega) ?_)
                  intro v' w8 hAp
                  have hg8 := hAp.below (hown6.alloc _) (hg6.alloc (by omega) _) (by simp; omega)
                  have ho8 := hAp.own
                  rw [← evL_append] at ho8
                  clear hAp hown6 hg6 x0 x1 x2
                  go_wp2
                  go_roundw
                  case rel => exact ⟨n + 1, by omega, by go_num, by rw [HL2.out, List.length_append]; exact ho8, hg8⟩
                  case measure => (simp [intOf]; try omega)
        · obtain rfl : n = z.length := by omega
          have hll := lkN_len z z.length (Nat.le_refl _)
          have HLZ := Lib.hid (show lkZ z = (lkN z z.length).take 12 from rfl)
          generalize lkN z z.length = L at *
          obtain ⟨a8, c8, rfl, _, _⟩ := evS_own hown (by omega)
          have hR6 := hR.below hg
          have hbBs := hbB.size
          have hbB6 := hbB.trans (hg.mono hbBs)
          have hc8 : L.length ≤ c8 := by
            rcases hown.2 with ⟨hv, h0⟩ | ⟨g, cap, cur, hv, _, _, h1, _⟩
            · omega
            · cases hv; exact h1
          by_cases h12 : L.length ≤ 12
          · have HZ2 := Lib.hid (show lkZ z = L by rw [HLZ.out, List.take_of_length_le h12])
            have hrow := own_lower hown hbBs
            have hX := Has.new wr #[.slice a8 L.length c8] 38
            have hR7 := hR6.below ((Below.refl _ _).alloc (Nat.le_refl _) (.cells #[.slice a8 L.length c8] 38))
            have hrow7 := own_below hrow ((Below.refl _ _).alloc (Nat.le_refl _) (.cells #[.slice a8 L.length c8] 38))
            have hbB7 := hbB6.alloc hbB6.size (.cells #[.slice a8 L.length c8] 38)
            have hRl := hR6.len
            clear hR hg hbB hown hrow hR6 hbB6
            go_wp2_with (at_builtin; refine app_list _ rfl (.tmp 65) (.tmp 71) 22 rfl Try.underlying22 hj jz0 jz1 jz2 rfl (by decide) rfl hR7.p rfl (m := 1) (news := [.slice a8 L.length c8]) ⟨rfl, .inr ⟨_, rfl, fun j u hu => hX.cell_add (by simpa using hu)⟩⟩ (fun u hu => by simp at hu; subst hu; rfl) (by unfold maxLen; omega) (by omega) hbB7.size ?_)
            intro v' w8 hAp
            have hb8 := hAp.below hR7.p hbB7 hbB7.size
            have hR8 := hR7.step (z := lkZ z) (by rw [HZ2.out]; exact hrow7) hAp
            clear hAp hR7 hrow7 hbB7 hX
            go_wp2
            go_roundw
            case rel => exact ⟨k + 1, _, by omega, by go_num, by rw [HTQ.out]; exact hR8, hb8⟩
            case measure => (simp [intOf]; try omega)
          · have h12' : 12 < L.length := by omega
            have HZ2 := Lib.hid (show (lkZ z).length = 12 by rw [HLZ.out, List.length_take]; omega)
            have hrow : wr.ownsRow w4.heap.size 40 3 (.slice a8 12 c8) 12 (evL (lkZ z)) := by
              have := own_front (own_lower hown hbBs) (m := 12) (by omega)
              rwa [evL_take, ← HLZ.out] at this
            have z0 : (12 : Int) < L.length := by omega
            have z1 : (12 : Int) ≤ c8 := by omega
            have z2 : decide ((12 : Int) < L.length) = true := decide_eq_true z0
            have z3 : decide ((L.length : Int) < 12) = false := decide_eq_false (by omega)
            have hX := Has.new wr #[.slice a8 12 c8] 38
            have hR7 := hR6.below ((Below.refl _ _).alloc (Nat.le_refl _) (.cells #[.slice a8 12 c8] 38))
            have hrow7 := own_below hrow ((Below.refl _ _).alloc (Nat.le_refl _) (.cells #[.slice a8 12 c8] 38))
            have hbB7 := hbB6.alloc hbB6.size (.cells #[.slice a8 12 c8] 38)
            have hRl := hR6.len
            clear hR hg hbB hown hrow hR6 hbB6
            go_wp2_with (at_builtin; refine app_list _ rfl (.tmp 65) (.tmp 71) 22 rfl Try.underlying22 hj jz0 jz1 jz2 rfl (by decide) rfl hR7.p rfl (m := 1) (news := [.slice a8 12 c8]) ⟨rfl, .inr ⟨_, rfl, fun j u hu => hX.cell_add (by simpa using hu)⟩⟩ (fun u hu => by simp at hu; subst hu; rfl) (by unfold maxLen; omega) (by omega) hbB7.size ?_)
            intro v' w8 hAp
            have hb8 := hAp.below hR7.p hbB7 hbB7.size
            have hR8 := hR7.step (z := lkZ z) (by rw [HZ2.out]; exact hrow7) hAp
            clear hAp hR7 hrow7 hbB7 hX
            go_wp2
            go_roundw
            case rel => exact ⟨k + 1, _, by omega, by go_num, by rw [HTQ.out]; exact hR8, hb8⟩
            case measure => (simp [intOf]; try omega)
    · obtain rfl : k = p.length := by omega
      rw [List.take_length] at hR
      have hPl : (lkP p).length = p.length := by simp [lkP]
      have hR' : RowsI wr w4.heap.size (lkP p).length (lkP p) u5 R := by rw [hPl]; exact hR
      obtain ⟨a5, c5, rfl, hPg, hc5⟩ := hR'.pg (by omega) (fun z hz => by
        obtain ⟨y, _, rfl⟩ := List.mem_map.1 hz
        have : (lkZ y).length ≤ 12 := by unfold lkZ; rw [List.length_take]; omega
        omega)
      have hfin := hb4.trans (hbB.mono hb4.size)
      have hq5 := hq4.below hbB
      have HS := Lib.hid (endR_size (lkP p) l)
      have H1 := Lib.hid (endR_one (lkP p) l)
      have HC := Lib.hid (fun (he : errR (lkP p) l.length = 0) => lk_calm (picks := l) he)
      have HE := Lib.hid (fun (he : errR (lkP p) l.length ≠ 0) => (by unfold evR; rw [if_neg he] : evR (lkP p) l = []))
      have hrun := run_any (lkP p) l a5 ap c5 cp _ hPg hq5
      clear hR hR' hP4 hq4 hbB hPl hb4 HN
      unfold RunPost at hrun
      generalize endR (lkP p) l = Y at *
      generalize evR (lkP p) l = L at *
      generalize errR (lkP p) l.length = E at *
      generalize lkP p = P at *
      go_wp2_with fail
      refine hrun.mono ?_
      rintro r w6 ⟨a6, c6, ⟨hc6, _⟩, rfl, hL, hk⟩
      have hb6 := hfin.trans (hk.mono hfin.size)
      clear hk hrun hPg hq5 hfin
      by_cases hE : E = 0
      · subst hE
        obtain ⟨e1, e2, e3, e4, e5⟩ := HC.out rfl
        have E1 := Lib.hid e1
        have E2 := Lib.hid e2
        have E3 := Lib.hid e3
        have E4 := Lib.hid e4
        have E5 := Lib.hid e5
        clear e1 e2 e3 e4 e5 HC HE
        go_wp2_with (refine wpList_store_row rfl endT _ _ rfl w6.heap.size Y rfl rfl endT _ ((Has.new w6 (endC PS.zero false false) endT)).out (by rw [HS.out]; rfl) (by rw [HS.out, endC_size]) H1.out ?_
                     generalize hWx : World.setRow _ _ _ = W7
                     have hk7 : Below w6.heap.size w6 W7 := by rw [← hWx]; exact below_setRow ((Below.refl _ _).alloc (Nat.le_refl _) _) (Nat.le_refl _)
                     have hb7 := hb6.trans (hk7.mono hb6.size)
                     have hL7 := hL.below (hk7.mono (Nat.le_refl _))
                     clear hWx hk7 hL hb6)
        refine (all_ok L a6 c6 _ hL7 E1.out).mono ?_
        rintro r w8 ⟨v8, rfl, hown8, hk8⟩
        rw [E2.out] at hown8
        obtain ⟨a8, c8, rfl⟩ : ∃ a c, v8 = .slice a 0 c := by
          rcases hown8.2 with ⟨hv, _⟩ | ⟨g, cap, _, hv, _⟩
          · exact ⟨_, _, hv⟩
          · exact ⟨_, _, hv⟩
        have hb8 := hb7.trans (hk8.mono hb7.size)
        have hL8 := hL7.below (hk8.mono (Nat.le_refl _))
        clear hown8 hk8 hb7 hL7
        have hwa := warns_any L a6 c6 w8 hL8
        unfold WarnsPost at hwa
        rw [E3.out, E1.out] at hwa
        go_wp2_with fail
        refine hwa.mono ?_
        rintro r w9 ⟨a9, c9, rfl, _, _, hk9⟩
        have hb9 := hb8.trans (hk9.mono hb8.size)
        have hL9 := hL8.below (hk9.mono (Nat.le_refl _))
        have hsl := fastSlow_ok L a6 c6 w9 hL9 E1.out
        rw [E4.out] at hsl
        clear hwa hk9 hb8 hL8
        go_wp2_with fail
        refine hsl.mono ?_
        rintro r wA ⟨rfl, hkA⟩
        have hbA := hb9.trans (hkA.mono hb9.size)
        have hLA := hL9.below (hkA.mono (Nat.le_refl _))
        have hfr := fastRun_ok L a6 c6 wA hLA E1.out
        unfold FlagPost at hfr
        rw [E5.out] at hfr
        clear hsl hkA hb9 hL9
        go_wp2_with fail
        refine hfr.mono ?_
        rintro r wB ⟨vB, rfl, hownB, hkB⟩
        obtain ⟨aB, cB, rfl⟩ : ∃ a c, vB = .slice a 0 c := by
          rcases hownB.2 with ⟨hv, _⟩ | ⟨g, cap, _, hv, _⟩
          · exact ⟨_, _, hv⟩
          · exact ⟨_, _, hv⟩
        have hbB := hbA.trans (hkB.mono hbA.size)
        clear hownB hfr hkB hbA hLA
        go_wp2
        go_ret
        exact ⟨rfl, hbB⟩
      · have e1 : (E != 0) = true := bne_iff_ne.2 hE
        have e2 : decide (E = 0) = false := decide_eq_false hE
        have hL0 := HE.out hE
        subst hL0
        clear HC HE hE
        go_wp2_with (refine wpList_store_row rfl endT _ _ rfl w6.heap.size Y rfl rfl endT _ ((Has.new w6 (endC PS.zero false false) endT)).out (by rw [HS.out]; rfl) (by rw [HS.out, endC_size]) H1.out ?_
                     generalize hWx : World.setRow _ _ _ = W7
                     have hk7 : Below w6.heap.size w6 W7 := by rw [← hWx]; exact below_setRow ((Below.refl _ _).alloc (Nat.le_refl _) _) (Nat.le_refl _)
                     have hb7 := hb6.trans (hk7.mono hb6.size)
                     clear hWx hk7 hb6)
        go_ret
        exact ⟨rfl, hb7⟩
/-! The frame of the law TopLocked (where what it reads is small), by program. -/
set_option maxRecDepth 100000 in
theorem topLocked_contract (H : Type) (enc : TypeId × Value → H) (W : World) (base : Nat) (args : Array Value) (ds gs : List (DataW H)) (before : List MemPlace)
    (hval0 : ∀ (j : Nat) t v, Try.f4.params[j]? = some t → args[j]? = some v → Value.okWide Try.prog W .any base t v)
    (hW : DataW.Whole enc Try.prog Try.f4.params.toList Rows.topLockedSpec.vars false W args.toList ds gs before) (hk : Rows.uptoSmall H (ds ++ gs) = true)
    (hsz : (DataW.weightsEach Try.prog (Try.f4.params.toList ++ (Rows.OpenSpec.upto Rows.topLockedSpec).bare.plain.varTypes Try.prog) (ds ++ gs)).all (· ≤ reachBytes) = true) :
    Calls Try.prog 4 args W fun e W' => ∃ v, e = .returned v ∧ Rows.topLockedSpec.post enc Try.prog Try.f4 false true false false W args v W' := by
  have hval : ∀ (j : Nat) t v, Try.f4.params[j]? = some t → args[j]? = some v → Value.okWide Try.prog W .any base t v := hval0
  have hW' := hW
  obtain ⟨p, q, hA0, hV, rfl, hfz, hnd⟩ := hW
  have hA : DataW.TrodAll enc Try.prog W 0 (fun _ => true) true Try.f4.params.toList args.toList ds p := hA0
  rw [Try.params4] at hA hval
  obtain ⟨v0, vs0, d0, ds0, p0, q0, hargs, rfl, rfl, h0, r0⟩ := trodAll_cons hA
  obtain ⟨v1, vs1, d1, ds1, p1, q1, rfl, rfl, rfl, h1, r1⟩ := trodAll_cons r0
  obtain ⟨rfl, rfl, rfl⟩ := trodAll_nil r1
  obtain rfl : args = #[v0, v1] := by cases args; simp_all
  obtain ⟨rfl, rfl⟩ := trodVars_none hV
  have k0 := h0
  have lt0 : ∀ x ∈ p0, x.block < W.heap.size := by obtain ⟨m, hm⟩ := k0; exact DataW.trod_lt m _ _ _ hm
  obtain ⟨a0, z0, c0, rfl, w0⟩ := open_prog (hval 0 22 v0 rfl rfl) h0 (fun n hn => of_decide_eq_true (List.all_eq_true.1 hsz _ (DataW.weights_mem_each (j := 0) rfl rfl n hn)))
  have n0 := prog_small k0 w0.1 hk (by simp)
  have k1 := h1
  have lt1 : ∀ x ∈ p1, x.block < W.heap.size := by obtain ⟨m, hm⟩ := k1; exact DataW.trod_lt m _ _ _ hm
  obtain ⟨a1, z1, c1, rfl, w1⟩ := open_ints (hval 1 23 v1 rfl rfl) h1 (fun els sp hd => Nat.le_trans (Nat.mul_le_mul_right _ (upto_slice hk (by simp) hd)) (of_decide_eq_true (by kernel_rfl)))
  have n1 : z1.length ≤ 1048576 := upto_len Try.underlying23 k1 hk (by simp)
  clear hA0 hval0 hk hsz
  refine (topLocked_walk a0 z0 c0 a1 z1 c1 W w0 n0 w1 n1).mono fun e W' ⟨he, bel⟩ => ?_
  subst he
  exact ⟨_, rfl, _, _, _, [], _, [], hW', trodAll_mk1 (shut_bool Try.underlying4 _), (trodAll_cons_mk (Below.trod frame_laid (by kernel_rfl) (of_decide_eq_true (by kernel_rfl)) k0 bel lt0) (trodAll_cons_mk (Below.trod frame_laid (by kernel_rfl) (of_decide_eq_true (by kernel_rfl)) k1 bel lt1) trodAll_mk0)), rfl, bel.frame _, fun h => by cases h⟩
set_option maxRecDepth 100000 in
theorem topLocked_lifted (os : Os) (started : os.Started) (H : Type) (enc : TypeId × Value → H) (F : Stop.Interp) :
    ReturnsInHanded {} Try.checked os 4 .any ((Rows.OpenSpec.upto Rows.topLockedSpec).pre6 enc Try.prog Try.f4 Rows.topLockedUptoRow.domain false) (((Rows.OpenSpec.upto Rows.topLockedSpec).at F).post enc Try.prog Try.f4 false true false false) := by
  refine returnsInHanded_of_cond_sized (C := Try.checked) (s := Rows.OpenSpec.upto Rows.topLockedSpec) (k := Rows.uptoSmall) rfl frame_own started (by kernel_rfl) Try.func4
    (OpenSpec.witness (enc := enc) (C := Try.checked) (s := Rows.OpenSpec.upto Rows.topLockedSpec) (k := Rows.uptoSmall) rfl false ⟨#[], #[.slice none 0 0, .slice none 0 0], []⟩ 8 (by kernel_rfl) (by kernel_rfl) (by kernel_rfl)
      (x := ([.nil, .nil], [], [])) (by kernel_rfl) rfl (by kernel_rfl)) ?_
  intro W base args ds gs before hval hW _ hk hsz _
  exact topLocked_contract H enc W base args ds gs before hval hW hk hsz

/-- The statement, where what it reads is small. -/
theorem topLocked_holds : Rows.TopLockedUptoSaid :=
  OpenClaim.holds_of_cond 4 Try.f4 rfl rfl rfl rfl rfl rfl rfl ⟨rfl, rfl, rfl, rfl, rfl⟩ rfl rfl rfl rfl rfl (by kernel_rfl) Try.func4 (by kernel_rfl)
    (of_decide_eq_true (by kernel_rfl)) (by unfold Func.isWrapper; first | (rw [if_pos (by decide +kernel)]; kernel_rfl) | (rw [if_neg (by decide +kernel)]; exact ⟨rfl, rfl⟩))
    (fun os started H enc _ F => topLocked_lifted os started H enc F)

end Go.Proofs.Ytoohconipcleiaa

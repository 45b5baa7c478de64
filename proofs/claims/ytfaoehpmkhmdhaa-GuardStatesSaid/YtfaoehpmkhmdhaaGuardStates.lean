/- GuardStates: the state of a guard is determined by the threads and kinds of the accesses: for every trace. -/
import Derived.Test.YtfaoehpmkhmdhaaRows
import Derived.Test.YtfaoehpmkhmdhaaGdI
import Derived.Test.YtfaoehpmkhmdhaaOpenE
namespace Go.Proofs.Ytfaoehpmkhmdhaa
open Go.ChangeShapes Go.WideShapes Go.ChangeAt Go.RowKit

/-- The first thread, whether there are more, whether one of them wrote since. -/
structure SS where
  f : Int
  m : Bool
  w : Bool
def ssStep (x : Int) (s : SS) (e : Ev) : SS :=
  if e.k > 2 ∨ e.o ≠ x then s
  else if s.f < 0 then ⟨e.t, s.m || (e.t != e.t), s.w || ((s.m || (e.t != e.t)) && e.k == 2)⟩
  else ⟨s.f, s.m || (e.t != s.f), s.w || ((s.m || (e.t != s.f)) && e.k == 2)⟩
def ssL (l : List Ev) (x : Int) : Nat → SS
  | 0 => ⟨-1, false, false⟩
  | i + 1 => ssStep x (ssL l x i) (evAt l i)
/-- What a guard knows, by that. -/
def SSok (s : SS) (g : GV) : Prop :=
  (g.st = 0 ∧ s = ⟨-1, false, false⟩ ∧ g.th = 0) ∨ (0 ≤ g.th ∧ ((g.st = 1 ∧ s = ⟨g.th, false, false⟩) ∨ (g.st = 2 ∧ s = ⟨g.th, true, false⟩) ∨ (g.st = 3 ∧ s = ⟨g.th, true, true⟩)))
theorem acc_iff {e : Ev} (h : isEv e = true) : isAcc e = true ↔ ¬ e.k > 2 := by
  obtain ⟨_, _, o0, oM⟩ := isEv_iff.1 h
  unfold isAcc
  simp only [Bool.or_eq_true, beq_iff_eq]
  rcases manyOf_pos (k := e.k) (by omega) with h | h | h | h | h | h | h | h <;> omega
theorem ss_step {s : SS} {g : GV} {e : Ev} {L : Nat} {x : Int} (h : SSok s g) (he : isEv e = true) (ha : ¬ e.k > 2) (hx : e.o = x) : SSok (ssStep x s e) (gAcc g e L) := by
  obtain ⟨t0, _, _, _⟩ := isEv_iff.1 he
  unfold ssStep
  rw [if_neg (fun h1 => h1.elim ha (fun h2 => h2 hx))]
  unfold gAcc
  rcases h with ⟨h0, rfl, h1⟩ | ⟨ht, ⟨h0, rfl⟩ | ⟨h0, rfl⟩ | ⟨h0, rfl⟩⟩
  · rw [if_pos (by show (-1 : Int) < 0; decide), if_pos h0]
    exact .inr ⟨t0, .inl ⟨rfl, by simp⟩⟩
  · rw [if_neg (by show ¬ g.th < 0; omega), if_neg (by omega)]
    by_cases ht2 : g.th = e.t
    · rw [if_pos ⟨h0, ht2⟩]
      exact .inr ⟨ht, .inl ⟨h0, by simp [ht2]⟩⟩
    · have hne : (e.t != g.th) = true := by simp; omega
      rw [if_neg (fun h => ht2 h.2)]
      by_cases hk : e.k = 2
      · rw [if_pos ⟨h0, hk⟩]
        exact .inr ⟨ht, .inr (.inr ⟨rfl, by simp [hne, hk]⟩)⟩
      · rw [if_neg (fun h => hk h.2), if_pos h0]
        exact .inr ⟨ht, .inr (.inl ⟨rfl, by simp [hne, hk]⟩)⟩
  · rw [if_neg (by show ¬ g.th < 0; omega), if_neg (by omega), if_neg (by omega), if_neg (by omega), if_neg (by omega)]
    by_cases hk : e.k = 2
    · rw [if_pos hk]
      exact .inr ⟨ht, .inr (.inr ⟨rfl, by simp [hk]⟩)⟩
    · rw [if_neg hk]
      exact .inr ⟨ht, .inr (.inl ⟨h0, by simp [hk]⟩)⟩
  · rw [if_neg (by show ¬ g.th < 0; omega), if_neg (by omega), if_neg (by omega), if_neg (by omega), if_neg (by omega)]
    refine .inr ⟨ht, .inr (.inr ⟨?_, by simp⟩)⟩
    show (if e.k = 2 then (3 : Int) else g.st) = 3
    split
    · rfl
    · exact h0
theorem ss_ok {l : List Ev} (hp : (played l).2.2 = 0) (x : Nat) : ∀ i, i ≤ l.length → SSok (ssL l x i) ((gdL l i).G x)
  | 0, _ => .inl ⟨rfl, rfl, rfl⟩
  | i + 1, hi => by
    have ih := ss_ok hp x i (by omega)
    have hE := isEv_iff.2 (ev_at hp (show i < l.length by omega))
    have ho := (isEv_iff.1 hE).2.2.1
    show SSok (ssStep x (ssL l x i) (evAt l i)) ((gStep (gdL l i) i (evAt l i)).G x)
    unfold gStep
    by_cases ha : isAcc (evAt l i) = true
    · rw [if_pos ha]
      show SSok _ (upG (gdL l i).G (evAt l i).o.toNat (gAcc ((gdL l i).G (evAt l i).o.toNat) (evAt l i) (lkAt l i)) x)
      by_cases hx : (evAt l i).o = (x : Int)
      · have hxn : (evAt l i).o.toNat = x := by omega
        rw [hxn]
        unfold upG
        rw [if_pos rfl]
        exact ss_step ih hE ((acc_iff hE).1 ha) hx
      · unfold upG
        rw [if_neg (by omega)]
        unfold ssStep
        rw [if_pos (.inr hx)]
        exact ih
    · rw [if_neg ha]
      unfold ssStep
      rw [if_pos (.inl (by by_cases h : (evAt l i).k > 2; exact h; exact absurd ((acc_iff hE).2 h) ha))]
      exact ih

set_option maxRecDepth 100000 in
set_option maxHeartbeats 8000000 in
theorem guardStates_walk (a : Option Addr) (z : List Ev) (c : Nat) (w : World) (hf : EvS w a z ∧ z.length ≤ c ∧ z.length * 24 ≤ 140737488351232 ∧ ∀ e ∈ z, I64 e.k ∧ I64 e.t ∧ I64 e.o) :
    Calls Try.prog 6 #[.slice a z.length c] w fun e w' => e = .returned (.bool true) ∧ Below w.heap.size w w' := by
  have h := hf.1
  clear hf
  have hbig := h.big
  obtain ⟨Z, hZ⟩ : ∃ Z, gsC (gEnd z) = Z := ⟨_, rfl⟩
  have hZs : Z.size = 24 := by rw [← hZ]; exact gsC_size _
  have hZ1 : Z.all (·.oneCell') = true := by rw [← hZ]; exact gsC_one _
  have hun := Try.underlying44
  have hsz : (Try.prog.info? gsT).map (·.size) = some Z.size := by rw [hZs]; kernel_rfl
  have HZ := Lib.hid hZ
  clear hZ
  go_enter Try.func6, Try.ntmps6
  go_wp2_with fail
  refine (guarded_any _).mono ?_
  rintro r w0 ⟨rfl, hb⟩
  go_wp2_with fail
  refine (guards_any z a c _ (h.below hb)).mono ?_
  rintro r w1 ⟨rfl, hk⟩
  rw [HZ.out]
  have hb1 := hb.trans (hk.mono hb.size)
  clear hk hb
  generalize hE : (played z).2.2 = E at *
  by_cases hp : E = 0
  · subst hp
    have hge : gEnd z = (gdL z z.length).G := by unfold gEnd; rw [if_pos hE]
    have HGE := Lib.hid hge
    clear hge
    have HE := Lib.hid hE
    clear hE
    go_wp2_with (
      (refine wpList_store_row rfl gsT _ _ rfl w1.heap.size Z rfl rfl gsT _ (Has.new w1 (gsC fun _ => gZero) gsT).out hsz (by rw [hZs]; exact gsC_size _) hZ1 ?_
       generalize hW2 : World.setRow _ w1.heap.size Z = W2
       have hN : Has W2 w1.heap.size Z gsT := by rw [← hW2]; exact (Has.new w1 (gsC fun _ => gZero) gsT).setRow
       have hb2 : Below w.heap.size w W2 := by rw [← hW2]; exact below_setRow (hb1.alloc hb1.size (.cells (gsC fun _ => gZero) gsT)) hb1.size Z
       clear hW2))
    have hGs := hb1.size
    generalize w1.heap.size = G at *
    go_loopw [24] (fun p wr => ∃ x : Nat, x ≤ 8 ∧ p = .int .i64 x ∧ Has wr G Z gsT ∧ Below w.heap.size w wr) (fun p _ => 8 - (intOf p).toNat)
    case atStart => exact ⟨0, Nat.zero_le _, rfl, hN, hb2⟩
    case round =>
      clear hN hb2
      obtain ⟨x, hx, rfl, hN, hb⟩ := hrel
      by_cases hxlt : x < 8
      · have x0 : (0 : Int) ≤ x := by omega
        have x1 : (x : Int) < 8 := by omega
        go_wp2
        go_loopw [6, 7, 8, 29] (fun f m v i wi => ∃ k : Nat, k ≤ z.length ∧ i = .int .i64 k ∧ f = .int .i64 (ssL z x k).f ∧ m = .bool (ssL z x k).m ∧ v = .bool (ssL z x k).w ∧ Has wi G Z gsT ∧ Below w.heap.size w wi) (fun _ _ _ i _ => z.length - (intOf i).toNat)
        case atStart => exact ⟨0, Nat.zero_le _, rfl, rfl, rfl, rfl, hN, hb⟩
        case round =>
          clear hN hb
          obtain ⟨k, hk, rfl, rfl, rfl, rfl, hN, hb⟩ := hrel
          by_cases hkl : k < z.length
          · obtain ⟨b, o, rfl, e0, e1, e2⟩ := (h.below hb).at hkl
            have hok := ss_ok HE.out x k (by omega)
            have hEv := isEv_iff.2 (ev_at HE.out hkl)
            have HST := Lib.hid (show ssL z x (k + 1) = ssStep x (ssL z x k) (evAt z k) from rfl)
            have hev := evAt_lt hkl
            rw [← hev] at e0 e1 e2
            clear hev
            generalize evAt z k = y at *
            obtain ⟨t0, t6, _, _⟩ := isEv_iff.1 hEv
            obtain ⟨yk, yt, yo⟩ := y
            simp only at e0 e1 e2 t0 t6
            have hGl := hN.lt
            have hN2 := hN.alloc (.cells (evC ⟨yk, yt, yo⟩) 39)
            have hb2 := hb.alloc hb.size (.cells (evC ⟨yk, yt, yo⟩) 39)
            have i0 : (0 : Int) ≤ k := by omega
            have i1 : (k : Int) < z.length := by omega
            clear hN hb hEv
            by_cases q1 : yk > 2
            · have r1 : decide (yk > 2) = true := decide_eq_true q1
              have r2 : decide (2 < yk) = true := decide_eq_true q1
              have HS := Lib.hid (show ssL z x (k + 1) = ssL z x k by rw [HST.out]; unfold ssStep; rw [if_pos (.inl q1)])
              clear HST q1 hok
              generalize ssL z x k = S at *
              go_wp2
              go_roundw
              case rel => exact ⟨k + 1, by omega, by go_num, by rw [HS.out], by rw [HS.out], by rw [HS.out], hN2, hb2⟩
              case measure => (simp [intOf]; try omega)
            · have r1 : decide (yk > 2) = false := decide_eq_false q1
              have r2 : decide (2 < yk) = false := decide_eq_false q1
              by_cases q2 : yo = x
              · subst q2
                generalize ssL z x k = S at *
                rcases hok with ⟨_, rfl, _⟩ | ⟨ht, ⟨_, rfl⟩ | ⟨_, rfl⟩ | ⟨_, rfl⟩⟩
                · have HS := Lib.hid (show ssL z x (k + 1) = ⟨yt, false, false⟩ by rw [HST.out]; unfold ssStep; rw [if_neg (fun h1 => h1.elim q1 (fun h2 => h2 rfl)), if_pos (by show (-1 : Int) < 0; decide)]; simp)
                  clear HST q1
                  go_wp2
                  go_roundw
                  case rel => exact ⟨k + 1, by omega, by go_num, by rw [HS.out], by rw [HS.out], by rw [HS.out], hN2, hb2⟩
                  case measure => (simp [intOf]; try omega)
                · generalize ((gdL z k).G x).th = f at *
                  have rf : decide (f < 0) = false := decide_eq_false (by omega)
                  by_cases q3 : yt = f
                  · subst q3
                    have HS := Lib.hid (show ssL z x (k + 1) = ⟨yt, false, false⟩ by rw [HST.out]; unfold ssStep; rw [if_neg (fun h1 => h1.elim q1 (fun h2 => h2 rfl)), if_neg (by show ¬ yt < 0; omega)]; simp)
                    clear HST q1
                    go_wp2
                    go_roundw
                    case rel => exact ⟨k + 1, by omega, by go_num, by rw [HS.out], by rw [HS.out], by rw [HS.out], hN2, hb2⟩
                    case measure => (simp [intOf]; try omega)
                  · have rt : (yt != f) = true := by simp [q3]
                    by_cases q4 : yk = 2
                    · subst q4
                      have HS := Lib.hid (show ssL z x (k + 1) = ⟨f, true, true⟩ by rw [HST.out]; unfold ssStep; rw [if_neg (fun h1 => h1.elim q1 (fun h2 => h2 rfl)), if_neg (by show ¬ f < 0; omega)]; simp [q3])
                      clear HST q1 q3
                      go_wp2
                      go_roundw
                      case rel => exact ⟨k + 1, by omega, by go_num, by rw [HS.out], by rw [HS.out], by rw [HS.out], hN2, hb2⟩
                      case measure => (simp [intOf]; try omega)
                    · have rk : (yk == 2) = false := beq_eq_false_iff_ne.2 q4
                      have HS := Lib.hid (show ssL z x (k + 1) = ⟨f, true, false⟩ by rw [HST.out]; unfold ssStep; rw [if_neg (fun h1 => h1.elim q1 (fun h2 => h2 rfl)), if_neg (by show ¬ f < 0; omega)]; simp [q3, q4])
                      clear HST q1 q3 q4
                      go_wp2
                      go_roundw
                      case rel => exact ⟨k + 1, by omega, by go_num, by rw [HS.out], by rw [HS.out], by rw [HS.out], hN2, hb2⟩
                      case measure => (simp [intOf]; try omega)
                · generalize ((gdL z k).G x).th = f at *
                  have rf : decide (f < 0) = false := decide_eq_false (by omega)
                  by_cases q4 : yk = 2
                  · subst q4
                    have HS := Lib.hid (show ssL z x (k + 1) = ⟨f, true, true⟩ by rw [HST.out]; unfold ssStep; rw [if_neg (fun h1 => h1.elim q1 (fun h2 => h2 rfl)), if_neg (by show ¬ f < 0; omega)]; simp)
                    clear HST q1
                    go_wp2
                    go_roundw
                    case rel => exact ⟨k + 1, by omega, by go_num, by rw [HS.out], by rw [HS.out], by rw [HS.out], hN2, hb2⟩
                    case measure => (simp [intOf]; try omega)
                  · have rk : (yk == 2) = false := beq_eq_false_iff_ne.2 q4
                    have HS := Lib.hid (show ssL z x (k + 1) = ⟨f, true, false⟩ by rw [HST.out]; unfold ssStep; rw [if_neg (fun h1 => h1.elim q1 (fun h2 => h2 rfl)), if_neg (by show ¬ f < 0; omega)]; simp [q4])
                    clear HST q1 q4
                    go_wp2
                    go_roundw
                    case rel => exact ⟨k + 1, by omega, by go_num, by rw [HS.out], by rw [HS.out], by rw [HS.out], hN2, hb2⟩
                    case measure => (simp [intOf]; try omega)
                · generalize ((gdL z k).G x).th = f at *
                  have rf : decide (f < 0) = false := decide_eq_false (by omega)
                  have HS := Lib.hid (show ssL z x (k + 1) = ⟨f, true, true⟩ by rw [HST.out]; unfold ssStep; rw [if_neg (fun h1 => h1.elim q1 (fun h2 => h2 rfl)), if_neg (by show ¬ f < 0; omega)]; simp)
                  clear HST q1
                  go_wp2
                  go_roundw
                  case rel => exact ⟨k + 1, by omega, by go_num, by rw [HS.out], by rw [HS.out], by rw [HS.out], hN2, hb2⟩
                  case measure => (simp [intOf]; try omega)
              · have rx : (yo != (x : Int)) = true := by simp [q2]
                have HS := Lib.hid (show ssL z x (k + 1) = ssL z x k by rw [HST.out]; unfold ssStep; rw [if_pos (.inr q2)])
                clear HST q1 q2 hok
                generalize ssL z x k = S at *
                go_wp2
                go_roundw
                case rel => exact ⟨k + 1, by omega, by go_num, by rw [HS.out], by rw [HS.out], by rw [HS.out], hN2, hb2⟩
                case measure => (simp [intOf]; try omega)
          · obtain rfl : k = z.length := by omega
            have hok := ss_ok HE.out x z.length (Nat.le_refl _)
            have hN3 := hN.to HZ.out.symm
            have c0 := hN3.addI (show x * 3 < 24 by omega)
            have c1 := hN3.addI (show x * 3 + 1 < 24 by omega)
            rw [gI_0, HGE.out] at c0
            rw [gI_1, HGE.out] at c1
            clear hN3
            generalize (gdL z z.length).G x = g at *
            generalize ssL z x z.length = S at *
            rcases hok with ⟨h0, rfl, h1⟩ | ⟨ht, ⟨h0, rfl⟩ | ⟨h0, rfl⟩ | ⟨h0, rfl⟩⟩
            all_goals (rw [h0] at c0)
            · rw [h1] at c1
              go_wp2
              go_roundw
              case rel => exact ⟨x + 1, by omega, by go_num, hN, hb⟩
              case measure => (simp [intOf]; try omega)
            all_goals
              generalize g.th = f at *
              clear h0
              have rf : decide (f < 0) = false := decide_eq_false (by omega)
              have rg : decide (f ≥ 0) = true := decide_eq_true (by omega)
              have rh : decide (0 ≤ f) = true := decide_eq_true (by omega)
              rcases Int.lt_or_eq_of_le ht with hlt | rfl
              · have rl : decide (f ≤ 0) = false := decide_eq_false (by omega)
                go_wp2
                go_roundw
                case rel => exact ⟨x + 1, by omega, by go_num, hN, hb⟩
                case measure => (simp [intOf]; try omega)
              · go_wp2
                go_roundw
                case rel => exact ⟨x + 1, by omega, by go_num, hN, hb⟩
                case measure => (simp [intOf]; try omega)
      · obtain rfl : x = 8 := by omega
        go_wp2
        go_ret
        exact ⟨rfl, hb⟩
  · have r1 : (E == 0) = false := beq_eq_false_iff_ne.2 hp
    have hmay : mayB z = false := by
      cases hm : mayB z with
      | false => rfl
      | true => exact absurd (show (played z).2.2 = 0 by simpa [mayB] using hm) (by rw [hE]; exact hp)
    go_wp2_with (
      (refine wpList_store_row rfl gsT _ _ rfl w1.heap.size Z rfl rfl gsT _ (Has.new w1 (gsC fun _ => gZero) gsT).out hsz (by rw [hZs]; exact gsC_size _) hZ1 ?_
       generalize hW2 : World.setRow _ w1.heap.size Z = W2
       have hb2 : Below w.heap.size w W2 := by rw [← hW2]; exact below_setRow (hb1.alloc hb1.size (.cells (gsC fun _ => gZero) gsT)) hb1.size Z
       clear hW2))
    refine (may_any z a c _ (h.below hb2)).mono ?_
    rintro r w3 ⟨rfl, hk⟩
    rw [hmay]
    go_wp2
    go_ret
    exact ⟨rfl, hb2.trans (hk.mono hb2.size)⟩
/-! The frame of the law GuardStates, by program. -/
set_option maxRecDepth 100000 in
theorem guardStates_lifted (os : Os) (started : os.Started) (H : Type) (enc : TypeId × Value → H) :
    ReturnsInHanded {} Try.checked os 6 .any (Rows.guardStatesSpec.pre6 enc Try.prog Try.f6 Rows.guardStatesRow.domain false) (Rows.guardStatesSpec.post enc Try.prog Try.f6 false true false false) := by
  refine returnsInHanded_of_change_shaped (C := Try.checked) frame_own started (by kernel_rfl) Try.func6
    (ChangeSpec.witness6 (enc := enc) (C := Try.checked) false ⟨#[], #[.slice none 0 0], []⟩ 8 (by kernel_rfl) (by kernel_rfl) (by kernel_rfl) (by kernel_rfl)) ?_
  intro W base args ds gs before hval0 hW hcnd hsz hshaped hroom
  clear hcnd hshaped
  have hval : ∀ (j : Nat) t v, Try.f6.params[j]? = some t → args[j]? = some v → Value.okWide Try.prog W .any base t v := hval0
  have hW' := hW
  obtain ⟨p, q, hA0, hV, rfl, hfz, hnd⟩ := hW
  have hA : DataW.TrodAll enc Try.prog W 0 (fun _ => true) true Try.f6.params.toList args.toList ds p := hA0
  rw [Try.params6] at hA hval
  obtain ⟨v0, vs0, d0, ds0, p0, q0, hargs, rfl, rfl, h0, r0⟩ := trodAll_cons hA
  obtain ⟨rfl, rfl, rfl⟩ := trodAll_nil r0
  obtain rfl : args = #[v0] := by cases args; simp_all
  obtain ⟨rfl, rfl⟩ := trodVars_none hV
  have k0 := h0
  have lt0 : ∀ x ∈ p0, x.block < W.heap.size := by obtain ⟨m, hm⟩ := k0; exact DataW.trod_lt m _ _ _ hm
  obtain ⟨a0, z0, c0, rfl, w0⟩ := open_evs (hval 0 28 v0 rfl rfl) h0 (fun els sp hd => sized_slice hsz (j := 0) rfl (by rw [hd]; rfl) Try.underlying28)
  clear hA0 hval0
  refine (guardStates_walk a0 z0 c0 W w0).mono fun e W' ⟨he, bel⟩ => ?_
  subst he
  exact ⟨_, rfl, _, _, _, [], _, [], hW', trodAll_mk1 (shut_bool Try.underlying4 _), (trodAll_cons_mk (Below.trod frame_laid (by kernel_rfl) (of_decide_eq_true (by kernel_rfl)) k0 bel lt0) trodAll_mk0), rfl, bel.frame _, fun h => by cases h⟩

theorem guardStates_over : Rows.guardStatesRow.holds Try.pinned (OpenSpec.ofChange Rows.guardStatesSpec) :=
  OpenClaim.holds_of_wide 6 Try.f6 rfl rfl rfl rfl rfl rfl rfl ⟨rfl, rfl, rfl, rfl, rfl⟩ rfl rfl rfl rfl rfl (by kernel_rfl) Try.func6 (by kernel_rfl)
    (of_decide_eq_true (by kernel_rfl)) (by unfold Func.isWrapper; first | (rw [if_pos (by decide +kernel)]; kernel_rfl) | (rw [if_neg (by decide +kernel)]; exact ⟨rfl, rfl⟩))
    (fun os started H enc _ => guardStates_lifted os started H enc)

/-- The statement. -/
theorem guardStates_holds : Rows.GuardStatesSaid := guardStates_over

end Go.Proofs.Ytfaoehpmkhmdhaa

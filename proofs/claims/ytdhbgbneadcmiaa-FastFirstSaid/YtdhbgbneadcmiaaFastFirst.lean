/- FastFirst: the first race of each variable is flagged at its place, as with vector clocks: for every trace. -/
import Derived.Test.YtdhbgbneadcmiaaRows
import Derived.Test.YtdhbgbneadcmiaaMF
import Derived.Test.YtdhbgbneadcmiaaFir
import Derived.Test.YtdhbgbneadcmiaaFrS
import Derived.Test.YtdhbgbneadcmiaaQui
import Derived.Test.YtdhbgbneadcmiaaOpenE
namespace Go.Proofs.Ytdhbgbneadcmiaa
open Go.ChangeShapes Go.WideShapes Go.ChangeAt Go.RowKit

/-- The first flag of a variable (none: all 0). -/
def fstF (L : List Ev) (x : Int) : Ev := (L.find? fun f => f.t == x).getD ⟨0, 0, 0⟩
theorem fst_cons (y : Ev) (L : List Ev) (x : Int) : fstF (y :: L) x = if y.t = x then y else fstF L x := by
  unfold fstF
  by_cases c : y.t = x
  · rw [if_pos c, List.find?_cons_of_pos (by simpa using c)]; rfl
  · rw [if_neg c, List.find?_cons_of_neg (by simpa using c)]
theorem find_snoc {p : Ev → Bool} {L : List Ev} {y : Ev} : (L ++ [y]).find? p = (L.find? p).or (if p y then some y else none) := by
  rw [List.find?_append]
  congr 1
  by_cases c : p y = true
  · rw [if_pos c, List.find?_cons_of_pos c]
  · rw [if_neg c, List.find?_cons_of_neg c]; rfl
theorem flags_same {l : List Ev} (h : (played l).2.2 = 0) (x : Int) : ∀ n, n ≤ l.length → (qFlags l n).find? (fun f => f.t == x) = (fFlags l n).find? (fun f => f.t == x)
  | 0, _ => rfl
  | n + 1, hn => by
    have ih := flags_same h x n (by omega)
    cases hq : (qFlags l n).find? (fun f => f.t == x) with
    | some y =>
      rw [hq] at ih
      simp only [qFlags, fFlags]
      have e1 : ∀ L : List Ev, ((qFlags l n) ++ L).find? (fun f => f.t == x) = some y := fun L => by rw [List.find?_append, hq]; rfl
      have e2 : ∀ L : List Ev, ((fFlags l n) ++ L).find? (fun f => f.t == x) = some y := fun L => by rw [List.find?_append, ← ih]; rfl
      split <;> split
      · rw [hq, ← ih]
      · rw [hq, e2]
      · rw [e1, ← ih]
      · rw [e1, e2]
    | none =>
      rw [hq] at ih
      have hno : ∀ i, i < n → (evAt l i).o = x → qKind l i = 0 := by
        intro i hi ho
        by_cases c : qKind l i = 0
        · exact c
        · have := List.find?_eq_none.1 hq _ (mem_qFlags.2 ⟨i, hi, c, rfl⟩)
          simp [ho] at this
      simp only [qFlags, fFlags]
      by_cases ho : (evAt l n).o = x
      · have hk := kinds_same h (j := n) (by omega) (fun i hi hio => hno i hi (by omega))
        rw [hk]
        split
        · rw [hq, ← ih]
        · rw [find_snoc, find_snoc, hq, ← ih]
      · have hx : ((evAt l n).o == x) = false := by simpa using ho
        split <;> split
        · rw [hq, ← ih]
        · rw [find_snoc, hq, ← ih]; simp [hx]
        · rw [find_snoc, hq, ← ih]; simp [hx]
        · rw [find_snoc, find_snoc, hq, ← ih]; simp [hx]
theorem firV_flags {l : List Ev} (h : (played l).2.2 = 0) (x : Int) : firV l x = match (fFlags l l.length).find? (fun f => f.t == x) with | none => (0, false) | some y => (y.k, true) := by
  unfold firV
  rw [sec_full h, List.find?_map]
  have e : ∀ L : List Ev, (∀ f ∈ L, f ∈ fFlags l l.length) → L.find? (atV l x ∘ Ev.k) = L.find? (fun f => f.t == x) := by
    intro L
    induction L with
    | nil => intro _; rfl
    | cons f L ih =>
      intro hL
      obtain ⟨i, hi, _, hf⟩ := mem_fFlags.1 (hL f (List.mem_cons_self ..))
      have hp : (atV l x ∘ Ev.k) f = (f.t == x) := by
        rw [hf]
        simp [atV]
      rw [List.find?_cons, List.find?_cons, hp]
      cases (f.t == x)
      · exact ih fun f hf => hL f (List.mem_cons_of_mem _ hf)
      · rfl
  rw [e _ fun _ h => h]
  cases (fFlags l l.length).find? (fun f => f.t == x) <;> rfl
theorem fKind_pos {l : List Ev} {i : Nat} (h : fKind l i ≠ 0) : 0 < fKind l i := by
  unfold fKind at h ⊢
  repeat' split at h
  all_goals first | exact absurd rfl h | (repeat' split) <;> first | decide | contradiction
structure Firs (l : List Ev) (x : Int) : Prop where
  same : fstF (qFlags l l.length) x = fstF (fFlags l l.length) x
  is : (firV l x).2 = decide ((fstF (qFlags l l.length) x).o > 0)
  at_ : (firV l x).2 = true → (fstF (qFlags l l.length) x).k = (firV l x).1
theorem firs_of {l : List Ev} (h : (played l).2.2 = 0) (x : Int) : Firs l x := by
  have h1 := flags_same h x l.length (Nat.le_refl _)
  have h2 := firV_flags h x
  have h3 : ∀ y, (fFlags l l.length).find? (fun f => f.t == x) = some y → 0 < y.o := by
    intro y hy
    obtain ⟨i, _, hk, rfl⟩ := mem_fFlags.1 (List.mem_of_find?_eq_some hy)
    exact fKind_pos hk
  refine ⟨?_, ?_, ?_⟩
  · unfold fstF; rw [h1]
  · unfold fstF
    rw [h1, h2]
    cases hf : (fFlags l l.length).find? (fun f => f.t == x) with
    | none => rfl
    | some y => have := h3 y hf; simp [this]
  · unfold fstF
    rw [h1, h2]
    cases hf : (fFlags l l.length).find? (fun f => f.t == x) with
    | none => intro e; cases e
    | some y => intro _; rfl
set_option maxRecDepth 100000 in
set_option maxHeartbeats 2000000 in
theorem fstClo_any (L : List Ev) (x : Int) (n : Nat) (hn : L.length = n) (a : Option Addr) (c : Nat) (w : World) (h : EvS w a L) :
    Calls Try.prog 27 #[.slice a n c, .int .i64 x] w fun r w' => r = .returned (evV (fstF L x)) ∧ Below w.heap.size w w' := by
  subst hn
  have hbig := h.big
  have hN := Has.new w (evC ⟨0, 0, 0⟩) 51
  have hb0 := (Below.refl w.heap.size w).alloc (Nat.le_refl _) (.cells (evC ⟨0, 0, 0⟩) 51)
  go_enter Try.func27, Try.ntmps27
  go_wp2
  go_loopw [9] (fun i wr => ∃ k : Nat, k ≤ L.length ∧ i = .int .i64 k ∧ Hid (fstF L x = fstF (L.drop k) x) ∧ Has wr w.heap.size (evC ⟨0, 0, 0⟩) 51 ∧ Below w.heap.size w wr) (fun i _ => L.length - (intOf i).toNat)
  case atStart => exact ⟨0, Nat.zero_le _, rfl, Lib.hid rfl, hN, hb0⟩
  case round =>
    clear hN hb0
    obtain ⟨k, hk, rfl, HC, hN, hb⟩ := hrel
    by_cases hlt : k < L.length
    · obtain ⟨g, o, rfl, d0, d1, d2⟩ := (h.below hb).at hlt
      have hd : L.drop k = L[k] :: L.drop (k + 1) := List.drop_eq_getElem_cons hlt
      have hc := HC.out
      rw [hd, fst_cons] at hc
      generalize L[k] = y at *
      have HC2 := Lib.hid hc
      have hY := Has.new wr (evC y) 51
      have hb2 := hb.alloc hb.size (.cells (evC y) 51)
      have hN2 := hN.alloc (.cells (evC y) 51)
      have k0 : (0 : Int) ≤ k := by omega
      have k1 : (k : Int) < L.length := by omega
      have hne : w.heap.size < wr.heap.size := hN.lt
      clear hc hd HC hb hN
      go_upto_region 4 with fail
      clear d0 d1 d2
      generalize wr.alloc (.cells (evC y) 51) = w3 at *
      obtain ⟨x0, x1, x2⟩ : w3.cell? ⟨wr.heap.size, 0, none⟩ = some (.int .i64 y.k) ∧ w3.cell? ⟨wr.heap.size, 1, none⟩ = some (.int .i64 y.t) ∧ w3.cell? ⟨wr.heap.size, 2, none⟩ = some (.int .i64 y.o) := ⟨hY.cell rfl, hY.cell rfl, hY.cell rfl⟩
      by_cases hy : y.t = x
      · have hq : (y.t == x) = true := by simpa using hy
        have HQ := Lib.hid (show fstF L x = y by rw [HC2.out, if_pos hy])
        obtain ⟨z0, z1, z2⟩ : w3.cell? ⟨w.heap.size, 0, none⟩ = some (.int .i64 0) ∧ w3.cell? ⟨w.heap.size, 1, none⟩ = some (.int .i64 0) ∧ w3.cell? ⟨w.heap.size, 2, none⟩ = some (.int .i64 0) := ⟨hN2.cell rfl, hN2.cell rfl, hN2.cell rfl⟩
        obtain ⟨f0, f1, f2⟩ : w3.frozen? ⟨w.heap.size, 0, none⟩ = false ∧ w3.frozen? ⟨w.heap.size, 1, none⟩ = false ∧ w3.frozen? ⟨w.heap.size, 2, none⟩ = false := ⟨hN2.free _, hN2.free _, hN2.free _⟩
        clear hy HC2
        go_wp2
        clear x0 x1 x2 z0 z1 z2 f0 f1 f2
        refine end_has (b := w.heap.size) (B := w.heap.size) (w := w) (cs := evC y) (t := 51) ?_ ?_ ?_
        · exact (((hN2.setCell _ _).setCell _ _).setCell _ _).to (by simp)
        · exact ((hb2.setCell (by simp) _).setCell (by simp) _).setCell (by simp) _
        intro W hW hB
        obtain ⟨c0, c1, c2⟩ : W.cell? ⟨w.heap.size, 0, none⟩ = some (.int .i64 y.k) ∧ W.cell? ⟨w.heap.size, 1, none⟩ = some (.int .i64 y.t) ∧ W.cell? ⟨w.heap.size, 2, none⟩ = some (.int .i64 y.o) := ⟨hW.cell rfl, hW.cell rfl, hW.cell rfl⟩
        exact bodyPost_ret (v := evV y) (by simp [results, Try.results27, go_sem, c0, c1, c2]) rfl ⟨by rw [HQ.out], hB⟩
      · have hq : (y.t == x) = false := by simpa using hy
        have HQ := Lib.hid (show fstF L x = fstF (L.drop (k + 1)) x by rw [HC2.out, if_neg hy])
        clear hy HC2
        go_wp2
        go_roundw
        case rel => exact ⟨k + 1, by omega, by go_num, HQ, hN2, hb2⟩
        case measure => (simp [intOf]; try omega)
    · have HQ := Lib.hid (show fstF L x = ⟨0, 0, 0⟩ by rw [HC.out, List.drop_eq_nil_of_le (by omega)]; rfl)
      obtain ⟨z0, z1, z2⟩ : wr.cell? ⟨w.heap.size, 0, none⟩ = some (.int .i64 0) ∧ wr.cell? ⟨w.heap.size, 1, none⟩ = some (.int .i64 0) ∧ wr.cell? ⟨w.heap.size, 2, none⟩ = some (.int .i64 0) := ⟨hN.cell rfl, hN.cell rfl, hN.cell rfl⟩
      obtain ⟨f0, f1, f2⟩ : wr.frozen? ⟨w.heap.size, 0, none⟩ = false ∧ wr.frozen? ⟨w.heap.size, 1, none⟩ = false ∧ wr.frozen? ⟨w.heap.size, 2, none⟩ = false := ⟨hN.free _, hN.free _, hN.free _⟩
      clear HC
      go_wp2
      clear z0 z1 z2 f0 f1 f2
      refine end_has (b := w.heap.size) (B := w.heap.size) (w := w) (cs := evC ⟨0, 0, 0⟩) (t := 51) ?_ ?_ ?_
      · exact (((hN.setCell _ _).setCell _ _).setCell _ _).to (by simp)
      · exact ((hb.setCell (by simp) _).setCell (by simp) _).setCell (by simp) _
      intro W hW hB
      obtain ⟨c0, c1, c2⟩ : W.cell? ⟨w.heap.size, 0, none⟩ = some (.int .i64 0) ∧ W.cell? ⟨w.heap.size, 1, none⟩ = some (.int .i64 0) ∧ W.cell? ⟨w.heap.size, 2, none⟩ = some (.int .i64 0) := ⟨hW.cell rfl, hW.cell rfl, hW.cell rfl⟩
      exact bodyPost_ret (v := evV ⟨0, 0, 0⟩) (by simp [results, Try.results27, go_sem, c0, c1, c2]) rfl ⟨by rw [HQ.out], hB⟩
set_option maxRecDepth 100000 in
set_option maxHeartbeats 4000000 in
theorem fastFirst_ok (a : Option Addr) (z : List Ev) (c : Nat) (w : World) (h : EvS w a z) (he : (played z).2.2 = 0) :
    Calls Try.prog 10 #[.slice a z.length c] w fun e w' => e = .returned (.bool true) ∧ Below w.heap.size w w' := by
  have hl80 := (played_evs he).1
  have hbig := h.big
  have hfl := fFlags_len z z.length
  have hql := qFlags_len z z.length
  have HFS := Lib.hid fun x => firs_of he x
  have HA := Lib.hid fun W (hW : EvS W a z) => fastRun_ok z a c W hW he
  have HB := Lib.hid fun W (hW : EvS W a z) => fullRun_ok z a c W hW he
  have HF := Lib.hid fun (x : Nat) (hx : x < 8) W (hW : EvS W a z) => first_ok z z.length x rfl a c W hW he hx
  have HNE := Lib.hid neq_fl
  have HS := Lib.hid fun x : Int => (⟨(HFS.out x).same, (HFS.out x).is, (HFS.out x).at_⟩ : _ ∧ _ ∧ _)
  clear he HFS
  generalize fFlags z z.length = B at *
  generalize qFlags z z.length = A at *
  go_enter Try.func10, Try.ntmps10
  go_wp2_with fail
  refine (fasted_any _).mono ?_
  rintro r w1 ⟨rfl, hb⟩
  go_wp2_with fail
  refine (HA.out _ (h.below hb)).mono ?_
  rintro r w2 ⟨v, rfl, hown, hk⟩
  replace hb := hb.trans (hk.mono hb.size)
  have hex : ∃ a2 c2, v = .slice a2 A.length c2 ∧ EvS w2 a2 A := by
    obtain ⟨a2, c2, e, hS, _⟩ := evS_own hown (by omega)
    exact ⟨a2, c2, e, hS⟩
  obtain ⟨a2, c2, rfl, hA⟩ := hex
  clear hk hown HA
  go_wp2_with fail
  refine (HB.out _ (h.below hb)).mono ?_
  rintro r w3 ⟨v, rfl, hown, hk⟩
  replace hb := hb.trans (hk.mono hb.size)
  have hex : ∃ a3 c3, v = .slice a3 B.length c3 ∧ EvS w3 a3 B := by
    obtain ⟨a3, c3, e, hS, _⟩ := evS_own hown (by omega)
    exact ⟨a3, c3, e, hS⟩
  obtain ⟨a3, c3, rfl, hB⟩ := hex
  replace hA := hA.below hk
  replace h := h.below hb
  clear hk hown HB
  have hI := Below.refl w3.heap.size w3
  go_wp2
  go_loopw [39] (fun i wr => ∃ k : Nat, k ≤ 8 ∧ i = .int .i64 k ∧ Below w3.heap.size w3 wr) (fun i _ => 8 - (intOf i).toNat)
  case atStart => exact ⟨0, Nat.zero_le _, rfl, hI⟩
  case round =>
    clear hI
    obtain ⟨k, hk, rfl, hb4⟩ := hrel
    by_cases hlt : k < 8
    · have hkd : decide ((k : Int) < 8) = true := decide_eq_true (by omega)
      have hkd2 : decide (k < 8) = true := decide_eq_true hlt
      obtain ⟨s1, s2, s3⟩ := HS.out (k : Int)
      have HFF := Lib.hid fun W hW => HF.out k hlt W hW
      have HC1 := Lib.hid fun W (hW : EvS W a2 A) => fstClo_any A (k : Int) A.length rfl a2 c2 W hW
      have HC2 := Lib.hid fun W (hW : EvS W a3 B) => fstClo_any B (k : Int) B.length rfl a3 c3 W hW
      rw [← s1] at HC2
      generalize fstF A (k : Int) = y at *
      generalize firV z (k : Int) = fv at *
      obtain ⟨at1, is⟩ := fv
      simp only at s2 s3 HFF
      have S3 := Lib.hid s3
      have hneq : ∀ W, (binOp .neq 51 (evV y) (evV y)).run Try.prog W = .ok (.bool false) W := fun W => by rw [HNE.out]; simp
      clear s1 s3
      go_wp2_with fail
      refine (HFF.out _ (h.below hb4)).mono ?_
      rintro r w5 ⟨rfl, hk5⟩
      have hb5 := hb4.trans (hk5.mono hb4.size)
      clear hk5 HFF hb4
      go_wp2_with fail
      refine (HC1.out _ (hA.below hb5)).mono ?_
      rintro r w6 ⟨rfl, hk6⟩
      have hb6 := hb5.trans (hk6.mono hb5.size)
      clear hk6 HC1 hb5
      have hN := Has.new w6 (evC y) 51
      have hb7 := hb6.alloc hb6.size (.cells (evC y) 51)
      go_upto_region 13 with fail
      generalize w6.alloc (.cells (evC y) 51) = w7 at *
      obtain ⟨x0, x1, x2⟩ : (∀ p : Beyond w7, p.to.cell? ⟨w6.heap.size, 0, none⟩ = some (.int .i64 y.k)) ∧ (∀ p : Beyond w7, p.to.cell? ⟨w6.heap.size, 1, none⟩ = some (.int .i64 y.t)) ∧ (∀ p : Beyond w7, p.to.cell? ⟨w6.heap.size, 2, none⟩ = some (.int .i64 y.o)) := ⟨fun p => p.cell (hN.cell rfl), fun p => p.cell (hN.cell rfl), fun p => p.cell (hN.cell rfl)⟩
      have HC3 := Lib.hid fun p : Beyond w7 => beyond_of (HC2.out p.to ((hB.below hb7).below p.below))
      clear HC2 hN hb6
      cases is
      · have s4 : decide (y.o > 0) = false := s2.symm
        have s5 : decide (0 < y.o) = false := s4
        clear S3 s2
        refine wp_region_beyond (by kernel_rfl) (by kernel_rfl) ?_
        repeat (with_reducible refine wpQuiet_step (fun K hK => ?_); go_simp; first | (with_reducible refine hK _ ?_) | (refine ⟨_, HC3.out, ?_⟩; with_reducible refine hK _ ?_); clear hK K)
        with_reducible refine wpQuiet_nil ?_
        rintro _ ⟨p, rfl⟩
        have hb8 := hb7.trans (p.below.mono hb7.size)
        clear x0 x1 x2 HC3 hneq
        generalize p.to = w8 at *
        go_wp2
        go_roundw
        case rel => exact ⟨k + 1, by omega, by go_num, hb8⟩
        case measure => (simp [intOf]; try omega)
      · have s4 : decide (y.o > 0) = true := s2.symm
        have s5 : decide (0 < y.o) = true := s4
        have s6 : (y.k != at1) = false := by rw [S3.out rfl]; simp
        clear S3 s2
        refine wp_region_beyond (by kernel_rfl) (by kernel_rfl) ?_
        repeat (with_reducible refine wpQuiet_step (fun K hK => ?_); go_simp; first | (with_reducible refine hK _ ?_) | (refine ⟨_, HC3.out, ?_⟩; with_reducible refine hK _ ?_); clear hK K)
        with_reducible refine wpQuiet_nil ?_
        rintro _ ⟨p, rfl⟩
        have hb8 := hb7.trans (p.below.mono hb7.size)
        clear x0 x1 x2 HC3 hneq s6
        generalize p.to = w8 at *
        go_wp2
        go_roundw
        case rel => exact ⟨k + 1, by omega, by go_num, hb8⟩
        case measure => (simp [intOf]; try omega)
    · obtain rfl : k = 8 := by omega
      have hb5 := hb.trans (hb4.mono hb.size)
      go_wp2
      go_ret
      exact ⟨rfl, hb5⟩
theorem fastFirst_walk (a : Option Addr) (z : List Ev) (c : Nat) (w : World) (hf : EvS w a z ∧ z.length ≤ c ∧ z.length * 24 ≤ 140737488351232 ∧ ∀ e ∈ z, I64 e.k ∧ I64 e.t ∧ I64 e.o) :
    Calls Try.prog 10 #[.slice a z.length c] w fun e w' => e = .returned (.bool true) ∧ Below w.heap.size w w' := by
  have h := hf.1
  clear hf
  by_cases he : (played z).2.2 = 0
  · exact fastFirst_ok a z c w h he
  · have e1 : ((played z).2.2 != 0) = true := by simpa using he
    have HA := Lib.hid fun W (hW : EvS W a z) => fastRun_err z a c W hW he
    have HB := Lib.hid fun W (hW : EvS W a z) => fullRun_err z a c W hW he
    clear he
    generalize (played z).2.2 = E at *
    go_enter Try.func10, Try.ntmps10
    go_wp2_with fail
    refine (fasted_any _).mono ?_
    rintro r w1 ⟨rfl, hb⟩
    go_wp2_with fail
    refine (HA.out _ (h.below hb)).mono ?_
    rintro r w2 ⟨rfl, hk⟩
    replace hb := hb.trans (hk.mono hb.size)
    go_wp2_with fail
    refine (HB.out _ (h.below hb)).mono ?_
    rintro r w3 ⟨rfl, hk⟩
    replace hb := hb.trans (hk.mono hb.size)
    go_wp2
    go_ret
    exact ⟨rfl, hb⟩
/-! The frame of the law FastFirst, by program. -/
set_option maxRecDepth 100000 in
theorem fastFirst_lifted (os : Os) (started : os.Started) (H : Type) (enc : TypeId × Value → H) :
    ReturnsInHanded {} Try.checked os 10 .any (Rows.fastFirstSpec.pre6 enc Try.prog Try.f10 Rows.fastFirstRow.domain false) (Rows.fastFirstSpec.post enc Try.prog Try.f10 false true false false) := by
  refine returnsInHanded_of_change_shaped (C := Try.checked) frame_own started (by kernel_rfl) Try.func10
    (ChangeSpec.witness6 (enc := enc) (C := Try.checked) false ⟨#[], #[.slice none 0 0], []⟩ 8 (by kernel_rfl) (by kernel_rfl) (by kernel_rfl) (by kernel_rfl)) ?_
  intro W base args ds gs before hval0 hW hcnd hsz hshaped hroom
  clear hcnd hshaped
  have hval : ∀ (j : Nat) t v, Try.f10.params[j]? = some t → args[j]? = some v → Value.okWide Try.prog W .any base t v := hval0
  have hW' := hW
  obtain ⟨p, q, hA0, hV, rfl, hfz, hnd⟩ := hW
  have hA : DataW.TrodAll enc Try.prog W 0 (fun _ => true) true Try.f10.params.toList args.toList ds p := hA0
  rw [Try.params10] at hA hval
  obtain ⟨v0, vs0, d0, ds0, p0, q0, hargs, rfl, rfl, h0, r0⟩ := trodAll_cons hA
  obtain ⟨rfl, rfl, rfl⟩ := trodAll_nil r0
  obtain rfl : args = #[v0] := by cases args; simp_all
  obtain ⟨rfl, rfl⟩ := trodVars_none hV
  have k0 := h0
  have lt0 : ∀ x ∈ p0, x.block < W.heap.size := by obtain ⟨m, hm⟩ := k0; exact DataW.trod_lt m _ _ _ hm
  obtain ⟨a0, z0, c0, rfl, w0⟩ := open_evs (hval 0 22 v0 rfl rfl) h0 (fun els sp hd => sized_slice hsz (j := 0) rfl (by rw [hd]; rfl) Try.underlying22)
  clear hA0 hval0
  refine (fastFirst_walk a0 z0 c0 W w0).mono fun e W' ⟨he, bel⟩ => ?_
  subst he
  exact ⟨_, rfl, _, _, _, [], _, [], hW', trodAll_mk1 (shut_bool Try.underlying4 _), (trodAll_cons_mk (Below.trod frame_laid (by kernel_rfl) (of_decide_eq_true (by kernel_rfl)) k0 bel lt0) trodAll_mk0), rfl, bel.frame _, fun h => by cases h⟩

theorem fastFirst_over : Rows.fastFirstRow.holds Try.pinned (OpenSpec.ofChange Rows.fastFirstSpec) :=
  OpenClaim.holds_of_wide 10 Try.f10 rfl rfl rfl rfl rfl rfl rfl ⟨rfl, rfl, rfl, rfl, rfl⟩ rfl rfl rfl rfl rfl (by kernel_rfl) Try.func10 (by kernel_rfl)
    (of_decide_eq_true (by kernel_rfl)) (by unfold Func.isWrapper; first | (rw [if_pos (by decide +kernel)]; kernel_rfl) | (rw [if_neg (by decide +kernel)]; exact ⟨rfl, rfl⟩))
    (fun os started H enc _ => fastFirst_lifted os started H enc)

/-- The statement. -/
theorem fastFirst_holds : Rows.FastFirstSaid := fastFirst_over

end Go.Proofs.Ytdhbgbneadcmiaa

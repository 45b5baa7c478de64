/- The detectors' clocks in memory. -/
import Derived.Test.YtfjbnhacfficnaaGreatDoorZG
import Derived.Test.YtfjbnhacfficnaaGreatDoorZB
import Derived.Test.YtfjbnhacfficnaaGreatDoorZEB
import Derived.Test.YtfjbnhacfficnaaGreatDoorZA
import Derived.StillTactics
import Derived.Laws.Pointers
import Derived.Deep.RegionHeld3
import Derived.Deep.RegionLaw
import Derived.BigRegion
namespace Go.Proofs.YtfjbnhacfficnaaGreatDoor
open Go.RowKit

/-- The keeper's cells, by place. -/
def kpF (s : Kp) (i : Nat) : Int := if i < 36 then s.th (i / 6) (i % 6) else if i < 66 then s.lk ((i - 36) / 6) ((i - 36) % 6) else s.vo ((i - 66) / 6) ((i - 66) % 6)
abbrev kpC (s : Kp) : Array Value := rowI 90 (kpF s)
theorem kpF_th (s : Kp) {t i : Nat} (ht : t < 6) (hi : i < 6) : kpF s (t * 6 + i) = s.th t i := by
  have h1 : (t * 6 + i) / 6 = t := by omega
  have h2 : (t * 6 + i) % 6 = i := by omega
  rw [kpF, if_pos (by omega), h1, h2]
theorem kpF_lk (s : Kp) {t i : Nat} (ht : t < 5) (hi : i < 6) : kpF s (36 + t * 6 + i) = s.lk t i := by
  have h1 : (36 + t * 6 + i - 36) / 6 = t := by omega
  have h2 : (36 + t * 6 + i - 36) % 6 = i := by omega
  rw [kpF, if_neg (by omega), if_pos (by omega), h1, h2]
theorem kpF_vo (s : Kp) {t i : Nat} (ht : t < 4) (hi : i < 6) : kpF s (66 + t * 6 + i) = s.vo t i := by
  have h1 : (66 + t * 6 + i - 66) / 6 = t := by omega
  have h2 : (66 + t * 6 + i - 66) % 6 = i := by omega
  rw [kpF, if_neg (by omega), if_neg (by omega), h1, h2]
theorem kpF_setTh (s : Kp) {t : Nat} (ht : t < 6) (g : Nat → Int) (i : Nat) (hi : i < 90) : kpF { s with th := updC s.th t g } i = if t * 6 ≤ i ∧ i < t * 6 + 6 then g (i - t * 6) else kpF s i := by
  unfold kpF updC
  by_cases e : t * 6 ≤ i ∧ i < t * 6 + 6
  · rw [if_pos e, if_pos (by omega)]
    simp only
    rw [if_pos (by omega), show i % 6 = i - t * 6 by omega]
  · rw [if_neg e]
    split
    · simp only; rw [if_neg (by omega)]
    · rfl
theorem kpF_setLk (s : Kp) {t : Nat} (ht : t < 5) (g : Nat → Int) (i : Nat) (hi : i < 90) : kpF { s with lk := updC s.lk t g } i = if 36 + t * 6 ≤ i ∧ i < 36 + t * 6 + 6 then g (i - (36 + t * 6)) else kpF s i := by
  unfold kpF updC
  by_cases e : 36 + t * 6 ≤ i ∧ i < 36 + t * 6 + 6
  · rw [if_pos e, if_neg (by omega), if_pos (by omega)]
    simp only
    rw [if_pos (by omega), show (i - 36) % 6 = i - (36 + t * 6) by omega]
  · rw [if_neg e]
    split
    · rfl
    · split
      · simp only; rw [if_neg (by omega)]
      · rfl
theorem kpF_setVo (s : Kp) {t : Nat} (ht : t < 4) (g : Nat → Int) (i : Nat) (hi : i < 90) : kpF { s with vo := updC s.vo t g } i = if 66 + t * 6 ≤ i ∧ i < 66 + t * 6 + 6 then g (i - (66 + t * 6)) else kpF s i := by
  unfold kpF updC
  by_cases e : 66 + t * 6 ≤ i ∧ i < 66 + t * 6 + 6
  · rw [if_pos e, if_neg (by omega), if_neg (by omega)]
    simp only
    rw [if_pos (by omega), show (i - 66) % 6 = i - (66 + t * 6) by omega]
  · rw [if_neg e]
    split
    · rfl
    · split
      · rfl
      · simp only; rw [if_neg (by omega)]
theorem Has.th6 {w : World} {b : Nat} {s : Kp} (h : Has w b (kpC s) 172) {t : Nat} (ht : t < 6) :
    w.cell? ⟨b, t * 6, none⟩ = some (.int .i64 (s.th t 0)) ∧ w.cell? ⟨b, t * 6 + 1, none⟩ = some (.int .i64 (s.th t 1)) ∧ w.cell? ⟨b, t * 6 + 2, none⟩ = some (.int .i64 (s.th t 2)) ∧
    w.cell? ⟨b, t * 6 + 3, none⟩ = some (.int .i64 (s.th t 3)) ∧ w.cell? ⟨b, t * 6 + 4, none⟩ = some (.int .i64 (s.th t 4)) ∧ w.cell? ⟨b, t * 6 + 5, none⟩ = some (.int .i64 (s.th t 5)) := by
  refine ⟨?_, ?_, ?_, ?_, ?_, ?_⟩ <;> (rw [h.addI (by omega)]; (first | rw [kpF_th s ht (by omega)] | (have := kpF_th s ht (show 0 < 6 by omega); rw [Nat.add_zero] at this; rw [this])))
theorem Has.lk6 {w : World} {b : Nat} {s : Kp} (h : Has w b (kpC s) 172) {t : Nat} (ht : t < 5) :
    w.cell? ⟨b, 36 + t * 6, none⟩ = some (.int .i64 (s.lk t 0)) ∧ w.cell? ⟨b, 36 + t * 6 + 1, none⟩ = some (.int .i64 (s.lk t 1)) ∧ w.cell? ⟨b, 36 + t * 6 + 2, none⟩ = some (.int .i64 (s.lk t 2)) ∧
    w.cell? ⟨b, 36 + t * 6 + 3, none⟩ = some (.int .i64 (s.lk t 3)) ∧ w.cell? ⟨b, 36 + t * 6 + 4, none⟩ = some (.int .i64 (s.lk t 4)) ∧ w.cell? ⟨b, 36 + t * 6 + 5, none⟩ = some (.int .i64 (s.lk t 5)) := by
  refine ⟨?_, ?_, ?_, ?_, ?_, ?_⟩ <;> (rw [h.addI (by omega)]; (first | rw [kpF_lk s ht (by omega)] | (have := kpF_lk s ht (show 0 < 6 by omega); rw [Nat.add_zero] at this; rw [this])))
theorem Has.vo6 {w : World} {b : Nat} {s : Kp} (h : Has w b (kpC s) 172) {t : Nat} (ht : t < 4) :
    w.cell? ⟨b, 66 + t * 6, none⟩ = some (.int .i64 (s.vo t 0)) ∧ w.cell? ⟨b, 66 + t * 6 + 1, none⟩ = some (.int .i64 (s.vo t 1)) ∧ w.cell? ⟨b, 66 + t * 6 + 2, none⟩ = some (.int .i64 (s.vo t 2)) ∧
    w.cell? ⟨b, 66 + t * 6 + 3, none⟩ = some (.int .i64 (s.vo t 3)) ∧ w.cell? ⟨b, 66 + t * 6 + 4, none⟩ = some (.int .i64 (s.vo t 4)) ∧ w.cell? ⟨b, 66 + t * 6 + 5, none⟩ = some (.int .i64 (s.vo t 5)) := by
  refine ⟨?_, ?_, ?_, ?_, ?_, ?_⟩ <;> (rw [h.addI (by omega)]; (first | rw [kpF_vo s ht (by omega)] | (have := kpF_vo s ht (show 0 < 6 by omega); rw [Nat.add_zero] at this; rw [this])))
theorem clk_size : (Tryz.prog.info? 87).map (·.size) = some 6 := by kernel_rfl
structure KTook (w w' : World) (b : Nat) (s : Kp) : Prop where
  has : Has w' b (kpC s) 172
  grown : w.grownBy w' (some b)

theorem kpF_tick (s : Kp) {t : Nat} (ht : t < 6) (g : Nat → Int) (i : Nat) (hi : i < 90) : kpF { s with th := updC s.th t (tickC g t) } i = if i = t * 6 + t then g t + 1 else kpF { s with th := updC s.th t g } i := by
  rw [kpF_setTh s ht _ i hi, kpF_setTh s ht _ i hi]
  by_cases e : i = t * 6 + t
  · subst e
    rw [if_pos (by omega), if_pos rfl, show t * 6 + t - t * 6 = t by omega]
    simp [tickC]
  · rw [if_neg e]
    by_cases e2 : t * 6 ≤ i ∧ i < t * 6 + 6
    · rw [if_pos e2, if_pos e2]
      have : ¬ i - t * 6 = t := by omega
      simp [tickC, this]
    · rw [if_neg e2, if_neg e2]
theorem kpF_same (s : Kp) {t : Nat} (ht : t < 6) (i : Nat) (hi : i < 90) : kpF { s with th := updC s.th t (s.th t) } i = kpF s i := by
  rw [kpF_setTh s ht _ i hi]
  split
  · rename_i e
    obtain ⟨j, rfl⟩ : ∃ j, i = t * 6 + j := ⟨i - t * 6, by omega⟩
    rw [show t * 6 + j - t * 6 = j by omega, kpF_th s ht (by omega)]
  · rfl
theorem grownBy_setNew {w w' : World} {row : Option Nat} (h : w.grownBy w' row) {a : Addr} (ha : w.heap.size ≤ a.block) (v : Value) : w.grownBy (w'.setCell a v) row :=
  ⟨h.os, h.tape, h.output, by simpa [World.setCell] using h.size, fun k hk hne => (Below.heap_setCell w' a v k (by omega)).trans (h.block k hk hne)⟩
/-- All numbers of the keeper are small. -/
structure KB (s : Kp) : Prop where
  th : ∀ a τ, 0 ≤ s.th a τ ∧ s.th a τ ≤ 1000
  lk : ∀ a τ, 0 ≤ s.lk a τ ∧ s.lk a τ ≤ 1000
  vo : ∀ a τ, 0 ≤ s.vo a τ ∧ s.vo a τ ≤ 1000
/-- An event that is no access. -/
def kSync (s : Kp) (e : Ev) : Kp :=
  if e.k = 3 then { s with th := updC s.th e.t.toNat (cmax (s.th e.t.toNat) (s.lk e.o.toNat)) }
  else if e.k = 4 then { s with lk := updC s.lk e.o.toNat (s.th e.t.toNat), th := updC s.th e.t.toNat (tickC (s.th e.t.toNat) e.t.toNat) }
  else if e.k = 5 then { s with th := updC (updC s.th e.o.toNat (cmax (s.th e.o.toNat) (s.th e.t.toNat))) e.t.toNat (tickC ((updC s.th e.o.toNat (cmax (s.th e.o.toNat) (s.th e.t.toNat))) e.t.toNat) e.t.toNat) }
  else if e.k = 6 then { s with th := updC s.th e.t.toNat (cmax (s.th e.t.toNat) (s.th e.o.toNat)) }
  else if e.k = 7 then { s with th := updC s.th e.t.toNat (cmax (s.th e.t.toNat) (s.vo e.o.toNat)) }
  else if e.k = 8 then { s with vo := updC s.vo e.o.toNat (cmax (s.vo e.o.toNat) (s.th e.t.toNat)), th := updC s.th e.t.toNat (tickC (s.th e.t.toNat) e.t.toNat) }
  else s
def Fk.kp (s : Fk) : Kp := ⟨s.C, s.lk, s.vo⟩
theorem kSync_eq (s : Fk) (e : Ev) : kSync s.kp e = (fSync s e).kp := by
  unfold kSync fSync
  repeat' split
  all_goals rfl
/-- All numbers are at most n. -/
structure KBn (n : Int) (s : Kp) : Prop where
  th : ∀ a τ, 0 ≤ s.th a τ ∧ s.th a τ ≤ n
  lk : ∀ a τ, 0 ≤ s.lk a τ ∧ s.lk a τ ≤ n
  vo : ∀ a τ, 0 ≤ s.vo a τ ∧ s.vo a τ ≤ n
theorem KBn.kb {n : Int} {s : Kp} (h : KBn n s) (hn : n ≤ 1000) : KB s :=
  ⟨fun a τ => ⟨(h.th a τ).1, Int.le_trans (h.th a τ).2 hn⟩, fun a τ => ⟨(h.lk a τ).1, Int.le_trans (h.lk a τ).2 hn⟩, fun a τ => ⟨(h.vo a τ).1, Int.le_trans (h.vo a τ).2 hn⟩⟩
def In (n : Int) (F : Nat → Nat → Int) : Prop := ∀ a τ, 0 ≤ F a τ ∧ F a τ ≤ n
theorem In.up {n m : Int} {F : Nat → Nat → Int} (h : In n F) (hm : n ≤ m) : In m F := fun a τ => ⟨(h a τ).1, Int.le_trans (h a τ).2 hm⟩
theorem In.upd {n : Int} {F : Nat → Nat → Int} (h : In n F) (k : Nat) {f : Nat → Int} (hf : ∀ τ, 0 ≤ f τ ∧ f τ ≤ n) : In n (updC F k f) := by
  intro a τ
  simp only [updC]
  split
  · exact hf τ
  · exact h a τ
theorem cmax_in {n : Int} {f g : Nat → Int} (hf : ∀ τ, 0 ≤ f τ ∧ f τ ≤ n) (hg : ∀ τ, 0 ≤ g τ ∧ g τ ≤ n) : ∀ τ, 0 ≤ cmax f g τ ∧ cmax f g τ ≤ n := by
  intro τ
  have := hf τ
  have := hg τ
  simp only [cmax]
  omega
theorem tick_in {n : Int} {f : Nat → Int} (hf : ∀ τ, 0 ≤ f τ ∧ f τ ≤ n) (t : Nat) : ∀ τ, 0 ≤ tickC f t τ ∧ tickC f t τ ≤ n + 1 := by
  intro τ
  have := hf τ
  simp only [tickC]
  split <;> omega
theorem KBn.sync {n : Int} {s : Kp} (h : KBn n s) (e : Ev) : KBn (n + 1) (kSync s e) := by
  obtain ⟨h1, h2, h3⟩ := h
  have h1 : In n s.th := h1
  have h2 : In n s.lk := h2
  have h3 : In n s.vo := h3
  have u1 := h1.up (show n ≤ n + 1 by omega)
  have u2 := h2.up (show n ≤ n + 1 by omega)
  have u3 := h3.up (show n ≤ n + 1 by omega)
  unfold kSync
  split
  · exact ⟨(u1.upd _ (cmax_in (u1 _) (u2 _))), u2, u3⟩
  · split
    · exact ⟨u1.upd _ (tick_in (h1 _) _), u2.upd _ (u1 _), u3⟩
    · split
      · have hq := h1.upd e.o.toNat (cmax_in (h1 e.o.toNat) (h1 e.t.toNat))
        exact ⟨(hq.up (show n ≤ n + 1 by omega)).upd _ (tick_in (hq _) _), u2, u3⟩
      · split
        · exact ⟨(u1.upd _ (cmax_in (u1 _) (u1 _))), u2, u3⟩
        · split
          · exact ⟨(u1.upd _ (cmax_in (u1 _) (u3 _))), u2, u3⟩
          · split
            · exact ⟨u1.upd _ (tick_in (h1 _) _), u2, u3.upd _ (cmax_in (u3 _) (u1 _))⟩
            · exact ⟨u1, u2, u3⟩
theorem KBn.at (l : List Ev) : ∀ m : Nat, KBn ((m : Int) + 1) (fAt l m).kp
  | 0 => ⟨fun a τ => by simp only [fAt, Fk.first, Fk.kp]; split <;> simp, fun a τ => by simp [fAt, Fk.first, Fk.kp], fun a τ => by simp [fAt, Fk.first, Fk.kp]⟩
  | m + 1 => by
    have := (KBn.at l m).sync (evAt l m)
    rw [kSync_eq] at this
    exact this
end Go.Proofs.YtfjbnhacfficnaaGreatDoor

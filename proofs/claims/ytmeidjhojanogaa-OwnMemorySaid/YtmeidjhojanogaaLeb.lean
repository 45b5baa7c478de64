/- Contracts: the closure of least, IndexFunc, ContainsFunc, Delete, Clone at whatever slice. -/
import Derived.Test.YtmeidjhojanogaaLea
import Derived.Test.YtmeidjhojanogaaSwpA
import Derived.Test.YtmeidjhojanogaaEqE0
import Derived.Test.YtmeidjhojanogaaTwo
import Derived.Lib.SliceRun
import Derived.Laws.OwnMore
import Derived.IntWalk
import Derived.Deep.DeepCutAuto
import Derived.Deep.RegionLaw
namespace Go.Proofs.Ytmeidjhojanogaa
open Go.RowKit

theorem notApart_any (x e : Ev) (b : Nat) (w : World) (h : Has w b (evC e) 26) :
    Calls Try.prog 22 #[evV x, .pointer (some ⟨b, 0, none⟩)] w fun r w' => r = .returned (.bool (!apartB x e)) ∧ Below w.heap.size w w' := by
  have hX := Has.new w (evC x) 26
  have hE := h.alloc (.cells (evC x) 26)
  have hb0 := (Below.refl w.heap.size w).alloc (Nat.le_refl _) (.cells (evC x) 26)
  go_enter Try.func22, Try.ntmps22
  go_upto_region 1 with fail
  generalize w.alloc (.cells (evC x) 26) = w1 at *
  obtain ⟨x0, x1, x2⟩ : w1.cell? ⟨w.heap.size, 0, none⟩ = some (.int .i64 x.k) ∧ w1.cell? ⟨w.heap.size, 1, none⟩ = some (.int .i64 x.t) ∧ w1.cell? ⟨w.heap.size, 2, none⟩ = some (.int .i64 x.o) := ⟨hX.cell rfl, hX.cell rfl, hX.cell rfl⟩
  obtain ⟨e0, e1, e2⟩ : w1.cell? ⟨b, 0, none⟩ = some (.int .i64 e.k) ∧ w1.cell? ⟨b, 1, none⟩ = some (.int .i64 e.t) ∧ w1.cell? ⟨b, 2, none⟩ = some (.int .i64 e.o) := ⟨hE.cell rfl, hE.cell rfl, hE.cell rfl⟩
  go_wp2_with fail
  refine (apart_any x e _).mono ?_
  rintro r w2 ⟨rfl, hk⟩
  have hb2 := hb0.trans (hk.mono hb0.size)
  obtain ⟨q, hq⟩ : ∃ q, apartB x e = q := ⟨_, rfl⟩
  rw [hq]
  have HQ := Lib.hid hq
  clear hq
  clear x0 x1 x2 e0 e1 e2 hk hX hE
  go_wp2
  go_ret
  rw [HQ.out]
  exact ⟨rfl, hb2⟩
/-- The first place of one that is not apart from e (-1: none). -/
def idxA (e : Ev) : List Ev → Nat → Int
  | [], _ => -1
  | x :: l, i => if apartB x e then idxA e l (i + 1) else i
theorem idxA_all (e : Ev) : ∀ (l : List Ev) (i : Nat), decide (idxA e l i ≥ 0) = !(l.all fun x => apartB x e)
  | [], i => by simp [idxA]
  | x :: l, i => by
    by_cases h : apartB x e = true
    · simp only [idxA, h, if_true, List.all_cons, Bool.true_and]
      exact idxA_all e l (i + 1)
    · have h' : apartB x e = false := by simpa using h
      have : idxA e (x :: l) i = i := by simp [idxA, h']
      rw [this]
      simp [h']
set_option maxHeartbeats 1000000 in
theorem indexFunc_any (l : List Ev) (e : Ev) (b : Nat) (a : Option Addr) (c : Nat) (w : World) (hE : Has w b (evC e) 26) (h : EvS w a l) :
    Calls Try.prog 27 #[.slice a l.length c, .func (.func 22) #[] #[.pointer (some ⟨b, 0, none⟩)]] w fun r w' => r = .returned (.int .i64 (idxA e l 0)) ∧ Below w.heap.size w w' := by
  have hbig := h.big
  go_enter Try.func27, Try.ntmps27
  go_wp2
  go_loopw [5, 8] (fun _ i wr => ∃ k : Nat, k ≤ l.length ∧ i = .int .i64 k ∧ Hid (idxA e l 0 = idxA e (l.drop k) k) ∧ Below w.heap.size w wr) (fun _ i _ => l.length - (intOf i).toNat)
  case atStart => exact ⟨0, Nat.zero_le _, rfl, Lib.hid rfl, Below.refl _ _⟩
  case round =>
    obtain ⟨k, hk, rfl, HC, hb⟩ := hrel
    by_cases hlt : k < l.length
    · obtain ⟨g, o, rfl, d0, d1, d2⟩ := (h.below hb).at hlt
      have hd : l.drop k = l[k] :: l.drop (k + 1) := List.drop_eq_getElem_cons hlt
      have hEr := hE.below hb hE.lt
      generalize l[k] = x at *
      have k0 : (0 : Int) ≤ k := by omega
      have k1 : (k : Int) < l.length := by omega
      obtain ⟨q, hq⟩ : ∃ q, apartB x e = q := ⟨_, rfl⟩
      have HQ := Lib.hid hq
      go_wp2_with fail
      refine (notApart_any x e b _ hEr).mono ?_
      rintro r w2 ⟨rfl, hk2⟩
      have hb2 := hb.trans (hk2.mono hb.size)
      rw [HQ.out]
      clear d0 d1 d2 hEr hk2
      cases q
      · have hr : idxA e l 0 = k := by rw [HC.out, hd]; simp [idxA, HQ.out]
        have HR := Lib.hid hr
        clear hr hd HC hq
        go_wp2
        go_ret
        rw [HR.out]
        exact ⟨rfl, hb2⟩
      · have hr : idxA e l 0 = idxA e (l.drop (k + 1)) (k + 1) := by rw [HC.out, hd]; simp [idxA, HQ.out]
        have HR := Lib.hid hr
        clear hr hd HC hq
        go_wp2
        go_roundw
        case rel => exact ⟨k + 1, by omega, by go_num, HR, hb2⟩
        case measure => (simp [intOf]; try omega)
    · have hr : idxA e l 0 = -1 := by rw [HC.out, List.drop_eq_nil_of_le (by omega)]; rfl
      have HR := Lib.hid hr
      clear hr HC
      go_wp2
      go_ret
      rw [HR.out]
      exact ⟨rfl, hb⟩
theorem containsFunc_any (l : List Ev) (n : Nat) (hn : l.length = n) (e : Ev) (b : Nat) (a : Option Addr) (c : Nat) (w : World) (hE : Has w b (evC e) 26) (h : EvS w a l) :
    Calls Try.prog 21 #[.slice a n c, .func (.func 22) #[] #[.pointer (some ⟨b, 0, none⟩)]] w fun r w' => r = .returned (.bool (!(l.all fun x => apartB x e))) ∧ Below w.heap.size w w' := by
  subst hn
  have hi := idxA_all e l 0
  go_enter Try.func21, Try.ntmps21
  go_wp2_with fail
  refine (indexFunc_any l e b a c _ hE h).mono ?_
  rintro r w1 ⟨rfl, hb⟩
  go_wp2
  go_ret
  exact ⟨rfl, hb⟩
end Go.Proofs.Ytmeidjhojanogaa

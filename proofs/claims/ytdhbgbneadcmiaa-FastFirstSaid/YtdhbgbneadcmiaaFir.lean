/- Contract of race.First: the first of the seconds of a variable. -/
import Derived.Test.YtdhbgbneadcmiaaSec
import Derived.Test.YtdhbgbneadcmiaaMB
import Derived.Test.YtdhbgbneadcmiaaEqE0
import Derived.OwnWalk
namespace Go.Proofs.Ytdhbgbneadcmiaa
open Go.RowKit

/-- Is event q of variable x? -/
def atV (l : List Ev) (x q : Int) : Bool := (evAt l q.toNat).o == x
def idxV (p : Int → Bool) : List Int → Nat → Int
  | [], _ => -1
  | q :: Q, i => if p q then i else idxV p Q (i + 1)
theorem idxV_find (p : Int → Bool) : ∀ (Q : List Int) (i : Nat), (Q.find? p = none ∧ idxV p Q i = -1) ∨ ∃ k q, Q[k]? = some q ∧ idxV p Q i = ((i + k : Nat) : Int) ∧ Q.find? p = some q
  | [], i => .inl ⟨rfl, rfl⟩
  | q :: Q, i => by
    by_cases h : p q = true
    · exact .inr ⟨0, q, rfl, by simp [idxV, h], by simp [h]⟩
    · have h' : p q = false := by simpa using h
      rcases idxV_find p Q (i + 1) with ⟨h1, h2⟩ | ⟨k, r, h1, h2, h3⟩
      · exact .inl ⟨by simp [h', h1], by simp [idxV, h', h2]⟩
      · refine .inr ⟨k + 1, r, by simpa using h1, ?_, by simp [h', h3]⟩
        simp only [idxV, h', Bool.false_eq_true, if_false, h2]
        omega
/-- What First says of a variable: the place, whether there is one. -/
def firV (l : List Ev) (x : Int) : Int × Bool := match (secL ((raceL l).map Rc.b)).find? (atV l x) with
  | none => (0, false)
  | some q => (q, true)
set_option maxHeartbeats 1000000 in
theorem firClo_any (l : List Ev) (x : Int) (i : Nat) (hi : i < l.length) (a : Option Addr) (c b1 b2 : Nat) (w : World) (h : EvS w a l) (h1 : w.cell? ⟨b1, 0, none⟩ = some (.slice a l.length c)) (h2 : w.cell? ⟨b2, 0, none⟩ = some (.int .i64 x)) :
    Calls Try.prog 40 #[.int .i64 i, .pointer (some ⟨b1, 0, none⟩), .pointer (some ⟨b2, 0, none⟩)] w fun r w' => r = .returned (.bool (atV l x i)) ∧ Below w.heap.size w w' := by
  obtain ⟨g, o, rfl, d0, d1, d2⟩ := h.at hi
  have i0 : (0 : Int) ≤ i := by omega
  have i1 : (i : Int) < l.length := by omega
  have hv : atV l x i = (l[i].o == x) := by
    unfold atV
    rw [Int.toNat_natCast, evAt_lt hi]
  rw [hv]
  clear hv
  generalize l[i] = y at *
  have hb := Below.refl w.heap.size w
  go_enter Try.func40, Try.ntmps40
  go_wp2
  go_quiet (fail)
  go_wp2
  go_ret
  exact ⟨rfl, below_drewN hb _⟩
set_option maxHeartbeats 2000000 in
theorem idxInt_any (l : List Ev) (x : Int) (Q : List Int) (hQ : ∀ q ∈ Q, 0 ≤ q ∧ q < l.length) (a a' : Option Addr) (c c' b1 b2 : Nat) (w : World) (h : EvS w a l) (hI : IntS w a' Q) (h1 : w.cell? ⟨b1, 0, none⟩ = some (.slice a l.length c)) (h2 : w.cell? ⟨b2, 0, none⟩ = some (.int .i64 x)) :
    Calls Try.prog 39 #[.slice a' Q.length c', .func (.func 40) #[] #[.pointer (some ⟨b1, 0, none⟩), .pointer (some ⟨b2, 0, none⟩)]] w fun r w' => r = .returned (.int .i64 (idxV (atV l x) Q 0)) ∧ Below w.heap.size w w' := by
  have hbig := hI.big
  go_enter Try.func39, Try.ntmps39
  go_wp2
  go_loopw [8] (fun i wr => ∃ k : Nat, k ≤ Q.length ∧ i = .int .i64 k ∧ Hid (idxV (atV l x) Q 0 = idxV (atV l x) (Q.drop k) k) ∧ Below w.heap.size w wr) (fun i _ => Q.length - (intOf i).toNat)
  case atStart => exact ⟨0, Nat.zero_le _, rfl, Lib.hid rfl, Below.refl _ _⟩
  case round =>
    obtain ⟨k, hk, rfl, HC, hb⟩ := hrel
    by_cases hlt : k < Q.length
    · obtain ⟨g, o, rfl, d0⟩ := (hI.below hb).at hlt
      obtain ⟨q0, q1⟩ := hQ _ (List.getElem_mem hlt)
      have hd : Q.drop k = Q[k] :: Q.drop (k + 1) := List.drop_eq_getElem_cons hlt
      generalize Q[k] = q at *
      obtain ⟨i, rfl⟩ := Int.eq_ofNat_of_zero_le q0
      have hil : i < l.length := by omega
      have c1 := (hb.cell (World.block_lt_of_cell? w _ h1)).trans h1
      have c2 := (hb.cell (World.block_lt_of_cell? w _ h2)).trans h2
      have HCL := Lib.hid (firClo_any l x i hil a c b1 b2 wr (h.below hb) c1 c2)
      have k0 : (0 : Int) ≤ k := by omega
      have k1 : (k : Int) < Q.length := by omega
      obtain ⟨p, hp⟩ : ∃ p, atV l x (i : Int) = p := ⟨_, rfl⟩
      have HP := Lib.hid hp
      clear q0 q1 c1 c2 hp
      go_wp2_with fail
      refine HCL.out.mono ?_
      rintro r w2 ⟨rfl, hk2⟩
      have hb2 := hb.trans (hk2.mono hb.size)
      rw [HP.out]
      clear d0 hk2 HCL
      cases p
      · have HR := Lib.hid (show idxV (atV l x) Q 0 = idxV (atV l x) (Q.drop (k + 1)) (k + 1) by rw [HC.out, hd]; simp [idxV, HP.out])
        clear hd HC
        go_wp2
        go_roundw
        case rel => exact ⟨k + 1, by omega, by go_num, HR, hb2⟩
        case measure => (simp [intOf]; try omega)
      · have HR := Lib.hid (show idxV (atV l x) Q 0 = k by rw [HC.out, hd]; simp [idxV, HP.out])
        clear hd HC
        go_wp2
        go_ret
        rw [HR.out]
        exact ⟨rfl, hb2⟩
    · have HR := Lib.hid (show idxV (atV l x) Q 0 = -1 by rw [HC.out, List.drop_eq_nil_of_le (by omega)]; rfl)
      clear HC
      go_wp2
      go_ret
      rw [HR.out]
      exact ⟨rfl, hb⟩
theorem sec_lt {l : List Ev} : ∀ q ∈ secL ((raceL l).map Rc.b), 0 ≤ q ∧ q < l.length := by
  intro q hq
  rw [mem_secL, List.mem_map] at hq
  obtain ⟨r, hr, rfl⟩ := hq
  obtain ⟨i, j, rfl, h1, h2, _⟩ := mem_raceL.1 hr
  exact ⟨by simp only [raceOf]; omega, by simp only [raceOf]; omega⟩
set_option maxRecDepth 100000 in
set_option maxHeartbeats 2000000 in
theorem first_ok (l : List Ev) (n x : Nat) (hn : l.length = n) (a : Option Addr) (c : Nat) (w : World) (h : EvS w a l) (he : (played l).2.2 = 0) (hx : x < 8) :
    Calls Try.prog 16 #[.slice a n c, .int .i64 x] w fun r w' => r = .returned (.tuple #[.int .i64 (firV l x).1, .bool (firV l x).2, .int .i64 0]) ∧ Below w.heap.size w w' := by
  subst hn
  have hmf : ∀ (fn : Fn) (first cap : Array Value) (w : World), (Instr.makeFunc fn first cap).run Try.prog w = .ok (.func fn first cap) w := fun _ _ _ _ => rfl
  obtain ⟨Q, hQ⟩ : ∃ Q, secL ((raceL l).map Rc.b) = Q := ⟨_, rfl⟩
  have hlt := sec_lt (l := l)
  have hfv : firV l x = match Q.find? (atV l x) with | none => (0, false) | some q => (q, true) := by unfold firV; rw [hQ]
  rw [hQ] at hlt
  have HF := Lib.hid hfv
  have HS := Lib.hid fun (a : Option Addr) (c : Nat) (W : World) (hW : EvS W a l) => seconds_ok l _ rfl a c W hW he
  rw [hQ] at HS
  have hbA := ((Below.refl w.heap.size w).alloc (Nat.le_refl _) (.cells #[.slice a l.length c] 22)).alloc (by simp) (.cells #[.int .i64 x] 3)
  have hA := (Has.new w #[.slice a l.length c] 22).alloc (.cells #[.int .i64 x] 3)
  have hB := (Has.new (w.alloc (.cells #[.slice a l.length c] 22)) #[.int .i64 x] 3).at (c := w.heap.size + 1) (by simp)
  have hl80 := (played_evs he).1
  have x0 : decide ((x : Int) < 0) = false := decide_eq_false (by omega)
  have x1 : decide ((x : Int) ≥ 8) = false := decide_eq_false (by omega)
  have x2 : decide (8 ≤ x) = false := decide_eq_false (by omega)
  clear hQ hfv he
  go_enter Try.func16, Try.ntmps16
  go_upto_region 1 with fail
  generalize (w.alloc (.cells #[.slice a l.length c] 22)).alloc (.cells #[.int .i64 x] 3) = w1 at *
  have c1 : w1.cell? ⟨w.heap.size, 0, none⟩ = some (.slice a l.length c) := hA.cell rfl
  go_wp2_with fail
  refine (HS.out _ _ _ (h.below hbA)).mono ?_
  rintro r w2 ⟨a2, c2, rfl, hI, hk⟩
  have hb2 := hbA.trans (hk.mono hbA.size)
  replace hA := hA.below hk hA.lt
  replace hB := hB.below hk hB.lt
  clear hk hbA HS c1
  obtain ⟨c1, c2'⟩ : w2.cell? ⟨w.heap.size, 0, none⟩ = some (.slice a l.length c) ∧ w2.cell? ⟨w.heap.size + 1, 0, none⟩ = some (.int .i64 (x : Int)) := ⟨hA.cell rfl, hB.cell rfl⟩
  have hbig := hI.big
  have HIX := Lib.hid (idxInt_any l x Q hlt a a2 c c2 _ _ w2 (h.below hb2) hI c1 c2')
  go_wp2_with fail
  refine HIX.out.mono ?_
  rintro r w3 ⟨rfl, hk⟩
  have hb3 := hb2.trans (hk.mono hb2.size)
  have hI3 := hI.below hk
  clear hk hb2 HIX c1 c2' hA hB hI
  rcases idxV_find (atV l x) Q 0 with ⟨f1, f2⟩ | ⟨k, q, f1, f2, f3⟩
  · rw [f2]
    have hq : firV l x = (0, false) := by rw [HF.out, f1]
    have HQ := Lib.hid hq
    clear f1 f2 hq HF
    go_wp2
    go_ret3
    rw [HQ.out]
    exact ⟨rfl, hb3⟩
  · rw [f2]
    have hq : firV l x = (q, true) := by rw [HF.out, f3]
    have HQ := Lib.hid hq
    obtain ⟨hk, rfl⟩ := List.getElem?_eq_some_iff.1 f1
    obtain ⟨g, o, rfl, d0⟩ := hI3.at hk
    generalize Q[k] = q at *
    have k0 : (0 : Int) ≤ k := by omega
    have k1 : (k : Int) < Q.length := by omega
    have k2 : decide ((k : Int) < 0) = false := decide_eq_false (by omega)
    rw [Nat.zero_add]
    clear f1 f2 f3 hq HF
    go_wp2
    go_ret3
    rw [HQ.out]
    exact ⟨rfl, hb3⟩
end Go.Proofs.Ytdhbgbneadcmiaa

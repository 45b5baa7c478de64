/- A state of a program as the key of a map: map[prog.State]struct{}. -/
import Derived.Test.YtoohconipcleiaaMF
import Derived.Test.YtoohconipcleiaaNF
import Derived.DeepKeys4
import Derived.Maps.OwnOps
import Derived.Maps.OwnSet
import Derived.Maps.Views
namespace Go.Proofs.Ytoohconipcleiaa
open Go.RowKit Go.Maps

set_option maxRecDepth 100000 in
theorem lits_endD {s : PS} (hs : NumOk s) (d k : Bool) (n : Nat) : Try.prog.keyLits (n + 3) endT (endC s d k).toList = some (litE s d k) := by
  have h1 : Try.prog.keyLits (n + 2) 25 (((endC s d k).toList.drop 0).take (Try.prog.cellsOf 25)) = some ((List.range 8).map (fun i => Lit.int .i64 (s.mem i))) := by
    rw [show Try.prog.cellsOf 25 = 8 by kernel_rfl, drop_take (V := fun i => .int .i64 (s.mem i)) (fun i hi => by rw [Nat.zero_add, endC_at s d k (by omega)]; simp [psF, hi])]
    exact lits_row Try.underlying25 (by kernel_rfl) (by kernel_rfl) (fun i _ => lit_int Try.underlying3 (hs i).1)
  have h2 : Try.prog.keyLits (n + 2) 26 (((endC s d k).toList.drop 8).take (Try.prog.cellsOf 26)) = some ((List.range 4).map (fun i => Lit.int .i64 (s.vols i))) := by
    rw [show Try.prog.cellsOf 26 = 4 by kernel_rfl, drop_take (V := fun i => .int .i64 (s.vols i)) (fun i hi => by rw [endC_at s d k (by omega)]; unfold psF; rw [if_neg (by omega), if_pos (by omega), Nat.add_sub_cancel_left])]
    exact lits_row Try.underlying26 (by kernel_rfl) (by kernel_rfl) (fun i _ => lit_int Try.underlying3 (hs i).2.1)
  have h3 : Try.prog.keyLits (n + 2) 27 (((endC s d k).toList.drop 12).take (Try.prog.cellsOf 27)) = some ((List.range 6).map (fun i => Lit.int .i64 (s.has i))) := by
    rw [show Try.prog.cellsOf 27 = 6 by kernel_rfl, drop_take (V := fun i => .int .i64 (s.has i)) (fun i hi => by rw [endC_at s d k (by omega)]; unfold psF; rw [if_neg (by omega), if_neg (by omega), if_pos (by omega), Nat.add_sub_cancel_left])]
    exact lits_row Try.underlying27 (by kernel_rfl) (by kernel_rfl) (fun i _ => lit_int Try.underlying3 (hs i).2.2)
  have h4 : Try.prog.keyLits (n + 2) 4 (((endC s d k).toList.drop 18).take (Try.prog.cellsOf 4)) = some [.bool d] := by
    rw [show Try.prog.cellsOf 4 = 1 by kernel_rfl, drop_take (V := fun _ => .bool d) (fun i hi => by obtain rfl : i = 0 := (by omega); rw [endC_at s d k (by omega)]; rfl)]
    exact lit_bool Try.underlying4 d
  have h5 : Try.prog.keyLits (n + 2) 4 (((endC s d k).toList.drop 19).take (Try.prog.cellsOf 4)) = some [.bool k] := by
    rw [show Try.prog.cellsOf 4 = 1 by kernel_rfl, drop_take (V := fun _ => .bool k) (fun i hi => by obtain rfl : i = 0 := (by omega); rw [endC_at s d k (by omega)]; rfl)]
    exact lit_bool Try.underlying4 k
  unfold Program.keyLits
  simp only [Try.underlying29]
  rw [if_pos ⟨by simp [endC_size]; kernel_rfl, by kernel_rfl⟩]
  simp only [List.mapM_cons, List.mapM_nil, h1, h2, h3, h4, h5, Option.bind_eq_bind, Option.bind_some, Option.pure_def, Option.map_some]
  unfold litE
  simp
/-- What a state reads as. -/
def litS (s : PS) : List Lit := litE s false false ++ ((List.range 6).map (fun i => Lit.int .i64 (s.at_ i : Nat)) ++ ((List.range 6).map (fun i => Lit.bool (s.begun i)) ++ (List.range 5).map fun i => Lit.int .i64 (s.owner i)))
structure StOk (s : PS) : Prop where
  num : NumOk s
  at_ : ∀ i, I64 (s.at_ i : Nat)
  owner : ∀ i, I64 (s.owner i)
theorem psC_at (s : PS) {i : Nat} (h : i < 37) : (psC s).toList[i]? = some (psF s false false i) := by rw [Array.getElem?_toList]; exact psC_get s h
theorem psC_end (s : PS) : ((psC s).toList.drop 0).take 20 = (endC s false false).toList := by
  rw [drop_take (V := fun i => psF s false false i) (fun i hi => by rw [Nat.zero_add, psC_at s (by omega)])]
  rfl
set_option maxRecDepth 100000 in
theorem lits_st {s : PS} (hs : StOk s) (n : Nat) : Try.prog.keyLits (n + 4) psT (psC s).toList = some (litS s) := by
  have h1 : Try.prog.keyLits (n + 3) 29 (((psC s).toList.drop 0).take (Try.prog.cellsOf 29)) = some (litE s false false) := by
    rw [show Try.prog.cellsOf 29 = 20 by kernel_rfl, psC_end]
    exact lits_endD hs.num false false n
  have h2 : Try.prog.keyLits (n + 3) 27 (((psC s).toList.drop 20).take (Try.prog.cellsOf 27)) = some ((List.range 6).map (fun i => Lit.int .i64 (s.at_ i : Nat))) := by
    rw [show Try.prog.cellsOf 27 = 6 by kernel_rfl, drop_take (V := fun i => .int .i64 (s.at_ i : Nat)) (fun i hi => by rw [psC_at s (by omega)]; unfold psF; rw [if_neg (by omega), if_neg (by omega), if_neg (by omega), if_neg (by omega), if_neg (by omega), if_pos (by omega), Nat.add_sub_cancel_left])]
    exact lits_row Try.underlying27 (by kernel_rfl) (by kernel_rfl) (fun i _ => lit_int Try.underlying3 (hs.at_ i))
  have h3 : Try.prog.keyLits (n + 3) 87 (((psC s).toList.drop 26).take (Try.prog.cellsOf 87)) = some ((List.range 6).map (fun i => Lit.bool (s.begun i))) := by
    rw [show Try.prog.cellsOf 87 = 6 by kernel_rfl, drop_take (V := fun i => .bool (s.begun i)) (fun i hi => by rw [psC_at s (by omega)]; unfold psF; rw [if_neg (by omega), if_neg (by omega), if_neg (by omega), if_neg (by omega), if_neg (by omega), if_neg (by omega), if_pos (by omega), Nat.add_sub_cancel_left])]
    exact lits_row Try.underlying87 (by kernel_rfl) (by kernel_rfl) (fun i _ => lit_bool Try.underlying4 (s.begun i))
  have h4 : Try.prog.keyLits (n + 3) 88 (((psC s).toList.drop 32).take (Try.prog.cellsOf 88)) = some ((List.range 5).map (fun i => Lit.int .i64 (s.owner i))) := by
    rw [show Try.prog.cellsOf 88 = 5 by kernel_rfl, drop_take (V := fun i => .int .i64 (s.owner i)) (fun i hi => by rw [psC_at s (by omega)]; unfold psF; rw [if_neg (by omega), if_neg (by omega), if_neg (by omega), if_neg (by omega), if_neg (by omega), if_neg (by omega), if_neg (by omega), Nat.add_sub_cancel_left])]
    exact lits_row Try.underlying88 (by kernel_rfl) (by kernel_rfl) (fun i _ => lit_int Try.underlying3 (hs.owner i))
  unfold Program.keyLits
  simp only [Try.underlying90]
  rw [if_pos ⟨by simp [psC_size]; kernel_rfl, by kernel_rfl⟩]
  simp only [List.mapM_cons, List.mapM_nil, h1, h2, h3, h4, Option.bind_eq_bind, Option.bind_some, Option.pure_def, Option.map_some]
  unfold litS
  simp
theorem mapS_laid : laidOutB Try.prog = true := by kernel_rfl
set_option maxRecDepth 100000 in
theorem st_keyType : Try.prog.keyType psT = true := by kernel_rfl
set_option maxRecDepth 100000 in
theorem st_row : (psT : TypeId) < Try.prog.types.size := of_decide_eq_true (by kernel_rfl)
set_option maxRecDepth 100000 in
theorem st_many : 3 < Try.prog.types.size := of_decide_eq_true (by kernel_rfl)
set_option maxRecDepth 100000 in
theorem st_deep : Try.prog.keyTypeAt 4 psT = true := by kernel_rfl
set_option maxRecDepth 100000 in
theorem st_wide : (match Try.prog.underlying psT with | some (.array _ _) | some (.struct _) => true | _ => false) = true := by rw [Try.underlying90]
set_option maxRecDepth 100000 in
theorem st_keyed : Keyed Try.prog psT := Keyed.of_law (deep_law_laid mapS_laid (m := 4) (by omega) st_row st_deep st_wide)
theorem psC_formed (s : PS) : (Value.agg (psC s)).formed Try.prog psT = true := by simp only [Value.formed, Try.underlying90]; rw [psC_size]; kernel_rfl
def stKey (s : PS) : Lit := .string (keyBytes (litS s))
theorem keyOf_st {s : PS} (hs : StOk s) : keyOf Try.prog psT (.agg (psC s)) = some (stKey s) := by
  obtain ⟨n, hn⟩ : ∃ n, Try.prog.types.size + 1 = n + 4 := ⟨Try.prog.types.size - 3, by have := st_many; omega⟩
  have hl := lits_st hs n
  rw [← hn] at hl
  unfold keyOf
  simp only [Try.underlying90, st_keyType, psC_formed, Value.cells, hl, Bool.and_self, if_true, stKey]
  rfl
theorem stKey_inj {s s' : PS} (hs : StOk s) (hs' : StOk s') (h : stKey s = stKey s') : psC s = psC s' := by
  have e := st_keyed.inj (keyOf_st hs) (by rw [h]; exact keyOf_st hs')
  simpa using e
/-- Block b is a map whose keys are the states of S. -/
def stD (S : List PS) : DataW Unit := setOf (.agg []) (S.map stKey)
abbrev MapS (w : World) (b n : Nat) (S : List PS) : Prop := w.ownsMap Try.prog psT unitElem b n (stD S)
theorem stD_snoc (S : List PS) (s : PS) : stD (S ++ [s]) = (stD S).put (stKey s) (.agg []) := by
  simp only [stD, List.map_append, List.map_cons, List.map_nil, setOf_snoc]
theorem isKey_st (s : PS) : WideAt.IsKeyLit (stKey s) := trivial
def StZ (s : PS) : Prop := StOk s ∧ ZrP s
open Classical in
noncomputable def seenB (S : List PS) (s : PS) : Bool := decide (s ∈ S)
theorem stD_has {S : List PS} {s : PS} (hS : ∀ x ∈ S, StZ x) (hs : StZ s) : Maps.has (stD S) (stKey s) = seenB S s := by
  unfold stD
  rw [has_setOf _ _ _ (by intro x hx; obtain ⟨p, _, rfl⟩ := List.mem_map.1 hx; exact isKey_st p), Bool.eq_iff_iff, List.any_eq_true]
  rw [show (seenB S s = true ↔ s ∈ S) by simp [seenB]]
  constructor
  · rintro ⟨x, hx, e⟩
    obtain ⟨q, hq, rfl⟩ := List.mem_map.1 hx
    have h1 := stKey_inj (hS q hq).1 hs.1 (WideAt.sameKey_eq e)
    rw [← psC_inj (hS q hq).2 hs.2 h1]; exact hq
  · intro h
    exact ⟨stKey s, List.mem_map.2 ⟨s, h, rfl⟩, WideAt.sameKey_self (isKey_st s)⟩
abbrev mapT : TypeId := 181
set_option maxRecDepth 100000 in
theorem zero_unit (w : World) : (zeroValue 129).run Try.prog w = .ok (.agg #[]) w := by kernel_rfl
/-- '_, is := m[s]'. -/
theorem MapS.look {w : World} {b n : Nat} {S : List PS} (h : MapS w b n S) (hS : ∀ x ∈ S, StZ x) {s : PS} (hs : StZ s) :
    (Instr.lookup mapT (.map (some b)) (.agg (psC s)) true).run Try.prog w = .ok (.tuple #[.agg #[], .bool (seenB S s)]) w := by
  obtain ⟨v, ps, hrun, hv⟩ := h.look_ok st_keyed Try.underlying181 (zero_unit w) unitElem_mk (keyOf_st hs.1)
  obtain ⟨rfl, _⟩ := unitElem_inv hv
  rw [hrun, stD_has hS hs]
/-- 'm[s] = struct{}{}'. -/
theorem MapS.put {w : World} {b n : Nat} {S : List PS} (h : MapS w b n S) (hn : n < maxLen) {s : PS} (hs : StZ s) : ∃ w', (Instr.mapUpdate mapT (.map (some b)) (.agg (psC s)) (.agg #[])).run Try.prog w = .ok () w' ∧ MapS w' b (n + 1) (S ++ [s]) ∧ w.grownBy w' (some b) := by
  obtain ⟨w', h1, h2, h3⟩ := World.ownsMap.update h st_keyed Try.underlying181 hn (keyOf_st hs.1) unitElem_mk
  exact ⟨w', h1, by rw [MapS, stD_snoc]; exact h2, h3⟩
theorem MapS.made (w : World) : MapS (w.alloc (.map #[] 0)) w.heap.size 0 [] := World.ownsMap_made w _ _ _
theorem AtP.stz {p : List (List Ev)} {s : PS} {picks : List Int} (hp : OkP p) (h : AtP p s picks) : StZ s := by
  refine ⟨⟨h.small.ok ?_, fun i => ?_, fun i => ?_⟩, h.zr⟩
  · have h1 := sumA_le hp h.ip
    rw [h.len]; omega
  · have h1 := h.ip.at_le i
    have h2 := hp.plen i
    unfold I64; omega
  · have h1 := h.ip.own i
    have h2 := hp.six
    unfold I64; omega
end Go.Proofs.Ytoohconipcleiaa

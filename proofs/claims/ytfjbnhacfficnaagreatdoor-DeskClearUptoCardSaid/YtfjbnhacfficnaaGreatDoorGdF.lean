/- guard.run at a trace that is none; Guards, Warns. -/
import Derived.Laws.CopyRow
import Derived.Laws.CopyOwn
import Derived.Test.YtfjbnhacfficnaaGreatDoorGdE
namespace Go.Proofs.YtfjbnhacfficnaaGreatDoor
open Go.RowKit Go.Shelf
attribute [local go_sem] Oper.semAt_some

theorem Has.setRowG {w : World} {b : Nat} {cs ds : Array Value} {t : TypeId} (h : Has w b cs t) : Has (w.setRow b ds) b ds t :=
  ⟨by simp only [World.setRow, Array.getElem?_modify, if_pos, h.out, Option.map_some]⟩
theorem grown_setRowG (w : World) (b : Nat) (cs : Array Value) : w.grownBy (w.setRow b cs) (some b) :=
  ⟨rfl, rfl, rfl, by simp [World.setRow], fun k _ hk => by simp only [World.setRow, Array.getElem?_modify]; rw [if_neg (fun e => hk (by rw [e]))]⟩
theorem gsC_one (G : Nat → GV) : (gsC G).all (·.oneCell') = true := rowI_one 24 (gI G)
theorem gsC_size (G : Nat → GV) : (gsC G).size = 24 := rowI_size _ _
set_option maxRecDepth 100000 in
set_option maxHeartbeats 8000000 in
theorem gdrun_err (l : List Ev) (a : Option Addr) (c : Nat) (w : World) (h : EvS w a l) (hp : (played l).2.2 ≠ 0) :
    Calls Tryz.prog 64 #[.slice a l.length c] w (GdRun l w) := by
  have HR := Lib.hid (show GdRun l w = fun r w' => r = .returned (.tuple #[.agg (gsC fun _ => gZero), .slice none 0 0, .int .i64 (played l).2.2]) ∧ Below w.heap.size w w' by
    funext r w'
    unfold GdRun
    rw [if_neg hp])
  have r1 : ((played l).2.2 == 0) = false := beq_eq_false_iff_ne.2 hp
  clear hp
  obtain ⟨Z, hZ⟩ : ∃ Z, gsC (fun _ => gZero) = Z := ⟨_, rfl⟩
  have hZs : Z.size = 24 := by rw [← hZ]; exact gsC_size _
  have hZ1 : Z.all (·.oneCell') = true := by rw [← hZ]; exact gsC_one _
  have hun := Tryz.underlying123
  have hsz : (Tryz.prog.info? gsT).map (·.size) = some Z.size := by rw [hZs]; kernel_rfl
  have HZ := Lib.hid hZ
  rw [hZ] at HR
  clear hZ
  go_enter Tryz.func64, Tryz.ntmps64
  go_wp2_with fail
  generalize hW : World.alloc (World.alloc (World.alloc w _) _) _ = W
  have hb : Below w.heap.size w W := by rw [← hW]; exact (((Below.refl _ _).alloc (Nat.le_refl _) _).alloc (by simp) _).alloc (by simp; omega) _
  have hG : Has W (w.heap.size + 1) Z gsT := by rw [← hW, ← HZ.out]; exact (((Has.new (w.alloc _) _ _).at (by simp)).alloc _).to rfl
  have hV : Has W (w.heap.size + 1 + 1) #[.slice none 0 0] 73 := by rw [← hW]; exact (Has.new ((w.alloc _).alloc _) _ _).at (by simp)
  clear hW
  refine (check_any l a c W (h.below hb)).mono ?_
  rintro r w1 ⟨rfl, hk⟩
  have hb1 := hb.trans (hk.mono hb.size)
  have hG1 := hG.below hk hG.lt
  have hV1 := hV.below hk hV.lt
  clear hb hG hV hk
  go_upto_region 3 with fail
  refine wp_region_lit ?_
  have hG2 := hG1.setCell_ne (a := ⟨w.heap.size + 1 + 1, 0, none⟩) (by dsimp only; omega) (.slice none 0 0)
  have hV2 := (hV1.setCell 0 (.slice none 0 0)).to (ds := #[.slice none 0 0]) rfl
  have hb2 := hb1.setCell (p := ⟨w.heap.size + 1 + 1, 0, none⟩) (by dsimp only; omega) (.slice none 0 0)
  have hv1 : w1.cell? ⟨w.heap.size + 1 + 1, 0, none⟩ = some (.slice none 0 0) := hV1.cell rfl
  have hf1 : w1.frozen? ⟨w.heap.size + 1 + 1, 0, none⟩ = false := hV1.free 0
  go_wp2_with (first
    | refine wpList_load_row rfl gsT _ rfl (w.heap.size + 1) rfl gsT Z (0, 0) _ hG1.out hun rfl hsz ?_
    | (refine wpList_store_row rfl gsT _ _ rfl (w.heap.size + 1) Z rfl rfl gsT Z hG1.out hsz rfl hZ1 ?_
       rw [setRow_self _ _ _ _ _ hG1.out]))
  go_wp2
  generalize (w1.setCell ⟨w.heap.size + 1 + 1, 0, none⟩ (.slice none 0 0)) = W10 at *
  have hv1 := run_loadVar_row (P := Tryz.prog) W10 (w.heap.size + 1) gsT gsT Z (0, 0) _ hG2.out hun rfl hsz
  have hv2 : W10.cell? ⟨w.heap.size + 1 + 1, 0, none⟩ = some (.slice none 0 0) := hV2.cell rfl
  have hv3 : (loadVar 73 ⟨w.heap.size + 1 + 1, 0, none⟩).run Tryz.prog W10 = .ok (.slice none 0 0) W10 := by simp [go_sem, hv2]
  refine bodyPost_ret (v := .tuple #[.agg Z, .slice none 0 0, .int .i64 (played l).2.2]) ?_ rfl ?_
  · simp [results, Tryz.results64, asAddr, hv1, hv3]
  · rw [HR.out]
    exact ⟨rfl, hb2⟩

theorem gdrun_any (l : List Ev) (a : Option Addr) (c : Nat) (w : World) (h : EvS w a l) :
    Calls Tryz.prog 64 #[.slice a l.length c] w (GdRun l w) := by
  by_cases hp : (played l).2.2 = 0
  · exact gdrun_ok l a c w h hp
  · exact gdrun_err l a c w h hp

/-- The guards in the end. -/
def gEnd (l : List Ev) : Nat → GV := if (played l).2.2 = 0 then (gdL l l.length).G else fun _ => gZero
/-- The warnings. -/
def gWs (l : List Ev) : List Ev := if (played l).2.2 = 0 then (gdL l l.length).W else []
theorem gWs_len (l : List Ev) : (gWs l).length ≤ 80 := by
  unfold gWs
  split
  · rename_i hp
    exact Nat.le_trans (gdL_ok hp (Nat.le_refl _)).W (played_evs hp).1
  · simp
def GdAll (l : List Ev) (w : World) (r : Ending) (w' : World) : Prop := ∃ a c, r = .returned (.tuple #[.agg (gsC (gEnd l)), .slice a (gWs l).length c, .int .i64 (played l).2.2]) ∧ EvS w' a (gWs l) ∧ (gWs l).length ≤ c ∧ Below w.heap.size w w'
theorem gdrun_all (l : List Ev) (a : Option Addr) (c : Nat) (w : World) (h : EvS w a l) :
    Calls Tryz.prog 64 #[.slice a l.length c] w (GdAll l w) := by
  refine (gdrun_any l a c w h).mono ?_
  intro r w1 hr
  have hl := gWs_len l
  unfold GdRun at hr
  unfold GdAll
  unfold gWs gEnd at *
  by_cases hp : (played l).2.2 = 0
  · rw [if_pos hp] at hr
    simp only [if_pos hp] at hl ⊢
    obtain ⟨v, e, ho, hb⟩ := hr
    obtain ⟨a, c, hv, hS, _⟩ := evS_own ho (by omega)
    have hcap : (gdL l l.length).W.length ≤ c := by
      rcases ho.2 with ⟨h1, hn⟩ | ⟨g, cap, cur, h1, _, _, hcap, _⟩
      · omega
      · rw [hv] at h1
        cases h1
        exact hcap
    subst hv
    exact ⟨a, c, by rw [hp]; exact e, hS, hcap, hb⟩
  · rw [if_neg hp] at hr
    simp only [if_neg hp]
    exact ⟨none, 0, hr.1, ⟨by simp, .inl rfl⟩, Nat.le_refl _, hr.2⟩

def WarnsPost (l : List Ev) (w : World) (r : Ending) (w' : World) : Prop := ∃ a c, r = .returned (.tuple #[.slice a (gWs l).length c, .int .i64 (played l).2.2]) ∧ EvS w' a (gWs l) ∧ (gWs l).length ≤ c ∧ Below w.heap.size w w'
set_option maxRecDepth 100000 in
set_option maxHeartbeats 8000000 in
theorem warns_any (l : List Ev) (a : Option Addr) (c : Nat) (w : World) (h : EvS w a l) :
    Calls Tryz.prog 41 #[.slice a l.length c] w (WarnsPost l w) := by
  obtain ⟨Z, hZ⟩ : ∃ Z, gsC (gEnd l) = Z := ⟨_, rfl⟩
  have hZs : Z.size = 24 := by rw [← hZ]; exact gsC_size _
  have hZ1 : Z.all (·.oneCell') = true := by rw [← hZ]; exact gsC_one _
  have hsz : (Tryz.prog.info? gsT).map (·.size) = some Z.size := by rw [hZs]; kernel_rfl
  have HZ := Lib.hid hZ
  clear hZ
  go_enter Tryz.func41, Tryz.ntmps41
  go_wp2_with fail
  refine (gdrun_all l a c w h).mono ?_
  rintro r w1 ⟨a1, c1, rfl, hS, hCap, hb1⟩
  rw [HZ.out]
  have HCap := Lib.hid hCap
  clear hCap
  generalize hn1 : (gWs l).length = n1 at hZs hZ1 hsz HZ ⊢
  have HN := Lib.hid hn1
  clear hn1
  go_wp2_with (
    (refine wpList_store_row rfl gsT _ _ rfl w1.heap.size Z rfl rfl gsT _ (Has.new w1 (gsC fun _ => gZero) gsT).out hsz (by rw [hZs]; exact gsC_size _) hZ1 ?_
     generalize hW2 : World.setRow _ w1.heap.size Z = W2
     have hbA : Below w1.heap.size w1 W2 := by rw [← hW2]; exact below_setRow ((Below.refl w1.heap.size w1).alloc (Nat.le_refl _) _) (Nat.le_refl _) Z
     have HW := Lib.hid (show WarnsPost l w (.returned (.tuple #[.slice a1 n1 c1, .int .i64 (played l).2.2])) W2 from ⟨a1, c1, by rw [HN.out], hS.below hbA, HCap.out, hb1.trans (hbA.mono hb1.size)⟩)
     clear hW2 hbA))
  go_ret2
  exact HW.out
end Go.Proofs.YtfjbnhacfficnaaGreatDoor

/- Contract of every.walked. -/
import Derived.Test.YtoohconipcleiaaMV
namespace Go.Proofs.Ytoohconipcleiaa
open Go.RowKit

section
variable {V : Type} {p : List (List Ev)} {w0 : World} {ap : Option Addr} {cp f : Nat} {lb : Array Value} {len : V → Nat} {go : V → PS → List Int → V × Bool} {Q : Nat → V → (Nat → Prop) → World → Prop}
set_option maxRecDepth 100000 in
set_option maxHeartbeats 4000000 in
theorem walked_ok (hp : OkP p) (hpg : PgS w0 ap p) (hV : ∀ bm, Visits p w0 bm f lb len go (Q bm)) (ht : totL p ≤ 10) (v : V) (h0 : len v = 0) (X : Nat → Prop) (w : World) (hQ : Q w.heap.size v X w) (hb : Below w0.heap.size w0 w) :
    Calls Try.prog 55 #[.slice ap p.length cp, .func (.func f) #[] lb] w fun r w' => r = .returned (.tuple #[]) ∧ ∃ X', Q w.heap.size (walkP p go v).1.2 X' w' ∧ Kept X w w' ∧ NewX w X X' := by
  have hXs : ¬ X w.heap.size := fun h => by have := ((hV _).lt _ _ _ hQ _ h).2; omega
  have hXs1 : ¬ X (w.heap.size + 1) := fun h => by have := ((hV _).lt _ _ _ hQ _ h).2; omega
  have hbs := hb.size
  have hmk : (Instr.makeMap mapT none).run Try.prog w = .ok (.map (some w.heap.size)) (w.alloc (.map #[] 0)) := by kernel_rfl
  go_enter Try.func55, Try.ntmps55
  go_upto_region 1 with fail
  generalize hW : World.alloc _ _ = W
  have hI : WalkI p w0 ap cp (w.heap.size + 1) w.heap.size f lb len (Q w.heap.size) ([], v) X W := by
    have hk1 : Below w.heap.size w (w.alloc (.map #[] 0)) := (Below.refl _ _).alloc (Nat.le_refl _) _
    have hk2 : Below (w.heap.size + 1) (w.alloc (.map #[] 0)) W := by rw [← hW]; exact (Below.refl _ _).alloc (by simp) _
    have hk3 : Below w.heap.size w W := hk1.trans (hk2.mono (Nat.le_succ _))
    refine ⟨?_, ?_, (hV _).keep _ _ _ _ hQ hXs (Kept.of_below hk3), hb.trans (hk3.mono hbs), hXs1, hXs, Nat.succ_ne_self _, hbs, fun x hx => (by simp at hx), by show len v ≤ _; omega⟩
    · rw [← hW]; exact (Has.new (w.alloc (.map #[] 0)) _ wkT).at (by simp)
    · exact World.ownsMap.kept (row := none) (MapS.made w) ⟨hk2.os, hk2.tape, hk2.output, hk2.size, fun j hj _ => hk2.block j (by simpa using hj)⟩ (by simp)
  have hk : Below w.heap.size w W := by rw [← hW]; exact ((Below.refl _ _).alloc (Nat.le_refl _) _).alloc (by simp) _
  clear hW
  go_wp2_with fail
  refine (firstP_any W).mono ?_
  rintro r w1 ⟨rfl, hb1⟩
  have hI1 := hI.on (hV _) hb1
  have hk1 := hk.trans (hb1.mono hk.size)
  have hF := from_ok hp (hV _) hpg 11 ([], v) PS.first [] X w1 none 0 hI1 (AtP.first hp) (by omega) (by show 0 + 7 ^ 11 < 20000000000; decide) ⟨by simp, .inl rfl⟩ (fun _ => ⟨rfl, rfl⟩) (fun ad e => by cases e)
  clear hI hb1 hk
  generalize psC PS.first = Y at *
  go_wp2_with fail
  refine hF.mono ?_
  rintro r w2 ⟨rfl, X', hI2, hkv, hx⟩
  clear hF
  go_wp2
  go_end0
  refine ⟨rfl, X', hI2.q, ?_, fun k h => (hx k h).imp id (fun h => Nat.le_trans hk1.size h)⟩
  refine ⟨hkv.os.trans hk1.os, hkv.tape.trans hk1.tape, hkv.output.trans hk1.output, Nat.le_trans hk1.size hkv.size, fun k hk hn => ?_⟩
  rw [hkv.block k (Nat.lt_of_lt_of_le hk hk1.size) (fun h => h.elim hn (fun e => by omega)), hk1.block k hk]
end
end Go.Proofs.Ytoohconipcleiaa

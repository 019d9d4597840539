/-
  Node: what kinds want, looked up, is the one test of a node.
  Conditions: none.
-/
import Derived.Test.YtibgfgfmljhimaaGramA
import Derived.Maps.Own
set_option linter.unusedVariables false
set_option linter.unusedSimpArgs false
namespace Go.Proofs.Ytibgfgfmljhimaa
open Go.RowKit Go.MapKept

theorem kind_inj (a b : Int) (h : Value.int .i64 a = Value.int .i64 b) : a = b := by cases h; rfl
theorem Try.keyedKind : Maps.Keyed Try.prog 26 := Maps.int_keyed Try.underlying26
theorem kindKey (k : Int) (h : I64 k) : ∃ l, keyOf Try.prog 26 (.int .i64 k) = some l := ⟨_, Maps.keyOf_int_mk Try.underlying26 h.wf⟩
def shapeF (f : Nat) : Value := .func (.func f) #[] #[]
def wantsM (k : Int) : Option Value :=
  if k = 1 ∨ k = 2 then some (shapeF 130) else if k = 3 then some (shapeF 131)
  else if k = 4 then some (shapeF 132) else if k = 5 then some (shapeF 133)
  else if k = 6 ∨ k = 7 then some (shapeF 134) else if 8 ≤ k ∧ k ≤ 12 then some (shapeF 135) else none
def WantsPost (w : World) (e : Ending) (w' : World) : Prop :=
  e = .returned (.map (some w.heap.size)) ∧ MapIs Try.prog 26 (Value.int .i64) w' w.heap.size wantsM ∧ Chg [] w w'

set_option maxRecDepth 100000 in
set_option maxHeartbeats 1000000 in
theorem wants_any (w : World) : Calls Try.prog 84 #[] w (WantsPost w) := by
  have hmm := @run_makeMap Try.prog
  have key := fun k h => (kindKey k h)
  obtain ⟨l1, k1⟩ := key 1 (by decide)
  obtain ⟨l2, k2⟩ := key 2 (by decide)
  obtain ⟨l3, k3⟩ := key 3 (by decide)
  obtain ⟨l4, k4⟩ := key 4 (by decide)
  obtain ⟨l5, k5⟩ := key 5 (by decide)
  obtain ⟨l6, k6⟩ := key 6 (by decide)
  obtain ⟨l7, k7⟩ := key 7 (by decide)
  obtain ⟨l8, k8⟩ := key 8 (by decide)
  obtain ⟨l9, k9⟩ := key 9 (by decide)
  obtain ⟨l10, k10⟩ := key 10 (by decide)
  obtain ⟨l11, k11⟩ := key 11 (by decide)
  obtain ⟨l12, k12⟩ := key 12 (by decide)
  obtain ⟨w1, r1, M1, h1⟩ := (MapIs.made Try.prog 26 (Value.int .i64) w).put kind_inj Try.keyedKind Try.underlying85 k1 (shapeF 130)
  obtain ⟨w2, r2, M2, h2⟩ := M1.put kind_inj Try.keyedKind Try.underlying85 k2 (shapeF 130)
  obtain ⟨w3, r3, M3, h3⟩ := M2.put kind_inj Try.keyedKind Try.underlying85 k3 (shapeF 131)
  obtain ⟨w4, r4, M4, h4⟩ := M3.put kind_inj Try.keyedKind Try.underlying85 k4 (shapeF 132)
  obtain ⟨w5, r5, M5, h5⟩ := M4.put kind_inj Try.keyedKind Try.underlying85 k5 (shapeF 133)
  obtain ⟨w6, r6, M6, h6⟩ := M5.put kind_inj Try.keyedKind Try.underlying85 k6 (shapeF 134)
  obtain ⟨w7, r7, M7, h7⟩ := M6.put kind_inj Try.keyedKind Try.underlying85 k7 (shapeF 134)
  obtain ⟨w8, r8, M8, h8⟩ := M7.put kind_inj Try.keyedKind Try.underlying85 k8 (shapeF 135)
  obtain ⟨w9, r9, M9, h9⟩ := M8.put kind_inj Try.keyedKind Try.underlying85 k9 (shapeF 135)
  obtain ⟨w10, r10, M10, h10⟩ := M9.put kind_inj Try.keyedKind Try.underlying85 k10 (shapeF 135)
  obtain ⟨w11, r11, M11, h11⟩ := M10.put kind_inj Try.keyedKind Try.underlying85 k11 (shapeF 135)
  obtain ⟨w12, r12, M12, h12⟩ := M11.put kind_inj Try.keyedKind Try.underlying85 k12 (shapeF 135)
  have hM : MapIs Try.prog 26 (Value.int .i64) w12 w.heap.size wantsM := M12.congr fun p => by
    unfold wantsM
    by_cases e1 : p = 1 <;> by_cases e2 : p = 2 <;> by_cases e3 : p = 3 <;> by_cases e4 : p = 4 <;> by_cases e5 : p = 5 <;> by_cases e6 : p = 6 <;> by_cases e7 : p = 7 <;> by_cases e8 : p = 8 <;> by_cases e9 : p = 9 <;> by_cases e10 : p = 10 <;> by_cases e11 : p = 11 <;> by_cases e12 : p = 12 <;>
      first
      | (exfalso; omega)
      | (subst_vars; rfl)
      | (simp [*]; omega)
  have hc : Chg [] w w12 := by
    have b := fun {S : List Nat} {x y : World} (h : Chg S x y) => h
    have t1 := ((Chg.refl [] w).alloc (.map #[] 0))
    have up := fun {x y : World} (h : Chg [] w x) (k : Chg [w.heap.size] x y) => h.trans k (fun j hj => .inr (by simp at hj; omega))
    exact up (up (up (up (up (up (up (up (up (up (up (up t1 h1) h2) h3) h4) h5) h6) h7) h8) h9) h10) h11) h12
  have H := Lib.hid (And.intro hM hc)
  clear hM hc M1 M2 M3 M4 M5 M6 M7 M8 M9 M10 M11 M12 h1 h2 h3 h4 h5 h6 h7 h8 h9 h10 h11 h12 k1 k2 k3 k4 k5 k6 k7 k8 k9 k10 k11 k12 key
  unfold shapeF at *
  go_enter Try.func84, Try.ntmps84
  go_wp2
  go_ret
  exact ⟨rfl, H.out⟩
end Go.Proofs.Ytibgfgfmljhimaa

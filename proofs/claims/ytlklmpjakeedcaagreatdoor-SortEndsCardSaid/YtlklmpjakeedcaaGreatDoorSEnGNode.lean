/-
 What kinds want of a node: the seven tests of a node's shape.
 Conditions: none.
-/
import Derived.Test.YtlklmpjakeedcaaGreatDoorSEnGRule
import Derived.Maps.Own
import Derived.Shelf.Abstract
set_option linter.unusedVariables false
set_option linter.unusedSimpArgs false
namespace Go.Proofs.YtlklmpjakeedcaaGreatDoor
open Go.RowKit Go.MapKept

set_option maxRecDepth 100000 in
theorem plain_any (w : World) (k c0 c1 c2 c3 r l q : Int) (s : ByteArray) (a : Option Addr) (n m : Nat) :
  Calls Tryz.prog 174 #[.agg #[.int .i64 k, .int .u64 c0, .int .u64 c1, .int .u64 c2, .int .u64 c3, .string s, .int .i64 r, .int .i64 l, .slice a n m, .int .i64 q]] w fun e w' =>
   e = .returned (.bool (decide (c0 = 0 ∧ c1 = 0 ∧ c2 = 0 ∧ c3 = 0) && decide (s.toList = []) && decide (r = 0) && decide (l = 0))) ∧ Chg [] w w' := by
 go_enter Tryz.func174, Tryz.ntmps174
 go_wp2
 all_goals go_ret
 all_goals refine ⟨ret_bool ?_, (Chg.refl _ _).alloc _⟩
 all_goals (simp_all <;> (by_cases hl : l = 0 <;> simp [hl]))

set_option maxRecDepth 100000 in
theorem bare_any (w : World) (k c0 c1 c2 c3 r l q : Int) (s : ByteArray) (a : Option Addr) (n m : Nat) :
  Calls Tryz.prog 141 #[.agg #[.int .i64 k, .int .u64 c0, .int .u64 c1, .int .u64 c2, .int .u64 c3, .string s, .int .i64 r, .int .i64 l, .slice a n m, .int .i64 q]] w fun e w' =>
   e = .returned (.bool (plainB c0 c1 c2 c3 r l s && decide (n = 0))) ∧ Chg [] w w' := by
 cases hp : plainB c0 c1 c2 c3 r l s
 all_goals go_enter Tryz.func141, Tryz.ntmps141
 all_goals go_wp2_with fail
 all_goals refine (plain_any _ _ _ _ _ _ _ _ _ _ _ _ _).mono ?_
 all_goals rintro e w1 ⟨rfl, hc⟩
 all_goals rw [show (decide (c0 = 0 ∧ c1 = 0 ∧ c2 = 0 ∧ c3 = 0) && decide (s.toList = []) && decide (r = 0) && decide (l = 0)) = _ from hp]
 all_goals have hh := hc.heap (heap_alloc_same _ _) (by simp)
 all_goals have c8 := cell_of_cells hh 8
 all_goals simp at c8
 all_goals have HC := Lib.hid hc
 all_goals clear hc hh
 all_goals go_wp2
 all_goals go_ret
 all_goals refine ⟨ret_bool ?_, ((Chg.refl _ _).alloc _).tr HC.out⟩
 ·simp
 ·by_cases hn : n = 0 <;> simp [hn]

set_option maxRecDepth 100000 in
theorem one_any (w : World) (k c0 c1 c2 c3 r l q : Int) (s : ByteArray) (a : Option Addr) (n m : Nat) :
  Calls Tryz.prog 146 #[.agg #[.int .i64 k, .int .u64 c0, .int .u64 c1, .int .u64 c2, .int .u64 c3, .string s, .int .i64 r, .int .i64 l, .slice a n m, .int .i64 q]] w fun e w' =>
   e = .returned (.bool (plainB c0 c1 c2 c3 r l s && decide (n = 1))) ∧ Chg [] w w' := by
 cases hp : plainB c0 c1 c2 c3 r l s
 all_goals go_enter Tryz.func146, Tryz.ntmps146
 all_goals go_wp2_with fail
 all_goals refine (plain_any _ _ _ _ _ _ _ _ _ _ _ _ _).mono ?_
 all_goals rintro e w1 ⟨rfl, hc⟩
 all_goals rw [show (decide (c0 = 0 ∧ c1 = 0 ∧ c2 = 0 ∧ c3 = 0) && decide (s.toList = []) && decide (r = 0) && decide (l = 0)) = _ from hp]
 all_goals have hh := hc.heap (heap_alloc_same _ _) (by simp)
 all_goals have c8 := cell_of_cells hh 8
 all_goals simp at c8
 all_goals have HC := Lib.hid hc
 all_goals clear hc hh
 all_goals go_wp2
 all_goals go_ret
 all_goals refine ⟨ret_bool ?_, ((Chg.refl _ _).alloc _).tr HC.out⟩
 all_goals first | (simp; done) | (rw [Bool.eq_iff_iff]; simp; omega)

set_option maxRecDepth 100000 in
theorem many_any (w : World) (k c0 c1 c2 c3 r l q : Int) (s : ByteArray) (a : Option Addr) (n m : Nat) :
  Calls Tryz.prog 145 #[.agg #[.int .i64 k, .int .u64 c0, .int .u64 c1, .int .u64 c2, .int .u64 c3, .string s, .int .i64 r, .int .i64 l, .slice a n m, .int .i64 q]] w fun e w' =>
   e = .returned (.bool (plainB c0 c1 c2 c3 r l s && decide (2 ≤ n) && decide (n ≤ 64))) ∧ Chg [] w w' := by
 cases hp : plainB c0 c1 c2 c3 r l s
 all_goals go_enter Tryz.func145, Tryz.ntmps145
 all_goals go_wp2_with fail
 all_goals refine (plain_any _ _ _ _ _ _ _ _ _ _ _ _ _).mono ?_
 all_goals rintro e w1 ⟨rfl, hc⟩
 all_goals rw [show (decide (c0 = 0 ∧ c1 = 0 ∧ c2 = 0 ∧ c3 = 0) && decide (s.toList = []) && decide (r = 0) && decide (l = 0)) = _ from hp]
 all_goals have hh := hc.heap (heap_alloc_same _ _) (by simp)
 all_goals have c8 := cell_of_cells hh 8
 all_goals simp at c8
 all_goals have HC := Lib.hid hc
 all_goals clear hc hh
 all_goals go_wp2
 all_goals go_ret
 all_goals refine ⟨ret_bool ?_, ((Chg.refl _ _).alloc _).tr HC.out⟩
 all_goals first | (simp; done) | (rw [Bool.eq_iff_iff]; simp; omega)

set_option maxRecDepth 100000 in
theorem text_any (w : World) (k c0 c1 c2 c3 r l q : Int) (s : ByteArray) (a : Option Addr) (n m : Nat) :
  Calls Tryz.prog 143 #[.agg #[.int .i64 k, .int .u64 c0, .int .u64 c1, .int .u64 c2, .int .u64 c3, .string s, .int .i64 r, .int .i64 l, .slice a n m, .int .i64 q]] w fun e w' =>
   e = .returned (.bool (decide (0 < s.size) && decide (s.size ≤ 64) && (plainB c0 c1 c2 c3 r l ⟨#[]⟩ && decide (n = 0)))) ∧ Chg [] w w' := by
 by_cases hs : 0 < s.size ∧ s.size ≤ 64
 ·cases hp : (plainB c0 c1 c2 c3 r l ⟨#[]⟩ && decide (n = 0))
  all_goals go_enter Tryz.func143, Tryz.ntmps143
  all_goals go_wp2_with fail
  all_goals refine (bare_any _ _ _ _ _ _ _ _ _ _ _ _ _).mono ?_
  all_goals rintro e w1 ⟨rfl, hc⟩
  all_goals rw [hp]
  all_goals have HC := Lib.hid hc
  all_goals clear hc
  all_goals go_wp2
  all_goals go_ret
  all_goals refine ⟨ret_bool ?_, ((Chg.refl _ _).alloc _).tr HC.out⟩
  all_goals simp [hs.1, hs.2]
 ·go_enter Tryz.func143, Tryz.ntmps143
  go_wp2_with fail
  all_goals go_ret
  all_goals refine ⟨ret_bool ?_, (Chg.refl _ _).alloc _⟩
  all_goals first | (simp; done) | (simp; omega) | (rw [Bool.eq_iff_iff]; simp; omega)

set_option maxRecDepth 100000 in
theorem call_any (w : World) (k c0 c1 c2 c3 r l q : Int) (s : ByteArray) (a : Option Addr) (n m : Nat) :
  Calls Tryz.prog 144 #[.agg #[.int .i64 k, .int .u64 c0, .int .u64 c1, .int .u64 c2, .int .u64 c3, .string s, .int .i64 r, .int .i64 l, .slice a n m, .int .i64 q]] w fun e w' =>
   e = .returned (.bool (decide (0 ≤ r ∧ r < q ∧ 0 ≤ l ∧ l ≤ 99) && (plainB c0 c1 c2 c3 0 0 s && decide (n = 0)))) ∧ Chg [] w w' := by
 by_cases hs : 0 ≤ r ∧ r < q ∧ 0 ≤ l ∧ l ≤ 99
 ·cases hp : (plainB c0 c1 c2 c3 0 0 s && decide (n = 0))
  all_goals go_enter Tryz.func144, Tryz.ntmps144
  all_goals go_wp2_with fail
  all_goals refine (bare_any _ _ _ _ _ _ _ _ _ _ _ _ _).mono ?_
  all_goals rintro e w1 ⟨rfl, hc⟩
  all_goals rw [hp]
  all_goals have HC := Lib.hid hc
  all_goals clear hc
  all_goals go_wp2
  all_goals go_ret
  all_goals refine ⟨ret_bool ?_, ((Chg.refl _ _).alloc _).tr HC.out⟩
  all_goals simp [hs]
 ·go_enter Tryz.func144, Tryz.ntmps144
  go_wp2_with fail
  all_goals go_ret
  all_goals refine ⟨ret_bool ?_, (Chg.refl _ _).alloc _⟩
  all_goals first | (simp; done) | (simp; omega) | (rw [Bool.eq_iff_iff]; simp; omega)

set_option maxRecDepth 100000 in
theorem set_any (w : World) (k c0 c1 c2 c3 r l q : Int) (s : ByteArray) (a : Option Addr) (n m : Nat) :
  Calls Tryz.prog 142 #[.agg #[.int .i64 k, .int .u64 c0, .int .u64 c1, .int .u64 c2, .int .u64 c3, .string s, .int .i64 r, .int .i64 l, .slice a n m, .int .i64 q]] w fun e w' =>
   e = .returned (.bool (!decide (c0 = 0 ∧ c1 = 0 ∧ c2 = 0 ∧ c3 = 0) && (plainB 0 0 0 0 r l s && decide (n = 0)))) ∧ Chg [] w w' := by
 by_cases hs : ¬ (c0 = 0 ∧ c1 = 0 ∧ c2 = 0 ∧ c3 = 0)
 ·cases hp : (plainB 0 0 0 0 r l s && decide (n = 0))
  all_goals go_enter Tryz.func142, Tryz.ntmps142
  all_goals go_wp2_with fail
  all_goals refine (bare_any _ _ _ _ _ _ _ _ _ _ _ _ _).mono ?_
  all_goals rintro e w1 ⟨rfl, hc⟩
  all_goals rw [hp]
  all_goals have HC := Lib.hid hc
  all_goals clear hc
  all_goals go_wp2
  all_goals go_ret
  all_goals refine ⟨ret_bool ?_, (((Chg.refl _ _).alloc _).alloc _).tr HC.out⟩
  all_goals simp [hs]
 ·go_enter Tryz.func142, Tryz.ntmps142
  go_wp2_with fail
  all_goals go_ret
  all_goals refine ⟨ret_bool ?_, ((Chg.refl _ _).alloc _).alloc _⟩
  all_goals first | (simp; done) | (simp; omega) | (rw [Bool.eq_iff_iff]; simp; omega)
end Go.Proofs.YtlklmpjakeedcaaGreatDoor
set_option linter.unusedVariables false
set_option linter.unusedSimpArgs false
namespace Go.Proofs.YtlklmpjakeedcaaGreatDoor
open Go.RowKit Go.MapKept

theorem kind_inj (a b : Int) (h : Value.int .i64 a = Value.int .i64 b) : a = b := by cases h; rfl
theorem Tryz.keyedKind : Maps.Keyed Tryz.prog 46 := Maps.int_keyed Tryz.underlying46
theorem kindKey (k : Int) (h : I64 k) : ∃ l, keyOf Tryz.prog 46 (.int .i64 k) = some l := ⟨_, Maps.keyOf_int_mk Tryz.underlying46 h.wf⟩
def shapeF (f : Nat) : Value := .func (.func f) #[] #[]
def wantsM (k : Int) : Option Value :=
 if k = 1 ∨ k = 2 then some (shapeF 141) else if k = 3 then some (shapeF 142)
 else if k = 4 then some (shapeF 143) else if k = 5 then some (shapeF 144)
 else if k = 6 ∨ k = 7 then some (shapeF 145) else if 8 ≤ k ∧ k ≤ 12 then some (shapeF 146) else none
def WantsPost (w : World) (e : Ending) (w' : World) : Prop :=
 e = .returned (.map (some w.heap.size)) ∧ MapIs Tryz.prog 46 (Value.int .i64) w' w.heap.size wantsM ∧ Chg [] w w'

set_option maxRecDepth 100000 in
set_option maxHeartbeats 1000000 in
theorem wants_any (w : World) : Calls Tryz.prog 96 #[] w (WantsPost w) := by
 have hmm := @run_makeMap Tryz.prog
 have key := fun k h => (kindKey k h)
 obtain ⟨l1, k1⟩ := key 1 (by decide)
 obtain ⟨l2, k2⟩ := key 2 (by decide)
 obtain ⟨l3, k3⟩ := key 3 (by decide)
 obtain ⟨l4, k4⟩ := key 4 (by decide)
 obtain ⟨l5, k5⟩ := key 5 (by decide)
 obtain ⟨l6, k6⟩ := key 6 (by decide)
 obtain ⟨l7, k7⟩ := key 7 (by decide)
 obtain ⟨l8, k8⟩ := key 8 (by decide)
 obtain ⟨l9, k9⟩ := key 9 (by decide)
 obtain ⟨l10, k10⟩ := key 10 (by decide)
 obtain ⟨l11, k11⟩ := key 11 (by decide)
 obtain ⟨l12, k12⟩ := key 12 (by decide)
 obtain ⟨w1, r1, M1, h1⟩ := (MapIs.made Tryz.prog 46 (Value.int .i64) w).put kind_inj Tryz.keyedKind Tryz.underlying146 k1 (shapeF 141)
 obtain ⟨w2, r2, M2, h2⟩ := M1.put kind_inj Tryz.keyedKind Tryz.underlying146 k2 (shapeF 141)
 obtain ⟨w3, r3, M3, h3⟩ := M2.put kind_inj Tryz.keyedKind Tryz.underlying146 k3 (shapeF 142)
 obtain ⟨w4, r4, M4, h4⟩ := M3.put kind_inj Tryz.keyedKind Tryz.underlying146 k4 (shapeF 143)
 obtain ⟨w5, r5, M5, h5⟩ := M4.put kind_inj Tryz.keyedKind Tryz.underlying146 k5 (shapeF 144)
 obtain ⟨w6, r6, M6, h6⟩ := M5.put kind_inj Tryz.keyedKind Tryz.underlying146 k6 (shapeF 145)
 obtain ⟨w7, r7, M7, h7⟩ := M6.put kind_inj Tryz.keyedKind Tryz.underlying146 k7 (shapeF 145)
 obtain ⟨w8, r8, M8, h8⟩ := M7.put kind_inj Tryz.keyedKind Tryz.underlying146 k8 (shapeF 146)
 obtain ⟨w9, r9, M9, h9⟩ := M8.put kind_inj Tryz.keyedKind Tryz.underlying146 k9 (shapeF 146)
 obtain ⟨w10, r10, M10, h10⟩ := M9.put kind_inj Tryz.keyedKind Tryz.underlying146 k10 (shapeF 146)
 obtain ⟨w11, r11, M11, h11⟩ := M10.put kind_inj Tryz.keyedKind Tryz.underlying146 k11 (shapeF 146)
 obtain ⟨w12, r12, M12, h12⟩ := M11.put kind_inj Tryz.keyedKind Tryz.underlying146 k12 (shapeF 146)
 have hM : MapIs Tryz.prog 46 (Value.int .i64) w12 w.heap.size wantsM := M12.congr fun p => by
  unfold wantsM
  by_cases e1 : p = 1 <;> by_cases e2 : p = 2 <;> by_cases e3 : p = 3 <;> by_cases e4 : p = 4 <;> by_cases e5 : p = 5 <;> by_cases e6 : p = 6 <;> by_cases e7 : p = 7 <;> by_cases e8 : p = 8 <;> by_cases e9 : p = 9 <;> by_cases e10 : p = 10 <;> by_cases e11 : p = 11 <;> by_cases e12 : p = 12 <;>
   first
   | (exfalso; omega)
   | (subst_vars; rfl)
   | (simp [*]; omega)
 have hc : Chg [] w w12 := by
  have b := fun {S : List Nat} {x y : World} (h : Chg S x y) => h
  have t1 := ((Chg.refl [] w).alloc (.map #[] 0))
  have up := fun {x y : World} (h : Chg [] w x) (k : Chg [w.heap.size] x y) => h.trans k (fun j hj => .inr (by simp at hj; omega))
  exact up (up (up (up (up (up (up (up (up (up (up (up t1 h1) h2) h3) h4) h5) h6) h7) h8) h9) h10) h11) h12
 have H := Lib.hid (And.intro hM hc)
 clear hM hc M1 M2 M3 M4 M5 M6 M7 M8 M9 M10 M11 M12 h1 h2 h3 h4 h5 h6 h7 h8 h9 h10 h11 h12 k1 k2 k3 k4 k5 k6 k7 k8 k9 k10 k11 k12 key
 unfold shapeF at *
 go_enter Tryz.func96, Tryz.ntmps96
 go_wp2
 go_ret
 exact ⟨rfl, H.out⟩
end Go.Proofs.YtlklmpjakeedcaaGreatDoor
set_option linter.unusedVariables false
set_option linter.unusedSimpArgs false
namespace Go.Proofs.YtlklmpjakeedcaaGreatDoor
open Go.RowKit Go.MapKept Go.Shelf

def NodePost (b : Bool) (w : World) (e : Ending) (w' : World) : Prop := e = .returned (.bool b) ∧ Chg [] w w'
set_option maxRecDepth 100000 in
set_option maxHeartbeats 2000000 in
theorem Node_some (w : World) (k c0 c1 c2 c3 r l q : Int) (s : ByteArray) (a : Option Addr) (n m : Nat) (hk : I64 k) (f : Nat) (b : Bool) (hf : wantsM k = some (shapeF f))
  (hc : ∀ w1, Calls Tryz.prog f #[.agg #[.int .i64 k, .int .u64 c0, .int .u64 c1, .int .u64 c2, .int .u64 c3, .string s, .int .i64 r, .int .i64 l, .slice a n m, .int .i64 q]] w1 fun e w' => e = .returned (.bool b) ∧ Chg [] w1 w')
  (eg : ∀ args w, (callFunc f args).run Tryz.prog w = .ok (.enter f args) w) :
  Calls Tryz.prog 67 #[.agg #[.int .i64 k, .int .u64 c0, .int .u64 c1, .int .u64 c2, .int .u64 c3, .string s, .int .i64 r, .int .i64 l, .slice a n m], .int .i64 q] w (NodePost b w) := by
 obtain ⟨lk, hlk⟩ := kindKey k hk
 have H := Lib.hid (And.intro hf (And.intro hc hlk))
 clear hf hc hlk hk
 go_enter Tryz.func67, Tryz.ntmps67
 go_wp2_with fail
 go_region_with (go_at_call 96; refine (wants_any _).mono ?_; rintro e w2 ⟨rfl, hM2, hc2⟩; have hM2 : MapIs Tryz.prog 46 (Value.int .i64) w2 (w.heap.size + 1) wantsM := (by simpa using hM2); have hh := hc2.heap (k := w.heap.size) (o := .cells #[.int .i64 k, .int .u64 c0, .int .u64 c1, .int .u64 c2, .int .u64 c3, .string s, .int .i64 r, .int .i64 l, .slice a n m] 65) (heap_alloc_same w _) (by simp); have hl := (hM2.chg (w' := w2) (Chg.refl [] _) (by simp)).look kind_inj Tryz.keyedKind Tryz.underlying146 (z := .nilFunc) rfl H.out.2.2 false; rw [H.out.1] at hl; simp only [Bool.false_eq_true, if_false, Option.getD_some, shapeF] at hl; have c0' := (cells9 hh).1; have HH := Lib.hid (And.intro hh hc2); clear hh hM2 hc2)
 all_goals obtain ⟨_, x1, x2, x3, x4, x5, x6, x7, x8⟩ := cells9 HH.out.1
 all_goals clear hl
 all_goals have hnq := fun (w : World) => neq_func Tryz.underlying145 w (.func f) #[] #[]
 all_goals go_wp2_with fail
 all_goals refine (H.out.2.1 _).mono ?_
 all_goals rintro e w3 ⟨rfl, hc3⟩
 all_goals have H3 := Lib.hid hc3
 all_goals clear hc3
 all_goals go_wp2
 all_goals go_ret
 all_goals exact ⟨rfl, (((Chg.refl _ _).alloc _).drew.tr HH.out.2).tr H3.out⟩

set_option maxRecDepth 100000 in
set_option maxHeartbeats 2000000 in
theorem Node_none (w : World) (k c0 c1 c2 c3 r l q : Int) (s : ByteArray) (a : Option Addr) (n m : Nat) (hk : I64 k) (hf : wantsM k = none) :
  Calls Tryz.prog 67 #[.agg #[.int .i64 k, .int .u64 c0, .int .u64 c1, .int .u64 c2, .int .u64 c3, .string s, .int .i64 r, .int .i64 l, .slice a n m], .int .i64 q] w (NodePost false w) := by
 obtain ⟨lk, hlk⟩ := kindKey k hk
 have H := Lib.hid (And.intro hf hlk)
 clear hf hlk hk
 go_enter Tryz.func67, Tryz.ntmps67
 go_wp2_with fail
 go_region_with (go_at_call 96; refine (wants_any _).mono ?_; rintro e w2 ⟨rfl, hM2, hc2⟩; have hM2 : MapIs Tryz.prog 46 (Value.int .i64) w2 (w.heap.size + 1) wantsM := (by simpa using hM2); have hh := hc2.heap (k := w.heap.size) (o := .cells #[.int .i64 k, .int .u64 c0, .int .u64 c1, .int .u64 c2, .int .u64 c3, .string s, .int .i64 r, .int .i64 l, .slice a n m] 65) (heap_alloc_same w _) (by simp); have hl := (hM2.chg (w' := w2) (Chg.refl [] _) (by simp)).look kind_inj Tryz.keyedKind Tryz.underlying146 (z := .nilFunc) rfl H.out.2 false; rw [H.out.1] at hl; simp only [Bool.false_eq_true, if_false, Option.getD_none, shapeF] at hl; have c0' := (cells9 hh).1; have HH := Lib.hid (And.intro hh hc2); clear hh hM2 hc2)
 all_goals clear hl
 all_goals have hnq := fun (w : World) => neq_func_nil Tryz.underlying145 w
 all_goals go_wp2_with fail
 all_goals go_ret
 all_goals exact ⟨rfl, ((Chg.refl _ _).alloc _).drew.tr HH.out.2⟩

theorem Node_any (w : World) (k c0 c1 c2 c3 r l q : Int) (s : ByteArray) (a : Option Addr) (n m : Nat) (hk : I64 k) :
  Calls Tryz.prog 67 #[.agg #[.int .i64 k, .int .u64 c0, .int .u64 c1, .int .u64 c2, .int .u64 c3, .string s, .int .i64 r, .int .i64 l, .slice a n m], .int .i64 q] w (NodePost (nodeN k c0 c1 c2 c3 r l q s n) w) := by
 unfold nodeN
 by_cases h1 : k = 1 ∨ k = 2
 ·rw [if_pos h1]
  exact Node_some w k c0 c1 c2 c3 r l q s a n m hk 141 _ (by unfold wantsM; rw [if_pos h1]) (fun w1 => bare_any w1 k c0 c1 c2 c3 r l q s a n m) (enters_of Tryz.func141 (by kernel_rfl) rfl)
 rw [if_neg h1]
 by_cases h3 : k = 3
 ·rw [if_pos h3]
  exact Node_some w k c0 c1 c2 c3 r l q s a n m hk 142 _ (by unfold wantsM; rw [if_neg h1, if_pos h3]) (fun w1 => set_any w1 k c0 c1 c2 c3 r l q s a n m) (enters_of Tryz.func142 (by kernel_rfl) rfl)
 rw [if_neg h3]
 by_cases h4 : k = 4
 ·rw [if_pos h4]
  exact Node_some w k c0 c1 c2 c3 r l q s a n m hk 143 _ (by unfold wantsM; rw [if_neg h1, if_neg h3, if_pos h4]) (fun w1 => text_any w1 k c0 c1 c2 c3 r l q s a n m) (enters_of Tryz.func143 (by kernel_rfl) rfl)
 rw [if_neg h4]
 by_cases h5 : k = 5
 ·rw [if_pos h5]
  exact Node_some w k c0 c1 c2 c3 r l q s a n m hk 144 _ (by unfold wantsM; rw [if_neg h1, if_neg h3, if_neg h4, if_pos h5]) (fun w1 => call_any w1 k c0 c1 c2 c3 r l q s a n m) (enters_of Tryz.func144 (by kernel_rfl) rfl)
 rw [if_neg h5]
 by_cases h6 : k = 6 ∨ k = 7
 ·rw [if_pos h6]
  exact Node_some w k c0 c1 c2 c3 r l q s a n m hk 145 _ (by unfold wantsM; rw [if_neg h1, if_neg h3, if_neg h4, if_neg h5, if_pos h6]) (fun w1 => many_any w1 k c0 c1 c2 c3 r l q s a n m) (enters_of Tryz.func145 (by kernel_rfl) rfl)
 rw [if_neg h6]
 by_cases h8 : 8 ≤ k ∧ k ≤ 12
 ·rw [if_pos h8]
  exact Node_some w k c0 c1 c2 c3 r l q s a n m hk 146 _ (by unfold wantsM; rw [if_neg h1, if_neg h3, if_neg h4, if_neg h5, if_neg h6, if_pos h8]) (fun w1 => one_any w1 k c0 c1 c2 c3 r l q s a n m) (enters_of Tryz.func146 (by kernel_rfl) rfl)
 rw [if_neg h8]
 exact Node_none w k c0 c1 c2 c3 r l q s a n m hk (by unfold wantsM; rw [if_neg h1, if_neg h3, if_neg h4, if_neg h5, if_neg h6, if_neg h8])
end Go.Proofs.YtlklmpjakeedcaaGreatDoor

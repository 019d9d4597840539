/-
  The document's test of a node.
  Conditions: none.
-/
import Derived.Test.YtibgfgfmljhimaaGreatQGNode
import Derived.Lib.Strings
set_option linter.unusedVariables false
set_option linter.unusedSimpArgs false
namespace Go.Proofs.YtibgfgfmljhimaaGreat
open Go.RowKit Go.MapKept

theorem toList_nil_iff (s : ByteArray) : s.toList = [] ↔ s.size = 0 := by
  rw [Lib.toList_data]
  constructor
  · intro h
    have := congrArg List.length h
    simpa using this
  · intro h
    exact List.eq_nil_of_length_eq_zero (by simpa using h)
theorem toList_none : (⟨#[]⟩ : ByteArray).toList = [] := (toList_nil_iff _).2 rfl
theorem size_pos_iff (s : ByteArray) : 0 < s.size ↔ ¬ s.toList = [] := by rw [toList_nil_iff]; omega
theorem nodeN_or {k c0 c1 c2 c3 r l q : Int} {s : ByteArray} {n : Nat} : nodeN k c0 c1 c2 c3 r l q s n =
    if k = 1 ∨ k = 2 then decide ((c0 = 0 ∧ c1 = 0 ∧ c2 = 0 ∧ c3 = 0) ∧ s.toList = [] ∧ r = 0 ∧ l = 0 ∧ n = 0)
    else if k = 3 then decide (¬ (c0 = 0 ∧ c1 = 0 ∧ c2 = 0 ∧ c3 = 0) ∧ s.toList = [] ∧ r = 0 ∧ l = 0 ∧ n = 0)
    else if k = 4 then decide ((c0 = 0 ∧ c1 = 0 ∧ c2 = 0 ∧ c3 = 0) ∧ ¬ s.toList = [] ∧ s.size ≤ 64 ∧ r = 0 ∧ l = 0 ∧ n = 0)
    else if k = 5 then decide ((c0 = 0 ∧ c1 = 0 ∧ c2 = 0 ∧ c3 = 0) ∧ s.toList = [] ∧ 0 ≤ r ∧ r < q ∧ 0 ≤ l ∧ l ≤ 99 ∧ n = 0)
    else if k = 6 ∨ k = 7 then decide ((c0 = 0 ∧ c1 = 0 ∧ c2 = 0 ∧ c3 = 0) ∧ s.toList = [] ∧ r = 0 ∧ l = 0 ∧ 2 ≤ n ∧ n ≤ 64)
    else if 8 ≤ k ∧ k ≤ 12 then decide ((c0 = 0 ∧ c1 = 0 ∧ c2 = 0 ∧ c3 = 0) ∧ s.toList = [] ∧ r = 0 ∧ l = 0 ∧ n = 1)
    else false := by
  unfold nodeN bareB plainB
  simp only [toList_none, size_pos_iff]
  repeat' split
  all_goals first | rfl | (rw [Bool.eq_iff_iff]; simp; done) | (rw [Bool.eq_iff_iff]; simp; grind)

set_option maxRecDepth 100000 in
set_option maxHeartbeats 4000000 in
theorem refNode_any0 (w : World) (k c0 c1 c2 c3 l q : Int) (s : ByteArray) (a : Option Addr) (n m : Nat) :
    Calls Tryz.prog 125 #[.agg #[.int .i64 k, .int .u64 c0, .int .u64 c1, .int .u64 c2, .int .u64 c3, .string s, .int .i64 0, .int .i64 l, .slice a n m], .int .i64 q] w fun e w' =>
      e = .returned (.bool (nodeN k c0 c1 c2 c3 0 l q s n)) ∧ Chg [] w w' := by
  go_enter Tryz.func125, Tryz.ntmps125
  go_wp2_with fail
  go_quiet (fail)
  go_wp2_with fail
  all_goals go_ret
  all_goals refine ⟨ret_bool ?_, (((Chg.refl _ _).alloc _).alloc _).drewN _⟩
  all_goals rw [nodeN_or, Bool.eq_iff_iff]
  all_goals simp only [beq_iff_eq, beq_eq_false_iff_ne, ne_eq] at *
  all_goals grind
set_option maxRecDepth 100000 in
set_option maxHeartbeats 8000000 in
theorem refNode_any1 (w : World) (k c0 c1 c2 c3 r l q : Int) (s : ByteArray) (a : Option Addr) (n m : Nat) (hr : (r != 0) = true) :
    Calls Tryz.prog 125 #[.agg #[.int .i64 k, .int .u64 c0, .int .u64 c1, .int .u64 c2, .int .u64 c3, .string s, .int .i64 r, .int .i64 l, .slice a n m], .int .i64 q] w fun e w' =>
      e = .returned (.bool (nodeN k c0 c1 c2 c3 r l q s n)) ∧ Chg [] w w' := by
  go_enter Tryz.func125, Tryz.ntmps125
  go_wp2_with fail
  go_quiet (fail)
  go_wp2_with fail
  all_goals go_ret
  all_goals refine ⟨ret_bool ?_, (((Chg.refl _ _).alloc _).alloc _).drewN _⟩
  all_goals rw [nodeN_or, Bool.eq_iff_iff]
  all_goals simp only [beq_iff_eq, beq_eq_false_iff_ne, bne_iff_ne, ne_eq] at *
  all_goals grind
theorem refNode_any (w : World) (k c0 c1 c2 c3 r l q : Int) (s : ByteArray) (a : Option Addr) (n m : Nat) :
    Calls Tryz.prog 125 #[.agg #[.int .i64 k, .int .u64 c0, .int .u64 c1, .int .u64 c2, .int .u64 c3, .string s, .int .i64 r, .int .i64 l, .slice a n m], .int .i64 q] w fun e w' =>
      e = .returned (.bool (nodeN k c0 c1 c2 c3 r l q s n)) ∧ Chg [] w w' := by
  by_cases hr : r = 0
  · subst hr; exact refNode_any0 w k c0 c1 c2 c3 l q s a n m
  · exact refNode_any1 w k c0 c1 c2 c3 r l q s a n m (by simpa using hr)
end Go.Proofs.YtibgfgfmljhimaaGreat

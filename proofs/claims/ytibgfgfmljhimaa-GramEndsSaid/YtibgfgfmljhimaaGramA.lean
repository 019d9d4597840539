/-
  What kinds want of a node: the seven tests of a node's shape.
  Conditions: none.
-/
import Derived.Test.YtibgfgfmljhimaaGBase
set_option linter.unusedVariables false
set_option linter.unusedSimpArgs false
namespace Go.Proofs.Ytibgfgfmljhimaa
open Go.RowKit Go.MapKept

set_option maxRecDepth 100000 in
theorem plain_any (w : World) (k c0 c1 c2 c3 r l q : Int) (s : ByteArray) (a : Option Addr) (n m : Nat) :
    Calls Try.prog 155 #[.agg #[.int .i64 k, .int .u64 c0, .int .u64 c1, .int .u64 c2, .int .u64 c3, .string s, .int .i64 r, .int .i64 l, .slice a n m, .int .i64 q]] w fun e w' =>
      e = .returned (.bool (decide (c0 = 0 ∧ c1 = 0 ∧ c2 = 0 ∧ c3 = 0) && decide (s.toList = []) && decide (r = 0) && decide (l = 0))) ∧ Chg [] w w' := by
  go_enter Try.func155, Try.ntmps155
  go_wp2
  all_goals go_ret
  all_goals refine ⟨ret_bool ?_, (Chg.refl _ _).alloc _⟩
  all_goals (simp_all <;> (by_cases hl : l = 0 <;> simp [hl]))

set_option maxRecDepth 100000 in
theorem bare_any (w : World) (k c0 c1 c2 c3 r l q : Int) (s : ByteArray) (a : Option Addr) (n m : Nat) :
    Calls Try.prog 130 #[.agg #[.int .i64 k, .int .u64 c0, .int .u64 c1, .int .u64 c2, .int .u64 c3, .string s, .int .i64 r, .int .i64 l, .slice a n m, .int .i64 q]] w fun e w' =>
      e = .returned (.bool (plainB c0 c1 c2 c3 r l s && decide (n = 0))) ∧ Chg [] w w' := by
  cases hp : plainB c0 c1 c2 c3 r l s
  all_goals go_enter Try.func130, Try.ntmps130
  all_goals go_wp2_with fail
  all_goals refine (plain_any _ _ _ _ _ _ _ _ _ _ _ _ _).mono ?_
  all_goals rintro e w1 ⟨rfl, hc⟩
  all_goals rw [show (decide (c0 = 0 ∧ c1 = 0 ∧ c2 = 0 ∧ c3 = 0) && decide (s.toList = []) && decide (r = 0) && decide (l = 0)) = _ from hp]
  all_goals have hh := hc.heap (heap_alloc_same _ _) (by simp)
  all_goals have c8 := cell_of_cells hh 8
  all_goals simp at c8
  all_goals have HC := Lib.hid hc
  all_goals clear hc hh
  all_goals go_wp2
  all_goals go_ret
  all_goals refine ⟨ret_bool ?_, ((Chg.refl _ _).alloc _).tr HC.out⟩
  · simp
  · by_cases hn : n = 0 <;> simp [hn]

set_option maxRecDepth 100000 in
theorem one_any (w : World) (k c0 c1 c2 c3 r l q : Int) (s : ByteArray) (a : Option Addr) (n m : Nat) :
    Calls Try.prog 135 #[.agg #[.int .i64 k, .int .u64 c0, .int .u64 c1, .int .u64 c2, .int .u64 c3, .string s, .int .i64 r, .int .i64 l, .slice a n m, .int .i64 q]] w fun e w' =>
      e = .returned (.bool (plainB c0 c1 c2 c3 r l s && decide (n = 1))) ∧ Chg [] w w' := by
  cases hp : plainB c0 c1 c2 c3 r l s
  all_goals go_enter Try.func135, Try.ntmps135
  all_goals go_wp2_with fail
  all_goals refine (plain_any _ _ _ _ _ _ _ _ _ _ _ _ _).mono ?_
  all_goals rintro e w1 ⟨rfl, hc⟩
  all_goals rw [show (decide (c0 = 0 ∧ c1 = 0 ∧ c2 = 0 ∧ c3 = 0) && decide (s.toList = []) && decide (r = 0) && decide (l = 0)) = _ from hp]
  all_goals have hh := hc.heap (heap_alloc_same _ _) (by simp)
  all_goals have c8 := cell_of_cells hh 8
  all_goals simp at c8
  all_goals have HC := Lib.hid hc
  all_goals clear hc hh
  all_goals go_wp2
  all_goals go_ret
  all_goals refine ⟨ret_bool ?_, ((Chg.refl _ _).alloc _).tr HC.out⟩
  all_goals first | (simp; done) | (rw [Bool.eq_iff_iff]; simp; omega)

set_option maxRecDepth 100000 in
theorem many_any (w : World) (k c0 c1 c2 c3 r l q : Int) (s : ByteArray) (a : Option Addr) (n m : Nat) :
    Calls Try.prog 134 #[.agg #[.int .i64 k, .int .u64 c0, .int .u64 c1, .int .u64 c2, .int .u64 c3, .string s, .int .i64 r, .int .i64 l, .slice a n m, .int .i64 q]] w fun e w' =>
      e = .returned (.bool (plainB c0 c1 c2 c3 r l s && decide (2 ≤ n) && decide (n ≤ 64))) ∧ Chg [] w w' := by
  cases hp : plainB c0 c1 c2 c3 r l s
  all_goals go_enter Try.func134, Try.ntmps134
  all_goals go_wp2_with fail
  all_goals refine (plain_any _ _ _ _ _ _ _ _ _ _ _ _ _).mono ?_
  all_goals rintro e w1 ⟨rfl, hc⟩
  all_goals rw [show (decide (c0 = 0 ∧ c1 = 0 ∧ c2 = 0 ∧ c3 = 0) && decide (s.toList = []) && decide (r = 0) && decide (l = 0)) = _ from hp]
  all_goals have hh := hc.heap (heap_alloc_same _ _) (by simp)
  all_goals have c8 := cell_of_cells hh 8
  all_goals simp at c8
  all_goals have HC := Lib.hid hc
  all_goals clear hc hh
  all_goals go_wp2
  all_goals go_ret
  all_goals refine ⟨ret_bool ?_, ((Chg.refl _ _).alloc _).tr HC.out⟩
  all_goals first | (simp; done) | (rw [Bool.eq_iff_iff]; simp; omega)

set_option maxRecDepth 100000 in
theorem text_any (w : World) (k c0 c1 c2 c3 r l q : Int) (s : ByteArray) (a : Option Addr) (n m : Nat) :
    Calls Try.prog 132 #[.agg #[.int .i64 k, .int .u64 c0, .int .u64 c1, .int .u64 c2, .int .u64 c3, .string s, .int .i64 r, .int .i64 l, .slice a n m, .int .i64 q]] w fun e w' =>
      e = .returned (.bool (decide (0 < s.size) && decide (s.size ≤ 64) && (plainB c0 c1 c2 c3 r l ⟨#[]⟩ && decide (n = 0)))) ∧ Chg [] w w' := by
  by_cases hs : 0 < s.size ∧ s.size ≤ 64
  · cases hp : (plainB c0 c1 c2 c3 r l ⟨#[]⟩ && decide (n = 0))
    all_goals go_enter Try.func132, Try.ntmps132
    all_goals go_wp2_with fail
    all_goals refine (bare_any _ _ _ _ _ _ _ _ _ _ _ _ _).mono ?_
    all_goals rintro e w1 ⟨rfl, hc⟩
    all_goals rw [hp]
    all_goals have HC := Lib.hid hc
    all_goals clear hc
    all_goals go_wp2
    all_goals go_ret
    all_goals refine ⟨ret_bool ?_, ((Chg.refl _ _).alloc _).tr HC.out⟩
    all_goals simp [hs.1, hs.2]
  · go_enter Try.func132, Try.ntmps132
    go_wp2_with fail
    all_goals go_ret
    all_goals refine ⟨ret_bool ?_, (Chg.refl _ _).alloc _⟩
    all_goals first | (simp; done) | (simp; omega) | (rw [Bool.eq_iff_iff]; simp; omega)

set_option maxRecDepth 100000 in
theorem call_any (w : World) (k c0 c1 c2 c3 r l q : Int) (s : ByteArray) (a : Option Addr) (n m : Nat) :
    Calls Try.prog 133 #[.agg #[.int .i64 k, .int .u64 c0, .int .u64 c1, .int .u64 c2, .int .u64 c3, .string s, .int .i64 r, .int .i64 l, .slice a n m, .int .i64 q]] w fun e w' =>
      e = .returned (.bool (decide (0 ≤ r ∧ r < q ∧ 0 ≤ l ∧ l ≤ 99) && (plainB c0 c1 c2 c3 0 0 s && decide (n = 0)))) ∧ Chg [] w w' := by
  by_cases hs : 0 ≤ r ∧ r < q ∧ 0 ≤ l ∧ l ≤ 99
  · cases hp : (plainB c0 c1 c2 c3 0 0 s && decide (n = 0))
    all_goals go_enter Try.func133, Try.ntmps133
    all_goals go_wp2_with fail
    all_goals refine (bare_any _ _ _ _ _ _ _ _ _ _ _ _ _).mono ?_
    all_goals rintro e w1 ⟨rfl, hc⟩
    all_goals rw [hp]
    all_goals have HC := Lib.hid hc
    all_goals clear hc
    all_goals go_wp2
    all_goals go_ret
    all_goals refine ⟨ret_bool ?_, ((Chg.refl _ _).alloc _).tr HC.out⟩
    all_goals simp [hs]
  · go_enter Try.func133, Try.ntmps133
    go_wp2_with fail
    all_goals go_ret
    all_goals refine ⟨ret_bool ?_, (Chg.refl _ _).alloc _⟩
    all_goals first | (simp; done) | (simp; omega) | (rw [Bool.eq_iff_iff]; simp; omega)

set_option maxRecDepth 100000 in
theorem set_any (w : World) (k c0 c1 c2 c3 r l q : Int) (s : ByteArray) (a : Option Addr) (n m : Nat) :
    Calls Try.prog 131 #[.agg #[.int .i64 k, .int .u64 c0, .int .u64 c1, .int .u64 c2, .int .u64 c3, .string s, .int .i64 r, .int .i64 l, .slice a n m, .int .i64 q]] w fun e w' =>
      e = .returned (.bool (!decide (c0 = 0 ∧ c1 = 0 ∧ c2 = 0 ∧ c3 = 0) && (plainB 0 0 0 0 r l s && decide (n = 0)))) ∧ Chg [] w w' := by
  by_cases hs : ¬ (c0 = 0 ∧ c1 = 0 ∧ c2 = 0 ∧ c3 = 0)
  · cases hp : (plainB 0 0 0 0 r l s && decide (n = 0))
    all_goals go_enter Try.func131, Try.ntmps131
    all_goals go_wp2_with fail
    all_goals refine (bare_any _ _ _ _ _ _ _ _ _ _ _ _ _).mono ?_
    all_goals rintro e w1 ⟨rfl, hc⟩
    all_goals rw [hp]
    all_goals have HC := Lib.hid hc
    all_goals clear hc
    all_goals go_wp2
    all_goals go_ret
    all_goals refine ⟨ret_bool ?_, (((Chg.refl _ _).alloc _).alloc _).tr HC.out⟩
    all_goals simp [hs]
  · go_enter Try.func131, Try.ntmps131
    go_wp2_with fail
    all_goals go_ret
    all_goals refine ⟨ret_bool ?_, ((Chg.refl _ _).alloc _).alloc _⟩
    all_goals first | (simp; done) | (simp; omega) | (rw [Bool.eq_iff_iff]; simp; omega)
end Go.Proofs.Ytibgfgfmljhimaa

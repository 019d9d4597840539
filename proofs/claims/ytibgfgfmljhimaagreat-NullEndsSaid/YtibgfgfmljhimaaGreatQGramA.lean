/-
  What kinds want of a node: the seven tests of a node's shape.
  Conditions: none.
-/
import Derived.Test.YtibgfgfmljhimaaGreatQGBase
set_option linter.unusedVariables false
set_option linter.unusedSimpArgs false
namespace Go.Proofs.YtibgfgfmljhimaaGreat
open Go.RowKit Go.MapKept

set_option maxRecDepth 100000 in
theorem plain_any (w : World) (k c0 c1 c2 c3 r l q : Int) (s : ByteArray) (a : Option Addr) (n m : Nat) :
    Calls Tryz.prog 206 #[.agg #[.int .i64 k, .int .u64 c0, .int .u64 c1, .int .u64 c2, .int .u64 c3, .string s, .int .i64 r, .int .i64 l, .slice a n m, .int .i64 q]] w fun e w' =>
      e = .returned (.bool (decide (c0 = 0 ∧ c1 = 0 ∧ c2 = 0 ∧ c3 = 0) && decide (s.toList = []) && decide (r = 0) && decide (l = 0))) ∧ Chg [] w w' := by
  go_enter Tryz.func206, Tryz.ntmps206
  go_wp2
  all_goals go_ret
  all_goals refine ⟨ret_bool ?_, (Chg.refl _ _).alloc _⟩
  all_goals (simp_all <;> (by_cases hl : l = 0 <;> simp [hl]))

set_option maxRecDepth 100000 in
theorem bare_any (w : World) (k c0 c1 c2 c3 r l q : Int) (s : ByteArray) (a : Option Addr) (n m : Nat) :
    Calls Tryz.prog 199 #[.agg #[.int .i64 k, .int .u64 c0, .int .u64 c1, .int .u64 c2, .int .u64 c3, .string s, .int .i64 r, .int .i64 l, .slice a n m, .int .i64 q]] w fun e w' =>
      e = .returned (.bool (plainB c0 c1 c2 c3 r l s && decide (n = 0))) ∧ Chg [] w w' := by
  cases hp : plainB c0 c1 c2 c3 r l s
  all_goals go_enter Tryz.func199, Tryz.ntmps199
  all_goals go_wp2_with fail
  all_goals refine (plain_any _ _ _ _ _ _ _ _ _ _ _ _ _).mono ?_
  all_goals rintro e w1 ⟨rfl, hc⟩
  all_goals rw [show (decide (c0 = 0 ∧ c1 = 0 ∧ c2 = 0 ∧ c3 = 0) && decide (s.toList = []) && decide (r = 0) && decide (l = 0)) = _ from hp]
  all_goals have hh := hc.heap (heap_alloc_same _ _) (by simp)
  all_goals have c8 := cell_of_cells hh 8
  all_goals simp at c8
  all_goals have HC := Lib.hid hc
  all_goals clear hc hh
  all_goals go_wp2
  all_goals go_ret
  all_goals refine ⟨ret_bool ?_, ((Chg.refl _ _).alloc _).tr HC.out⟩
  · simp
  · by_cases hn : n = 0 <;> simp [hn]

set_option maxRecDepth 100000 in
theorem one_any (w : World) (k c0 c1 c2 c3 r l q : Int) (s : ByteArray) (a : Option Addr) (n m : Nat) :
    Calls Tryz.prog 204 #[.agg #[.int .i64 k, .int .u64 c0, .int .u64 c1, .int .u64 c2, .int .u64 c3, .string s, .int .i64 r, .int .i64 l, .slice a n m, .int .i64 q]] w fun e w' =>
      e = .returned (.bool (plainB c0 c1 c2 c3 r l s && decide (n = 1))) ∧ Chg [] w w' := by
  cases hp : plainB c0 c1 c2 c3 r l s
  all_goals go_enter Tryz.func204, Tryz.ntmps204
  all_goals go_wp2_with fail
  all_goals refine (plain_any _ _ _ _ _ _ _ _ _ _ _ _ _).mono ?_
  all_goals rintro e w1 ⟨rfl, hc⟩
  all_goals rw [show (decide (c0 = 0 ∧ c1 = 0 ∧ c2 = 0 ∧ c3 = 0) && decide (s.toList = []) && decide (r = 0) && decide (l = 0)) = _ from hp]
  all_goals have hh := hc.heap (heap_alloc_same _ _) (by simp)
  all_goals have c8 := cell_of_cells hh 8
  all_goals simp at c8
  all_goals have HC := Lib.hid hc
  all_goals clear hc hh
  all_goals go_wp2
  all_goals go_ret
  all_goals refine ⟨ret_bool ?_, ((Chg.refl _ _).alloc _).tr HC.out⟩
  all_goals first | (simp; done) | (rw [Bool.eq_iff_iff]; simp; omega)

set_option maxRecDepth 100000 in
theorem many_any (w : World) (k c0 c1 c2 c3 r l q : Int) (s : ByteArray) (a : Option Addr) (n m : Nat) :
    Calls Tryz.prog 203 #[.agg #[.int .i64 k, .int .u64 c0, .int .u64 c1, .int .u64 c2, .int .u64 c3, .string s, .int .i64 r, .int .i64 l, .slice a n m, .int .i64 q]] w fun e w' =>
      e = .returned (.bool (plainB c0 c1 c2 c3 r l s && decide (2 ≤ n) && decide (n ≤ 64))) ∧ Chg [] w w' := by
  cases hp : plainB c0 c1 c2 c3 r l s
  all_goals go_enter Tryz.func203, Tryz.ntmps203
  all_goals go_wp2_with fail
  all_goals refine (plain_any _ _ _ _ _ _ _ _ _ _ _ _ _).mono ?_
  all_goals rintro e w1 ⟨rfl, hc⟩
  all_goals rw [show (decide (c0 = 0 ∧ c1 = 0 ∧ c2 = 0 ∧ c3 = 0) && decide (s.toList = []) && decide (r = 0) && decide (l = 0)) = _ from hp]
  all_goals have hh := hc.heap (heap_alloc_same _ _) (by simp)
  all_goals have c8 := cell_of_cells hh 8
  all_goals simp at c8
  all_goals have HC := Lib.hid hc
  all_goals clear hc hh
  all_goals go_wp2
  all_goals go_ret
  all_goals refine ⟨ret_bool ?_, ((Chg.refl _ _).alloc _).tr HC.out⟩
  all_goals first | (simp; done) | (rw [Bool.eq_iff_iff]; simp; omega)

set_option maxRecDepth 100000 in
theorem text_any (w : World) (k c0 c1 c2 c3 r l q : Int) (s : ByteArray) (a : Option Addr) (n m : Nat) :
    Calls Tryz.prog 201 #[.agg #[.int .i64 k, .int .u64 c0, .int .u64 c1, .int .u64 c2, .int .u64 c3, .string s, .int .i64 r, .int .i64 l, .slice a n m, .int .i64 q]] w fun e w' =>
      e = .returned (.bool (decide (0 < s.size) && decide (s.size ≤ 64) && (plainB c0 c1 c2 c3 r l ⟨#[]⟩ && decide (n = 0)))) ∧ Chg [] w w' := by
  by_cases hs : 0 < s.size ∧ s.size ≤ 64
  · cases hp : (plainB c0 c1 c2 c3 r l ⟨#[]⟩ && decide (n = 0))
    all_goals go_enter Tryz.func201, Tryz.ntmps201
    all_goals go_wp2_with fail
    all_goals refine (bare_any _ _ _ _ _ _ _ _ _ _ _ _ _).mono ?_
    all_goals rintro e w1 ⟨rfl, hc⟩
    all_goals rw [hp]
    all_goals have HC := Lib.hid hc
    all_goals clear hc
    all_goals go_wp2
    all_goals go_ret
    all_goals refine ⟨ret_bool ?_, ((Chg.refl _ _).alloc _).tr HC.out⟩
    all_goals simp [hs.1, hs.2]
  · go_enter Tryz.func201, Tryz.ntmps201
    go_wp2_with fail
    all_goals go_ret
    all_goals refine ⟨ret_bool ?_, (Chg.refl _ _).alloc _⟩
    all_goals first | (simp; done) | (simp; omega) | (rw [Bool.eq_iff_iff]; simp; omega)

set_option maxRecDepth 100000 in
theorem call_any (w : World) (k c0 c1 c2 c3 r l q : Int) (s : ByteArray) (a : Option Addr) (n m : Nat) :
    Calls Tryz.prog 202 #[.agg #[.int .i64 k, .int .u64 c0, .int .u64 c1, .int .u64 c2, .int .u64 c3, .string s, .int .i64 r, .int .i64 l, .slice a n m, .int .i64 q]] w fun e w' =>
      e = .returned (.bool (decide (0 ≤ r ∧ r < q ∧ 0 ≤ l ∧ l ≤ 99) && (plainB c0 c1 c2 c3 0 0 s && decide (n = 0)))) ∧ Chg [] w w' := by
  by_cases hs : 0 ≤ r ∧ r < q ∧ 0 ≤ l ∧ l ≤ 99
  · cases hp : (plainB c0 c1 c2 c3 0 0 s && decide (n = 0))
    all_goals go_enter Tryz.func202, Tryz.ntmps202
    all_goals go_wp2_with fail
    all_goals refine (bare_any _ _ _ _ _ _ _ _ _ _ _ _ _).mono ?_
    all_goals rintro e w1 ⟨rfl, hc⟩
    all_goals rw [hp]
    all_goals have HC := Lib.hid hc
    all_goals clear hc
    all_goals go_wp2
    all_goals go_ret
    all_goals refine ⟨ret_bool ?_, ((Chg.refl _ _).alloc _).tr HC.out⟩
    all_goals simp [hs]
  · go_enter Tryz.func202, Tryz.ntmps202
    go_wp2_with fail
    all_goals go_ret
    all_goals refine ⟨ret_bool ?_, (Chg.refl _ _).alloc _⟩
    all_goals first | (simp; done) | (simp; omega) | (rw [Bool.eq_iff_iff]; simp; omega)

set_option maxRecDepth 100000 in
theorem set_any (w : World) (k c0 c1 c2 c3 r l q : Int) (s : ByteArray) (a : Option Addr) (n m : Nat) :
    Calls Tryz.prog 200 #[.agg #[.int .i64 k, .int .u64 c0, .int .u64 c1, .int .u64 c2, .int .u64 c3, .string s, .int .i64 r, .int .i64 l, .slice a n m, .int .i64 q]] w fun e w' =>
      e = .returned (.bool (!decide (c0 = 0 ∧ c1 = 0 ∧ c2 = 0 ∧ c3 = 0) && (plainB 0 0 0 0 r l s && decide (n = 0)))) ∧ Chg [] w w' := by
  by_cases hs : ¬ (c0 = 0 ∧ c1 = 0 ∧ c2 = 0 ∧ c3 = 0)
  · cases hp : (plainB 0 0 0 0 r l s && decide (n = 0))
    all_goals go_enter Tryz.func200, Tryz.ntmps200
    all_goals go_wp2_with fail
    all_goals refine (bare_any _ _ _ _ _ _ _ _ _ _ _ _ _).mono ?_
    all_goals rintro e w1 ⟨rfl, hc⟩
    all_goals rw [hp]
    all_goals have HC := Lib.hid hc
    all_goals clear hc
    all_goals go_wp2
    all_goals go_ret
    all_goals refine ⟨ret_bool ?_, (((Chg.refl _ _).alloc _).alloc _).tr HC.out⟩
    all_goals simp [hs]
  · go_enter Tryz.func200, Tryz.ntmps200
    go_wp2_with fail
    all_goals go_ret
    all_goals refine ⟨ret_bool ?_, ((Chg.refl _ _).alloc _).alloc _⟩
    all_goals first | (simp; done) | (simp; omega) | (rw [Bool.eq_iff_iff]; simp; omega)
end Go.Proofs.YtibgfgfmljhimaaGreat

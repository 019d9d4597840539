/-
  Node: the walk of the program's test.
  Conditions: none.
-/
import Derived.Test.YtibgfgfmljhimaaGNode
import Derived.Shelf.Abstract
set_option linter.unusedVariables false
set_option linter.unusedSimpArgs false
namespace Go.Proofs.Ytibgfgfmljhimaa
open Go.RowKit Go.MapKept Go.Shelf

def NodePost (b : Bool) (w : World) (e : Ending) (w' : World) : Prop := e = .returned (.bool b) ∧ Chg [] w w'
set_option maxRecDepth 100000 in
set_option maxHeartbeats 2000000 in
theorem Node_some (w : World) (k c0 c1 c2 c3 r l q : Int) (s : ByteArray) (a : Option Addr) (n m : Nat) (hk : I64 k) (f : Nat) (b : Bool) (hf : wantsM k = some (shapeF f))
    (hc : ∀ w1, Calls Try.prog f #[.agg #[.int .i64 k, .int .u64 c0, .int .u64 c1, .int .u64 c2, .int .u64 c3, .string s, .int .i64 r, .int .i64 l, .slice a n m, .int .i64 q]] w1 fun e w' => e = .returned (.bool b) ∧ Chg [] w1 w')
    (eg : ∀ args w, (callFunc f args).run Try.prog w = .ok (.enter f args) w) :
    Calls Try.prog 23 #[.agg #[.int .i64 k, .int .u64 c0, .int .u64 c1, .int .u64 c2, .int .u64 c3, .string s, .int .i64 r, .int .i64 l, .slice a n m], .int .i64 q] w (NodePost b w) := by
  obtain ⟨lk, hlk⟩ := kindKey k hk
  have H := Lib.hid (And.intro hf (And.intro hc hlk))
  clear hf hc hlk hk
  go_enter Try.func23, Try.ntmps23
  go_wp2_with fail
  go_region_with (go_at_call 84; refine (wants_any _).mono ?_; rintro e w2 ⟨rfl, hM2, hc2⟩; have hM2 : MapIs Try.prog 26 (Value.int .i64) w2 (w.heap.size + 1) wantsM := (by simpa using hM2); have hh := hc2.heap (k := w.heap.size) (o := .cells #[.int .i64 k, .int .u64 c0, .int .u64 c1, .int .u64 c2, .int .u64 c3, .string s, .int .i64 r, .int .i64 l, .slice a n m] 32) (heap_alloc_same w _) (by simp); have hl := (hM2.chg (w' := w2) (Chg.refl [] _) (by simp)).look kind_inj Try.keyedKind Try.underlying85 (z := .nilFunc) rfl H.out.2.2 false; rw [H.out.1] at hl; simp only [Bool.false_eq_true, if_false, Option.getD_some, shapeF] at hl; have c0' := (cells9 hh).1; have HH := Lib.hid (And.intro hh hc2); clear hh hM2 hc2)
  all_goals obtain ⟨_, x1, x2, x3, x4, x5, x6, x7, x8⟩ := cells9 HH.out.1
  all_goals clear hl
  all_goals have hnq := fun (w : World) => neq_func Try.underlying84 w (.func f) #[] #[]
  all_goals go_wp2_with fail
  all_goals refine (H.out.2.1 _).mono ?_
  all_goals rintro e w3 ⟨rfl, hc3⟩
  all_goals have H3 := Lib.hid hc3
  all_goals clear hc3
  all_goals go_wp2
  all_goals go_ret
  all_goals exact ⟨rfl, (((Chg.refl _ _).alloc _).drew.tr HH.out.2).tr H3.out⟩

set_option maxRecDepth 100000 in
set_option maxHeartbeats 2000000 in
theorem Node_none (w : World) (k c0 c1 c2 c3 r l q : Int) (s : ByteArray) (a : Option Addr) (n m : Nat) (hk : I64 k) (hf : wantsM k = none) :
    Calls Try.prog 23 #[.agg #[.int .i64 k, .int .u64 c0, .int .u64 c1, .int .u64 c2, .int .u64 c3, .string s, .int .i64 r, .int .i64 l, .slice a n m], .int .i64 q] w (NodePost false w) := by
  obtain ⟨lk, hlk⟩ := kindKey k hk
  have H := Lib.hid (And.intro hf hlk)
  clear hf hlk hk
  go_enter Try.func23, Try.ntmps23
  go_wp2_with fail
  go_region_with (go_at_call 84; refine (wants_any _).mono ?_; rintro e w2 ⟨rfl, hM2, hc2⟩; have hM2 : MapIs Try.prog 26 (Value.int .i64) w2 (w.heap.size + 1) wantsM := (by simpa using hM2); have hh := hc2.heap (k := w.heap.size) (o := .cells #[.int .i64 k, .int .u64 c0, .int .u64 c1, .int .u64 c2, .int .u64 c3, .string s, .int .i64 r, .int .i64 l, .slice a n m] 32) (heap_alloc_same w _) (by simp); have hl := (hM2.chg (w' := w2) (Chg.refl [] _) (by simp)).look kind_inj Try.keyedKind Try.underlying85 (z := .nilFunc) rfl H.out.2 false; rw [H.out.1] at hl; simp only [Bool.false_eq_true, if_false, Option.getD_none, shapeF] at hl; have c0' := (cells9 hh).1; have HH := Lib.hid (And.intro hh hc2); clear hh hM2 hc2)
  all_goals clear hl
  all_goals have hnq := fun (w : World) => neq_func_nil Try.underlying84 w
  all_goals go_wp2_with fail
  all_goals go_ret
  all_goals exact ⟨rfl, ((Chg.refl _ _).alloc _).drew.tr HH.out.2⟩

theorem Node_any (w : World) (k c0 c1 c2 c3 r l q : Int) (s : ByteArray) (a : Option Addr) (n m : Nat) (hk : I64 k) :
    Calls Try.prog 23 #[.agg #[.int .i64 k, .int .u64 c0, .int .u64 c1, .int .u64 c2, .int .u64 c3, .string s, .int .i64 r, .int .i64 l, .slice a n m], .int .i64 q] w (NodePost (nodeN k c0 c1 c2 c3 r l q s n) w) := by
  unfold nodeN
  by_cases h1 : k = 1 ∨ k = 2
  · rw [if_pos h1]
    exact Node_some w k c0 c1 c2 c3 r l q s a n m hk 130 _ (by unfold wantsM; rw [if_pos h1]) (fun w1 => bare_any w1 k c0 c1 c2 c3 r l q s a n m) (enters_of Try.func130 (by kernel_rfl) rfl)
  rw [if_neg h1]
  by_cases h3 : k = 3
  · rw [if_pos h3]
    exact Node_some w k c0 c1 c2 c3 r l q s a n m hk 131 _ (by unfold wantsM; rw [if_neg h1, if_pos h3]) (fun w1 => set_any w1 k c0 c1 c2 c3 r l q s a n m) (enters_of Try.func131 (by kernel_rfl) rfl)
  rw [if_neg h3]
  by_cases h4 : k = 4
  · rw [if_pos h4]
    exact Node_some w k c0 c1 c2 c3 r l q s a n m hk 132 _ (by unfold wantsM; rw [if_neg h1, if_neg h3, if_pos h4]) (fun w1 => text_any w1 k c0 c1 c2 c3 r l q s a n m) (enters_of Try.func132 (by kernel_rfl) rfl)
  rw [if_neg h4]
  by_cases h5 : k = 5
  · rw [if_pos h5]
    exact Node_some w k c0 c1 c2 c3 r l q s a n m hk 133 _ (by unfold wantsM; rw [if_neg h1, if_neg h3, if_neg h4, if_pos h5]) (fun w1 => call_any w1 k c0 c1 c2 c3 r l q s a n m) (enters_of Try.func133 (by kernel_rfl) rfl)
  rw [if_neg h5]
  by_cases h6 : k = 6 ∨ k = 7
  · rw [if_pos h6]
    exact Node_some w k c0 c1 c2 c3 r l q s a n m hk 134 _ (by unfold wantsM; rw [if_neg h1, if_neg h3, if_neg h4, if_neg h5, if_pos h6]) (fun w1 => many_any w1 k c0 c1 c2 c3 r l q s a n m) (enters_of Try.func134 (by kernel_rfl) rfl)
  rw [if_neg h6]
  by_cases h8 : 8 ≤ k ∧ k ≤ 12
  · rw [if_pos h8]
    exact Node_some w k c0 c1 c2 c3 r l q s a n m hk 135 _ (by unfold wantsM; rw [if_neg h1, if_neg h3, if_neg h4, if_neg h5, if_neg h6, if_pos h8]) (fun w1 => one_any w1 k c0 c1 c2 c3 r l q s a n m) (enters_of Try.func135 (by kernel_rfl) rfl)
  rw [if_neg h8]
  exact Node_none w k c0 c1 c2 c3 r l q s a n m hk (by unfold wantsM; rw [if_neg h1, if_neg h3, if_neg h4, if_neg h5, if_neg h6, if_neg h8])
end Go.Proofs.Ytibgfgfmljhimaa

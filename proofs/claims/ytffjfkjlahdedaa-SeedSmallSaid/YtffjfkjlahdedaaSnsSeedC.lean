/-
  The walks over package seed: the row of live pairs.
  Conditions: as in the texts before.
-/
import Derived.Test.YtffjfkjlahdedaaSnsSeedB
set_option linter.unusedVariables false
set_option linter.unusedSimpArgs false
set_option linter.unnecessarySimpa false
namespace Go.Proofs.Ytffjfkjlahdedaa
open Go.RowKit Go.MapKept

set_option maxRecDepth 100000 in
set_option maxHeartbeats 400000 in
theorem push_any (w : World) (b m : Nat) (v : Value) (n : Nat) (xs : List Value) (r p : Int) (hh : w.heap[b]? = some (.cells #[v, .map (some m)] 68 (0, 0)))
    (hr : w.ownsRow 0 71 2 v n xs) (hn : n ≤ 1099511627776) :
    Calls Try.prog 27 #[.pointer (some ⟨b, 0, none⟩), .agg #[.int .i64 r, .int .i64 p]] w fun e w' => e = .returned (.tuple #[]) ∧
      ∃ v', w'.heap[b]? = some (.cells #[v', .map (some m)] 68 (0, 0)) ∧ w'.ownsRow 0 71 2 v' (n + 1) (xs ++ [.int .i64 r, .int .i64 p]) ∧ Chg (b :: v.ownBlock.toList) w w' ∧
        (∀ k, v'.ownBlock = some k → v.ownBlock = some k ∨ w.heap.size ≤ k) := by
  obtain ⟨i0, hi, hz0, hz1, hz2⟩ := info_parts Try.infoPair
  obtain ⟨a, c, rfl⟩ := ownsRow_slice hr
  have hb := lt_of_block hh
  have c0 := cell_of_cells hh 0
  have f0 := free_of_cells hh 0
  simp at c0
  have hB := heap_alloc_same (w.alloc (.cells #[.int .i64 r, .int .i64 p] 71)) (.cells #[.int .i64 r, .int .i64 p] 71)
  rw [World.size_alloc] at hB
  have h1 : ∀ u ∈ [Value.int .i64 r, .int .i64 p], u.oneCell' = true := by simp [Value.oneCell']
  have h2 : n + 1 ≤ maxLen ∧ (n + 1) * 16 ≤ 140737488355328 := by simp only [maxLen]; omega
  have hne := ownsRow_ne hr hh (by decide)
  have H := Lib.hid (And.intro hr (And.intro hh (And.intro (cells_at_drew hB) (And.intro h1 h2))))
  have HN := Lib.hid hne
  clear hr hh hB h1 h2 hne
  go_enter Try.func27, Try.ntmps27
  go_wp2
  go_region_law ((refine step_append_row rfl _ _ 63 rfl 71 i0 _ 2 16 Try.underlying63 hi hz0 hz1 hz2 rfl (by decide) (.slice a n c) n xs rfl (ownsRow_drew ((H.out.1.alloc _).alloc _)) ⟨w.heap.size + 1, 0, none⟩ 1 1 [.int .i64 r, .int .i64 p] rfl rfl H.out.2.2.1 H.out.2.2.2.1 H.out.2.2.2.2.1 H.out.2.2.2.2.2 ?_; intro a' c' w1 hr1 hg1 hk1; have hh1 := grown_heap hg1 (heap_alloc_lt (heap_alloc_lt H.out.2.1 _) _) HN.out; have c1 := cell_of_cells hh1 0; have f1 := free_of_cells hh1 0; simp at c1; have H1 := Lib.hid (And.intro hr1 (And.intro hg1 (And.intro hh1 hk1))); clear hr1 hg1 hh1 hk1))
  all_goals go_wp2
  all_goals go_end0
  all_goals
    obtain ⟨hr1, hg1, hh1, hk1⟩ := H1.out
    have hr := H.out.1
    refine ⟨rfl, .slice a' (n + 1) c', by simpa using heap_setCell_same hh1 0 (.slice a' (n + 1) c'), ownsRow_setCell_other hr1 (ownsRow_ne hr1 hh1 (by decide)) _, ?_, ?_⟩
    · exact (((((Chg.refl _ _).alloc _).alloc _).drew.grown hg1 (fun k hk => .inl (by simp [hk])))).setCell (.inl (by simp)) _
    · intro k hk
      rcases hk1 with h | h
      · exact .inl (h.symm.trans hk)
      · rw [h] at hk
        cases hk
        exact .inr (by simp; omega)

set_option maxRecDepth 100000 in
set_option maxHeartbeats 400000 in
theorem last_none (w : World) (b : Nat) (a : Option Addr) (c : Nat) (h : w.cell? ⟨b, 0, none⟩ = some (.slice a 0 c)) :
    Calls Try.prog 33 #[.pointer (some ⟨b, 0, none⟩)] w fun e w' => e = .returned (.tuple #[.agg #[.int .i64 0, .int .i64 0], .bool false]) ∧ Chg [] w w' := by
  have hb := World.block_lt_of_cell? _ _ h
  simp only at hb
  go_enter Try.func33, Try.ntmps33
  go_wp2
  refine bodyPost_ret (v := .tuple #[.agg #[.int .i64 0, .int .i64 0], .bool false]) (by simp [results, Try.results33, go_sem]) rfl ?_
  exact ⟨rfl, (Chg.refl _ _).alloc _⟩

set_option maxRecDepth 100000 in
set_option maxHeartbeats 400000 in
theorem last_some (w : World) (b g k c : Nat) (r p : Int) (h : w.cell? ⟨b, 0, none⟩ = some (.slice (some ⟨g, 0, none⟩) (k + 1) c)) (hk : k ≤ 1099511627776)
    (h0 : w.cell? ⟨g, k * 2, none⟩ = some (.int .i64 r)) (h1 : w.cell? ⟨g, k * 2 + 1, none⟩ = some (.int .i64 p)) :
    Calls Try.prog 33 #[.pointer (some ⟨b, 0, none⟩)] w fun e w' => e = .returned (.tuple #[.agg #[.int .i64 r, .int .i64 p], .bool true]) ∧ Chg [] w w' := by
  have hb := World.block_lt_of_cell? _ _ h
  have hg := World.block_lt_of_cell? _ _ h0
  simp only at hb hg
  go_enter Try.func33, Try.ntmps33
  go_wp2
  go_region
  go_wp2
  refine bodyPost_ret (v := .tuple #[.agg #[.int .i64 r, .int .i64 p], .bool true]) (by simp [results, Try.results33, go_sem]) rfl ?_
  exact ⟨rfl, ((Chg.refl _ _).alloc _).drew⟩

set_option maxRecDepth 100000 in
set_option maxHeartbeats 400000 in
theorem pop_any (w : World) (b k c : Nat) (a : Option Addr) (h : w.cell? ⟨b, 0, none⟩ = some (.slice a (k + 1) c)) (hf : w.frozen? ⟨b, 0, none⟩ = false) (hk : k ≤ 1099511627776) (hc : k + 1 ≤ c) (hc2 : c ≤ maxLen) :
    Calls Try.prog 47 #[.pointer (some ⟨b, 0, none⟩)] w fun e w' => e = .returned (.tuple #[]) ∧ w' = (w.setCell ⟨b, 0, none⟩ (.slice a k c)).drew := by
  have hb := World.block_lt_of_cell? _ _ h
  simp only at hb
  unfold maxLen at hc2
  go_enter Try.func47, Try.ntmps47
  go_wp2
  go_region
  go_wp2
  go_end0
  exact ⟨rfl, rfl⟩
end Go.Proofs.Ytffjfkjlahdedaa

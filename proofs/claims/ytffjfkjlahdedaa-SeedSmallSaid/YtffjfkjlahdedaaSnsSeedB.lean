/-
  The walks over package seed, the small functions.
  Conditions: as in the text before.
-/
import Derived.Test.YtffjfkjlahdedaaSnsSeedA
set_option linter.unusedVariables false
set_option linter.unusedSimpArgs false
set_option linter.unnecessarySimpa false
namespace Go.Proofs.Ytffjfkjlahdedaa
open Go.RowKit Go.MapKept

set_option maxRecDepth 100000 in
set_option maxHeartbeats 400000 in
theorem made_yes (w : World) (b m : Nat) (h : w.cell? ⟨b, 1, none⟩ = some (.map (some m))) :
    Calls Try.prog 26 #[.pointer (some ⟨b, 0, none⟩)] w fun e w' => e = .returned (.bool true) ∧ w = w' := by
  have q := fun (w : World) (r : Option Nat) => run_neq_map_nil (P := Try.prog) w _ _ _ r Try.underlying66
  go_enter Try.func26, Try.ntmps26
  go_wp2
  go_ret
  exact ⟨rfl, rfl⟩

set_option maxHeartbeats 400000 in
theorem new_any {NB : Nat} (w : World) (hN : NB < w.heap.size + 2) :
    Calls Try.prog 8 #[] w fun e w' => e = .returned (.pointer (some ⟨w.heap.size + 1, 0, none⟩)) ∧ StoreAt NB w' (w.heap.size + 1) (.slice none 0 0) w.heap.size [] ∧ Chg [] w w' := by
  have hmm := @run_makeMap Try.prog
  go_enter Try.func8, Try.ntmps8
  go_wp2
  go_ret
  refine ⟨rfl, ?_, ((Chg.refl _ _).alloc _).alloc _⟩
  have h1 := heap_alloc_same w (.map #[] 0)
  exact ⟨by have := heap_alloc_same (w.alloc (.map #[] 0)) (.cells #[.slice none 0 0, .map (some w.heap.size)] 68); simpa using this, World.ownsRow_nil _ _ _ _, ⟨_, (MapIs.made Try.prog 71 pairV w).chg ((Chg.refl [] _).alloc _) (by simp), fun q => rfl⟩, by simp, by simp, by rw [World.size_alloc, World.size_alloc]; exact hN⟩

set_option maxHeartbeats 400000 in
theorem further_any (w : World) (b : Bool) (e l e' l' : Int) (a a' : Option Addr) (n c n' c' : Nat) :
    Calls Try.prog 30 #[foundV b e l a n c, .agg #[.int .i64 e', .int .i64 l', .slice a' n' c']] w fun r w' => r = .returned (.bool (!b || (decide (e < e') && l' == l))) ∧ Chg [] w w' := by
  unfold foundV
  go_enter Try.func30, Try.ntmps30
  cases b
  · go_wp2
    go_ret
    exact ⟨rfl, ((Chg.refl _ _).alloc _).alloc _⟩
  · go_wp2
    all_goals go_ret
    · exact ⟨ret_bool (by simp [‹e < e'›]), ((Chg.refl _ _).alloc _).alloc _⟩
    · exact ⟨ret_bool (by simp [Int.not_lt.2 ‹e' ≤ e›]), ((Chg.refl _ _).alloc _).alloc _⟩

set_option maxHeartbeats 400000 in
theorem gives_any (w : World) (b : Bool) (e l k : Int) (a : Option Addr) (n c : Nat) :
    Calls Try.prog 32 #[foundV b e l a n c, .int .i64 k] w fun r w' => r = .returned (.bool (b && decide (l ≤ k))) ∧ Chg [] w w' := by
  unfold foundV
  go_enter Try.func32, Try.ntmps32
  cases b
  all_goals go_wp2
  all_goals go_ret
  all_goals exact ⟨ret_bool (by simp), (Chg.refl _ _).alloc _⟩

theorem row_baseS {W : World} {base base' : Nat} {e : TypeId} {size : Nat} {v : Value} {k : Nat} {xs : List Value} (h : W.ownsRow base e size v k xs) (hb : base' ≤ base) : W.ownsRow base' e size v k xs := by
  obtain ⟨h1, h2⟩ := h
  refine ⟨h1, ?_⟩
  rcases h2 with h2 | ⟨g, cap, cur, e1, e2, e3⟩
  · exact .inl h2
  · exact .inr ⟨g, cap, cur, e1, Nat.le_trans hb e2, e3⟩
set_option maxRecDepth 100000 in
set_option maxHeartbeats 400000 in
theorem clone_twigs (w : World) (v : Value) (t : List Tw) (h : Tree w v t) :
    Calls Try.prog 44 #[v] w fun r w' => ∃ v', r = .returned v' ∧ Tree w' v' t ∧ (∀ k, v'.ownBlock = some k → w.heap.size ≤ k) ∧ Chg [] w w' := by
  obtain ⟨h, ht⟩ := h
  have hz := fun (w : World) (a : Option Addr) (n c : Nat) => Lib.run_eql_slice_nil (P := Try.prog) w 34 _ a n c 0 0 Try.underlying34
  obtain ⟨i0, hi, hz0, hz1, hz2⟩ := info_parts Try.infoTwig
  rcases h.2 with ⟨rfl, h0⟩ | ⟨g, cap, cur, rfl, _, hg, hn, hc, hs, htk⟩
  · go_enter Try.func44, Try.ntmps44
    go_wp2
    go_ret
    exact ⟨_, rfl, ⟨h, ht⟩, fun k hk => (by cases hk), Chg.refl _ _⟩
  · have hlen := twCells_length t
    have hcl : ∀ j u, (twCells t)[j]? = some u → w.cell? ((⟨g, 0, none⟩ : Addr).add j) = some u := h.cells rfl
    have H2 := Lib.hid (show 0 + t.length ≤ maxLen ∧ (0 + t.length) * 40 ≤ 140737488355328 by simp only [maxLen]; omega)
    have H := Lib.hid (And.intro h (And.intro hlen (And.intro hcl (And.intro ht hi))))
    clear h hlen hcl hg hs htk hc hn ht
    go_enter Try.func44, Try.ntmps44
    go_wp2_with (at_builtin; refine wpList_append_own _ rfl _ _ 34 rfl w.heap.size 33 i0 _ 5 40 Try.underlying34 hi hz0 hz1 hz2 rfl (by decide) _ 0 [] rfl (World.ownsRow_made w #[] 0 (Nat.le_refl _) (by decide) rfl) ⟨g, 0, none⟩ t.length cap (twCells t) rfl H.out.2.1 ((H.out.1.alloc _).cells rfl) (twCells_one t) H2.out.1 H2.out.2 (by rw [World.size_alloc]; omega) ?_; intro v' w1 hown hgrow _)
    go_ret
    exact ⟨_, rfl, ⟨by have := row_baseS hown (Nat.zero_le _); simpa using this, H.out.2.2.2.1⟩, fun k hk => (hown.lt k hk).1, ((Chg.refl _ _).alloc _).grown hgrow (fun k hk => by cases hk; exact .inr (Nat.le_refl _))⟩

set_option maxRecDepth 100000 in
set_option maxHeartbeats 400000 in
theorem copied_any (w : World) (e l : Int) (a : Option Addr) (n c : Nat) (t : List Tw) (h : Tree w (.slice a n c) t) :
    Calls Try.prog 31 #[.agg #[.int .i64 e, .int .i64 l, .slice a n c]] w fun r w' => ∃ a' n' c', r = .returned (.agg #[.int .i64 e, .int .i64 l, .slice a' n' c']) ∧ Tree w' (.slice a' n' c') t ∧ (∀ k, (Value.slice a' n' c').ownBlock = some k → w.heap.size ≤ k) ∧ Chg [] w w' := by
  have H := Lib.hid h
  clear h
  go_enter Try.func31, Try.ntmps31
  go_wp2_with fail
  refine (clone_twigs _ _ t ⟨(H.out.1.alloc _).alloc _, H.out.2⟩).mono ?_
  rintro r w1 ⟨v', rfl, ht, hfr, hc⟩
  obtain ⟨a', c', rfl⟩ := ownsRow_slice ht.1
  have h1 := hc.heap (heap_alloc_lt (heap_alloc_same w (.cells #[.int .i64 e, .int .i64 l, .slice a n c] 36)) (.cells #[.int .i64 0, .int .i64 0, .slice none 0 0] 36)) (by simp)
  have h2 := hc.heap (heap_alloc_same (w.alloc (.cells #[.int .i64 e, .int .i64 l, .slice a n c] 36)) (.cells #[.int .i64 0, .int .i64 0, .slice none 0 0] 36)) (by simp)
  rw [World.size_alloc] at h2
  have c10 := cell_of_cells h1 0
  have c11 := cell_of_cells h1 1
  have c12 := cell_of_cells h1 2
  have f1 := free_of_cells h1
  have c20 := cell_of_cells h2 0
  have c21 := cell_of_cells h2 1
  have c22 := cell_of_cells h2 2
  have f2 := free_of_cells h2
  simp at c10 c11 c12 c20 c21 c22
  have HC := Lib.hid (And.intro hc (And.intro ht (And.intro h1 h2)))
  have HF := Lib.hid hfr
  clear hc ht h1 h2 hfr
  go_wp2
  refine bodyPost_ret (v := .agg #[.int .i64 e, .int .i64 l, .slice a' t.length c']) (by simp [results, Try.results31, go_sem, c20, c21, c22]) rfl ?_
  obtain ⟨hc, ht, h1, h2⟩ := HC.out
  have n1 := ownsRow_ne ht.1 h1 (by decide)
  have n2 := ownsRow_ne ht.1 h2 (by decide)
  refine ⟨_, _, _, rfl, ⟨?_, ht.2⟩, fun k hk => by have := HF.out k hk; simp only [World.size_alloc] at this; omega, ?_⟩
  · exact ownsRow_setCell_other (ownsRow_setCell_other (ownsRow_setCell_other (ownsRow_setCell_other ht.1 n1 _) n2 _) n2 _) n2 _
  · exact (((((((Chg.refl _ _).alloc _).alloc _).tr0 hc).setCell (.inr (by simp)) _).setCell (.inr (by simp)) _).setCell (.inr (by simp)) _).setCell (.inr (by simp)) _
end Go.Proofs.Ytffjfkjlahdedaa

/-
  Package well: a node that repeats; one whose kid may match nothing; a grammar at work.
  Conditions: the grammar reads as data, within the reach.
-/
import Derived.Test.YtibgfgfmljhimaaGreatWe9WeA
set_option linter.unusedVariables false
set_option linter.unusedSimpArgs false
set_option linter.unnecessarySimpa false
namespace Go.Proofs.YtibgfgfmljhimaaGreat
open Go.RowKit Go.MapKept Go.Shelf

/-- A grammar at work as a value: itself, which nodes may match nothing. -/
def workV (a1 : Option Addr) (n1 c1 : Nat) (a2 : Option Addr) (n2 c2 : Nat) (a3 : Option Addr) (n3 c3 : Nat) : Value := .agg #[.slice a1 n1 c1, .slice a2 n2 c2, .slice a3 n3 c3]

set_option maxRecDepth 100000 in
set_option maxHeartbeats 1000000 in
theorem repeats_any (w : World) (a1 : Option Addr) (n1 c1 : Nat) (a2 : Option Addr) (n2 c2 : Nat) (a3 : Option Addr) (n3 c3 : Nat) (g : Gr) (hg : GramAt w a1 n1 c1 a2 n2 c2 g) (n : Nat) (hn : n < g.nodes.length) :
    Calls Tryz.prog 149 #[workV a1 n1 c1 a2 n2 c2 a3 n3 c3, .int .i64 n] w fun e w' => e = .returned (.bool (decide (g.nodes[n].k = 8) || decide (g.nodes[n].k = 9))) ∧ Chg [] w w' := by
  have hn2 : n < n2 := by have := hg.e2; omega
  have hs2 := hg.small.2
  obtain ⟨b, o, ak, nk, ck, rfl, hx⟩ := hg.nodes n hn
  obtain ⟨k, hk⟩ : ∃ k, k = g.nodes[n].k := ⟨_, rfl⟩
  have h0 := hx.k
  have hbk := World.block_lt_of_cell? _ _ h0
  simp only at hbk
  rw [← hk] at h0 ⊢
  clear hx hk hg
  unfold workV
  by_cases h8 : k = 8
  · subst h8
    go_enter Tryz.func149, Tryz.ntmps149
    go_wp2_with fail
    go_ret
    exact ⟨rfl, (Chg.refl _ _).alloc _⟩
  · have e8 : (k == 8) = false := by simpa using h8
    obtain ⟨r, hr⟩ : ∃ r, r = (decide (k = 8) || decide (k = 9)) := ⟨_, rfl⟩
    rw [← hr]
    have e9 : (k == 9) = r := by rw [hr, decide_eq_false h8, Bool.false_or]; rfl
    clear hr
    go_enter Tryz.func149, Tryz.ntmps149
    go_wp2_with fail
    go_ret
    exact ⟨rfl, (Chg.refl _ _).alloc _⟩

set_option maxRecDepth 100000 in
set_option maxHeartbeats 1000000 in
theorem empty_any (w : World) (a1 : Option Addr) (n1 c1 : Nat) (a2 : Option Addr) (n2 c2 : Nat) (a3 : Option Addr) (n3 c3 : Nat) (g : Gr) (hg : GramAt w a1 n1 c1 a2 n2 c2 g) (n : Nat) (hn : n < g.nodes.length) (hk1 : 0 < g.nodes[n].kids.length) (zs : List Int) (hn3 : n3 = zs.length) (hs3 : n3 ≤ 100000) (hz : Ints w a3 zs) (ho : zs.Pairwise (· < ·)) :
    Calls Tryz.prog 150 #[workV a1 n1 c1 a2 n2 c2 a3 n3 c3, .int .i64 n] w fun e w' => e = .returned (.bool (decide (g.nodes[n].kids[0] ∈ zs))) ∧ Chg [] w w' := by
  have hn2 : n < n2 := by have := hg.e2; omega
  have hs2 := hg.small.2
  obtain ⟨b, o, ak, nk, ck, rfl, hx⟩ := hg.nodes n hn
  obtain ⟨bz, oz, rfl, h9⟩ := hx.ints 0 hk1
  obtain ⟨z, hz0⟩ : ∃ z, z = g.nodes[n].kids[0] := ⟨_, rfl⟩
  obtain ⟨r, hr⟩ : ∃ r, r = decide (z ∈ zs) := ⟨_, rfl⟩
  have h8 := hx.kids
  rw [← hz0, Nat.add_zero] at h9
  rw [← hz0]
  rw [← hr]
  have hnk : 0 < nk := by rw [hx.len]; exact hk1
  have hnk2 : nk ≤ 9223372036854775807 := by have := hx.le; have := hx.cap; simp only [maxLen] at this; omega
  have H := Lib.hid (And.intro hn3 (And.intro hz (And.intro ho hr)))
  clear hx hz0 hr hg hn3 hz ho
  unfold workV
  go_enter Tryz.func150, Tryz.ntmps150
  go_wp2_with fail
  obtain ⟨w4, e4⟩ : ∃ w4, w4 = w.alloc (.cells #[.slice a1 n1 c1, .slice (some ⟨b, o, none⟩) n2 c2, .slice a3 n3 c3] 131) := ⟨_, rfl⟩
  have hc4 : Chg [] w w4 := by rw [e4]; exact (Chg.refl _ _).alloc _
  have hb4 : w4.heap[w.heap.size]? = some (.cells #[.slice a1 n1 c1, .slice (some ⟨b, o, none⟩) n2 c2, .slice a3 n3 c3] 131 (0, 0)) := by rw [e4]; exact heap_alloc_same _ _
  rw [← e4]
  obtain ⟨x0, x1, x2⟩ := cells3 hb4
  have k1 := cell_rg x1
  have k2 := cell_rg x2
  have k9 := cell_rg (hc4.cell h9 (by simp))
  have k8 := cell_rg (hc4.cell h8 (by simp))
  obtain ⟨p, hp⟩ : ∃ p, p = placeI zs z := ⟨_, rfl⟩
  have cA := calls_rg (w := w4) (P := Tryz.prog) (f := 175) (args := #[.slice a3 n3 c3, .int .i64 z]) (v := .tuple #[.int .i64 p, .bool r]) (fun w1 h1 => (search_any w1 a3 n3 c3 zs z H.out.1 hs3 (H.out.2.1.keep (hc4.tr h1).kp) H.out.2.2.1).mono (by rintro e w2 ⟨rfl, rfl⟩; rw [H.out.2.2.2, hp]; exact ⟨rfl, Chg.refl _ _⟩))
  have HC := Lib.hid hc4
  clear e4 hc4 hb4 x0 x1 x2 h8 h9 hp
  refine wp_region_quiet_below (by kernel_rfl) (by kernel_rfl) ?_
  repeat (go_big_quiet_step (first | (with_reducible exact cA _ _)))
  refine wpQuiet_nil ?_
  intro w5 hw5
  have H5 := Lib.hid (HC.out.tr (chg_of_rg hw5))
  clear hw5 cA k1 k2 k8 k9
  go_wp2_with fail
  go_ret
  exact ⟨rfl, H5.out⟩

theorem three_set {w : World} {b : Nat} {t : TypeId} {u0 u1 u2 : Value} (v0 v1 v2 : Value) (h : w.heap[b]? = some (.cells #[u0, u1, u2] t (0, 0))) :
    ∃ W, W = ((w.setCell ⟨b, 0, none⟩ v0).setCell ⟨b, 1, none⟩ v1).setCell ⟨b, 2, none⟩ v2 ∧ W.heap[b]? = some (.cells #[v0, v1, v2] t (0, 0)) ∧ Chg [b] w W := by
  refine ⟨_, rfl, ?_, (((Chg.refl [b] w).setCell (p := ⟨b, 0, none⟩) (.inl (by simp)) _).setCell (p := ⟨b, 1, none⟩) (.inl (by simp)) _).setCell (p := ⟨b, 2, none⟩) (.inl (by simp)) _⟩
  simpa using heap_setCell_same (heap_setCell_same (heap_setCell_same h 0 v0) 1 v1) 2 v2
set_option maxRecDepth 100000 in
set_option maxHeartbeats 1000000 in
theorem ofWell_any (w : World) (a1 : Option Addr) (n1 c1 : Nat) (a2 : Option Addr) (n2 c2 : Nat) (g : Gr) (hg : GramAt w a1 n1 c1 a2 n2 c2 g) (hre : Reach g) :
    Calls Tryz.prog 108 #[.agg #[.slice a1 n1 c1, .slice a2 n2 c2]] w fun e w' => Chg [] w w' ∧
      if rightB g then ∃ a3 c3, e = .returned (workV a1 n1 c1 a2 n2 c2 a3 (nodesN g).length c3) ∧ FreshInts w.heap.size w' a3 c3 (nodesN g) else e = .returned (workV none 0 0 none 0 0 none 0 0) := by
  have H := Lib.hid (And.intro hg hre)
  obtain ⟨R, hR⟩ : ∃ R, R = rightB g := ⟨_, rfl⟩
  rw [← hR]
  have hRg := Right_any ((w.alloc (.cells #[.slice a1 n1 c1, .slice a2 n2 c2] 25)).alloc (.cells #[.slice none 0 0, .slice none 0 0, .slice none 0 0] 131)) a1 n1 c1 a2 n2 c2 g (hg.keep (((Chg.refl [] w).alloc _).alloc _).kp)
  rw [← hR] at hRg
  have HR := Lib.hid hR
  clear hg hre hR
  unfold workV
  go_enter Tryz.func108, Tryz.ntmps108
  have hb0 := heap_alloc_lt (heap_alloc_same w (.cells #[.slice a1 n1 c1, .slice a2 n2 c2] 25)) (.cells #[.slice none 0 0, .slice none 0 0, .slice none 0 0] 131)
  obtain ⟨x0, x1⟩ := cells2 hb0
  go_wp2_with fail
  refine hRg.mono ?_
  rintro e w2 ⟨rfl, hc2⟩
  have hcw := (((Chg.refl [] w).alloc _).alloc _).tr hc2
  have hb2 := hc2.heap hb0 (by simp)
  have hb1 := heap_alloc_same (w.alloc (.cells #[.slice a1 n1 c1, .slice a2 n2 c2] 25)) (.cells #[.slice none 0 0, .slice none 0 0, .slice none 0 0] 131)
  rw [World.size_alloc] at hb1
  replace hb1 := hc2.heap hb1 (by simp)
  have H2 := Lib.hid (And.intro hcw (And.intro hb2 hb1))
  clear hc2 hcw hb2 hb1 hRg x0 x1 hb0
  obtain ⟨x0, x1⟩ := cells2 H2.out.2.1
  cases R with
  | false =>
    obtain ⟨y0, y1, y2⟩ := cells3 H2.out.2.2
    have f0 := free_of_cells H2.out.2.2 0
    have f1 := free_of_cells H2.out.2.2 1
    have f2 := free_of_cells H2.out.2.2 2
    go_wp2_with fail
    obtain ⟨w4, e4, z, hch⟩ := three_set (.slice none 0 0) (.slice none 0 0) (.slice none 0 0) H2.out.2.2
    rw [← e4]
    obtain ⟨q0, q1, q2⟩ := cells3 z
    refine bodyPost_ret (v := .agg #[.slice none 0 0, .slice none 0 0, .slice none 0 0]) (by simp [results, Tryz.results108, go_sem, q0, q1, q2, lt_of_block z]) rfl ?_
    refine ⟨H2.out.1.trans hch (fun j hj => .inr (by simp at hj; omega)), rfl⟩
  | true =>
    go_wp2_with fail
    have hN := fun (W : World) (hW : Chg [] w2 W) => nullNodes_any W a1 n1 c1 a2 n2 c2 g (H.out.1.keep (H2.out.1.tr hW).kp) H.out.2
    have HN := Lib.hid hN
    clear hN
    go_region_with (go_at_call 40; refine (HN.out _ (by first | exact Chg.refl _ _ | exact (Chg.refl _ _).drew | exact (Chg.refl _ _).drewN _)).mono ?_; rintro e w5 ⟨a3, c3, rfl, hf, hc5⟩; have hz := hc5.heap (k := w.heap.size + 1) (o := .cells #[.slice none 0 0, .slice none 0 0, .slice none 0 0] 131) H2.out.2.2 (by simp); have H5 := Lib.hid (And.intro hf (And.intro hc5 hz)); obtain ⟨x0', x1'⟩ := cells2 (hc5.heap (k := w.heap.size) (o := .cells #[.slice a1 n1 c1, .slice a2 n2 c2] 25) H2.out.2.1 (by simp)); obtain ⟨y0, y1, y2⟩ := cells3 H5.out.2.2; have f0 := free_of_cells H5.out.2.2 0; have f1 := free_of_cells H5.out.2.2 1; have f2 := free_of_cells H5.out.2.2 2; clear hf hc5 hz)
    all_goals
      obtain ⟨w6, e6, z, hch⟩ := three_set (.slice a1 n1 c1) (.slice a2 n2 c2) (.slice a3 (nodesN g).length c3) H5.out.2.2
      rw [← e6]
      have hlt := lt_of_block H2.out.2.2
      have hcw : Chg [] w w6 := (H2.out.1.drew.tr H5.out.2.1).trans hch (fun j hj => .inr (by simp at hj; omega))
      have hrow : FreshInts w.heap.size w6 a3 c3 (nodesN g) := by
        refine row_base (hch.row H5.out.1 (fun k hk => ?_)) (show w.heap.size ≤ w2.heap.size by omega)
        have h1 := (row_beyond H5.out.1 hk).1
        have h2 : w2.heap.size ≤ k := h1
        simp; omega
      have H6 := Lib.hid (And.intro z (And.intro hcw hrow))
      clear e6 z hch hcw hrow x0 x1 x0' x1' y0 y1 y2 f0 f1 f2
      go_wp2_with fail
      obtain ⟨q0, q1, q2⟩ := cells3 H6.out.1
      refine bodyPost_ret (v := .agg #[.slice a1 n1 c1, .slice a2 n2 c2, .slice a3 (nodesN g).length c3]) (by simp [results, Tryz.results108, go_sem, q0, q1, q2, lt_of_block H6.out.1]) rfl ?_
      refine ⟨H6.out.2.1, ?_⟩
      exact ⟨a3, c3, rfl, H6.out.2.2⟩
end Go.Proofs.YtibgfgfmljhimaaGreat

/-
  Layer 11: the chapter's example, and what is said of it.
  Conditions: none.
-/
import Derived.Test.YtibgfgfmljhimaaGreatQGAw
import Derived.Test.YtibgfgfmljhimaaGreatQNuE
set_option linter.unusedVariables false
set_option linter.unusedSimpArgs false
namespace Go.Proofs.YtibgfgfmljhimaaGreat
open Go.RowKit Go.MapKept Go.Shelf

def ex11 : Gr := gramL [ofL 7 [ofL 6 [[callN 1 0], [callN 2 0]], [wordN ⟨#[97]⟩]], ofL 10 [[wordN ⟨#[98]⟩]], ofL 6 [ofL 8 [[callN 1 0]], ofL 9 [[callN 3 0]]], ofL 7 [ofL 11 [[callN 0 0]], [bareN 2]]]
def exA11 : Gr := gramL [[callN 0 0]]
def exB11 : Gr := gramL [ofL 7 [[callN 0 0], [bareN 1]]]
theorem ex11_says : rankI ex11 0 = 3 ∧ rankI ex11 1 = 1 ∧ rankI ex11 2 = 2 ∧ rankI ex11 3 = 1 := by decide +kernel
theorem exA11_says : rankI exA11 0 = 0 ∧ nodesN exA11 = [] := by decide +kernel
theorem exB11_says : rankI exB11 0 = 1 ∧ nodeI exB11 2 = true := by decide +kernel

set_option maxRecDepth 100000 in
set_option maxHeartbeats 8000000 in
theorem example11_any (w : World) : Calls Tryz.prog 22 #[] w (NewGram w ex11) := by
  go_enter Tryz.func22, Tryz.ntmps22
  go_wp2_with fail
  refine (CallB_any _ _ _).mono ?_
  rintro e w1 ⟨a1, c1, rfl, n1, -, -, h1⟩
  have cm := h1
  have A1 := Lib.hid (And.intro cm (n1))
  clear cm h1 n1
  go_wp2_with fail
  refine (CallB_any _ _ _).mono ?_
  rintro e w2 ⟨a2, c2, rfl, n2, -, -, h2⟩
  have n1 := (A1.out.2).keep h2.kp
  have cm := (A1.out.1).tr h2
  have A2 := Lib.hid (And.intro cm (And.intro n1 (n2)))
  clear cm h2 n1 n2
  go_wp2_with fail
  refine (CallB_any _ _ _).mono ?_
  rintro e w3 ⟨a3, c3, rfl, n3, -, -, h3⟩
  have n1 := (A2.out.2.1).keep h3.kp
  have n2 := (A2.out.2.2).keep h3.kp
  have cm := (A2.out.1).tr h3
  have A3 := Lib.hid (And.intro cm (And.intro n1 (And.intro n2 (n3))))
  clear cm h3 n1 n2 n3
  go_wp2_with fail
  refine ((Chain_any _ a1 c1 ([callN 1 0]) a2 c2 ([callN 2 0]) A3.out.2.1 (small_of (by decide +kernel)) A3.out.2.2.1 (small_of (by decide +kernel)) (by decide +kernel)).mono fun _ _ h => h.body).mono ?_
  rintro e w4 ⟨a4, c4, rfl, n4, -, -, h4⟩
  have n1 := (A3.out.2.1).keep h4.kp
  have n2 := (A3.out.2.2.1).keep h4.kp
  have n3 := (A3.out.2.2.2).keep h4.kp
  have cm := (A3.out.1).tr h4
  have A4 := Lib.hid (And.intro cm (And.intro n1 (And.intro n2 (And.intro n3 (n4)))))
  clear cm h4 n1 n2 n3 n4
  go_wp2_with fail
  refine (Word_any _ _).mono ?_
  rintro e w5 ⟨a5, c5, rfl, n5, -, -, h5⟩
  have n1 := (A4.out.2.1).keep h5.kp
  have n2 := (A4.out.2.2.1).keep h5.kp
  have n3 := (A4.out.2.2.2.1).keep h5.kp
  have n4 := (A4.out.2.2.2.2).keep h5.kp
  have cm := (A4.out.1).tr h5
  have A5 := Lib.hid (And.intro cm (And.intro n1 (And.intro n2 (And.intro n3 (And.intro n4 (n5))))))
  clear cm h5 n1 n2 n3 n4 n5
  go_wp2_with fail
  refine ((First_any _ a4 c4 (ofL 6 [[callN 1 0], [callN 2 0]]) a5 c5 ([wordN ⟨#[97]⟩]) A5.out.2.2.2.2.1 (small_of (by decide +kernel)) A5.out.2.2.2.2.2 (small_of (by decide +kernel)) (by decide +kernel)).mono fun _ _ h => h.body).mono ?_
  rintro e w6 ⟨a6, c6, rfl, n6, -, -, h6⟩
  have n1 := (A5.out.2.1).keep h6.kp
  have n2 := (A5.out.2.2.1).keep h6.kp
  have n3 := (A5.out.2.2.2.1).keep h6.kp
  have cm := (A5.out.1).tr h6
  have A6 := Lib.hid (And.intro cm (And.intro n1 (And.intro n2 (And.intro n3 (n6)))))
  clear cm h6 n1 n2 n3 n6
  go_wp2_with fail
  refine (Word_any _ _).mono ?_
  rintro e w7 ⟨a7, c7, rfl, n7, -, -, h7⟩
  have n1 := (A6.out.2.1).keep h7.kp
  have n2 := (A6.out.2.2.1).keep h7.kp
  have n3 := (A6.out.2.2.2.1).keep h7.kp
  have n6 := (A6.out.2.2.2.2).keep h7.kp
  have cm := (A6.out.1).tr h7
  have A7 := Lib.hid (And.intro cm (And.intro n1 (And.intro n2 (And.intro n3 (And.intro n6 (n7))))))
  clear cm h7 n1 n2 n3 n6 n7
  go_wp2_with fail
  refine ((In_any _ _ a7 c7 ([wordN ⟨#[98]⟩]) A7.out.2.2.2.2.2 (small_of (by decide +kernel))).mono fun _ _ h => h.body).mono ?_
  rintro e w8 ⟨a8, c8, rfl, n8, -, -, h8⟩
  have n1 := (A7.out.2.1).keep h8.kp
  have n2 := (A7.out.2.2.1).keep h8.kp
  have n3 := (A7.out.2.2.2.1).keep h8.kp
  have n6 := (A7.out.2.2.2.2.1).keep h8.kp
  have cm := (A7.out.1).tr h8
  have A8 := Lib.hid (And.intro cm (And.intro n1 (And.intro n2 (And.intro n3 (And.intro n6 (n8))))))
  clear cm h8 n1 n2 n3 n6 n8
  go_wp2_with fail
  refine ((In_any _ _ a1 c1 ([callN 1 0]) A8.out.2.1 (small_of (by decide +kernel))).mono fun _ _ h => h.body).mono ?_
  rintro e w9 ⟨a9, c9, rfl, n9, -, -, h9⟩
  have n1 := (A8.out.2.1).keep h9.kp
  have n2 := (A8.out.2.2.1).keep h9.kp
  have n3 := (A8.out.2.2.2.1).keep h9.kp
  have n6 := (A8.out.2.2.2.2.1).keep h9.kp
  have n8 := (A8.out.2.2.2.2.2).keep h9.kp
  have cm := (A8.out.1).tr h9
  have A9 := Lib.hid (And.intro cm (And.intro n1 (And.intro n2 (And.intro n3 (And.intro n6 (And.intro n8 (n9)))))))
  clear cm h9 n1 n2 n3 n6 n8 n9
  go_wp2_with fail
  refine ((In_any _ _ a3 c3 ([callN 3 0]) A9.out.2.2.2.1 (small_of (by decide +kernel))).mono fun _ _ h => h.body).mono ?_
  rintro e w10 ⟨a10, c10, rfl, n10, -, -, h10⟩
  have n1 := (A9.out.2.1).keep h10.kp
  have n2 := (A9.out.2.2.1).keep h10.kp
  have n3 := (A9.out.2.2.2.1).keep h10.kp
  have n6 := (A9.out.2.2.2.2.1).keep h10.kp
  have n8 := (A9.out.2.2.2.2.2.1).keep h10.kp
  have n9 := (A9.out.2.2.2.2.2.2).keep h10.kp
  have cm := (A9.out.1).tr h10
  have A10 := Lib.hid (And.intro cm (And.intro n1 (And.intro n2 (And.intro n3 (And.intro n6 (And.intro n8 (And.intro n9 (n10))))))))
  clear cm h10 n1 n2 n3 n6 n8 n9 n10
  go_wp2_with fail
  refine ((Chain_any _ a9 c9 (ofL 8 [[callN 1 0]]) a10 c10 (ofL 9 [[callN 3 0]]) A10.out.2.2.2.2.2.2.1 (small_of (by decide +kernel)) A10.out.2.2.2.2.2.2.2 (small_of (by decide +kernel)) (by decide +kernel)).mono fun _ _ h => h.body).mono ?_
  rintro e w11 ⟨a11, c11, rfl, n11, -, -, h11⟩
  have n1 := (A10.out.2.1).keep h11.kp
  have n2 := (A10.out.2.2.1).keep h11.kp
  have n3 := (A10.out.2.2.2.1).keep h11.kp
  have n6 := (A10.out.2.2.2.2.1).keep h11.kp
  have n8 := (A10.out.2.2.2.2.2.1).keep h11.kp
  have cm := (A10.out.1).tr h11
  have A11 := Lib.hid (And.intro cm (And.intro n1 (And.intro n2 (And.intro n3 (And.intro n6 (And.intro n8 (n11)))))))
  clear cm h11 n1 n2 n3 n6 n8 n11
  go_wp2_with fail
  refine (CallB_any _ _ _).mono ?_
  rintro e w12 ⟨a12, c12, rfl, n12, -, -, h12⟩
  have n1 := (A11.out.2.1).keep h12.kp
  have n2 := (A11.out.2.2.1).keep h12.kp
  have n3 := (A11.out.2.2.2.1).keep h12.kp
  have n6 := (A11.out.2.2.2.2.1).keep h12.kp
  have n8 := (A11.out.2.2.2.2.2.1).keep h12.kp
  have n11 := (A11.out.2.2.2.2.2.2).keep h12.kp
  have cm := (A11.out.1).tr h12
  have A12 := Lib.hid (And.intro cm (And.intro n1 (And.intro n2 (And.intro n3 (And.intro n6 (And.intro n8 (And.intro n11 (n12))))))))
  clear cm h12 n1 n2 n3 n6 n8 n11 n12
  go_wp2_with fail
  refine ((In_any _ _ a12 c12 ([callN 0 0]) A12.out.2.2.2.2.2.2.2 (small_of (by decide +kernel))).mono fun _ _ h => h.body).mono ?_
  rintro e w13 ⟨a13, c13, rfl, n13, -, -, h13⟩
  have n1 := (A12.out.2.1).keep h13.kp
  have n2 := (A12.out.2.2.1).keep h13.kp
  have n3 := (A12.out.2.2.2.1).keep h13.kp
  have n6 := (A12.out.2.2.2.2.1).keep h13.kp
  have n8 := (A12.out.2.2.2.2.2.1).keep h13.kp
  have n11 := (A12.out.2.2.2.2.2.2.1).keep h13.kp
  have cm := (A12.out.1).tr h13
  have A13 := Lib.hid (And.intro cm (And.intro n1 (And.intro n2 (And.intro n3 (And.intro n6 (And.intro n8 (And.intro n11 (n13))))))))
  clear cm h13 n1 n2 n3 n6 n8 n11 n13
  go_wp2_with fail
  refine (Leaf_any _ _).mono ?_
  rintro e w14 ⟨a14, c14, rfl, n14, -, -, h14⟩
  have n1 := (A13.out.2.1).keep h14.kp
  have n2 := (A13.out.2.2.1).keep h14.kp
  have n3 := (A13.out.2.2.2.1).keep h14.kp
  have n6 := (A13.out.2.2.2.2.1).keep h14.kp
  have n8 := (A13.out.2.2.2.2.2.1).keep h14.kp
  have n11 := (A13.out.2.2.2.2.2.2.1).keep h14.kp
  have n13 := (A13.out.2.2.2.2.2.2.2).keep h14.kp
  have cm := (A13.out.1).tr h14
  have A14 := Lib.hid (And.intro cm (And.intro n1 (And.intro n2 (And.intro n3 (And.intro n6 (And.intro n8 (And.intro n11 (And.intro n13 (n14)))))))))
  clear cm h14 n1 n2 n3 n6 n8 n11 n13 n14
  go_wp2_with fail
  refine ((First_any _ a13 c13 (ofL 11 [[callN 0 0]]) a14 c14 ([bareN 2]) A14.out.2.2.2.2.2.2.2.1 (small_of (by decide +kernel)) A14.out.2.2.2.2.2.2.2.2 (small_of (by decide +kernel)) (by decide +kernel)).mono fun _ _ h => h.body).mono ?_
  rintro e w15 ⟨a15, c15, rfl, n15, -, -, h15⟩
  have n1 := (A14.out.2.1).keep h15.kp
  have n2 := (A14.out.2.2.1).keep h15.kp
  have n3 := (A14.out.2.2.2.1).keep h15.kp
  have n6 := (A14.out.2.2.2.2.1).keep h15.kp
  have n8 := (A14.out.2.2.2.2.2.1).keep h15.kp
  have n11 := (A14.out.2.2.2.2.2.2.1).keep h15.kp
  have cm := (A14.out.1).tr h15
  have A15 := Lib.hid (And.intro cm (And.intro n1 (And.intro n2 (And.intro n3 (And.intro n6 (And.intro n8 (And.intro n11 (n15))))))))
  clear cm h15 n1 n2 n3 n6 n8 n11 n15
  go_wp2_with fail
  have hk := bodies_made (w := w15.alloc (.cells #[.slice a6 (ofL 7 [ofL 6 [[callN 1 0], [callN 2 0]], [wordN ⟨#[97]⟩]]).length c6, .slice a8 (ofL 10 [[wordN ⟨#[98]⟩]]).length c8, .slice a11 (ofL 6 [ofL 8 [[callN 1 0]], ofL 9 [[callN 3 0]]]).length c11, .slice a15 (ofL 7 [ofL 11 [[callN 0 0]], [bareN 2]]).length c15] 23)) (vs := [(a6, c6), (a8, c8), (a11, c11), (a15, c15)]) (KL := [ofL 7 [ofL 6 [[callN 1 0], [callN 2 0]], [wordN ⟨#[97]⟩]], ofL 10 [[wordN ⟨#[98]⟩]], ofL 6 [ofL 8 [[callN 1 0]], ofL 9 [[callN 3 0]]], ofL 7 [ofL 11 [[callN 0 0]], [bareN 2]]]) rfl (by
    intro i h
    have hi : i = 0 ∨ i = 1 ∨ i = 2 ∨ i = 3 := by simp at h; omega
    rcases hi with rfl | rfl | rfl | rfl
    · exact (A15.out.2.2.2.2.1).keep ((Chg.refl [] w15).alloc _).kp
    · exact (A15.out.2.2.2.2.2.1).keep ((Chg.refl [] w15).alloc _).kp
    · exact (A15.out.2.2.2.2.2.2.1).keep ((Chg.refl [] w15).alloc _).kp
    · exact (A15.out.2.2.2.2.2.2.2).keep ((Chg.refl [] w15).alloc _).kp
    ) (heap_alloc_same w15 _)
  refine ((Gram_any _ _ 4 4 _ rfl hk (fun b hb => small_of (List.all_eq_true.1 (show ([ofL 7 [ofL 6 [[callN 1 0], [callN 2 0]], [wordN ⟨#[97]⟩]], ofL 10 [[wordN ⟨#[98]⟩]], ofL 6 [ofL 8 [[callN 1 0]], ofL 9 [[callN 3 0]]], ofL 7 [ofL 11 [[callN 0 0]], [bareN 2]]]).all smallB = true by decide +kernel) b hb)) (by decide +kernel) (by decide)).mono fun _ _ h => NewGramRows.new (g := ex11) h (wf_of (by decide +kernel))).mono ?_
  rintro e w16 ⟨b1, d1, b2, d2, rfl, hg, hc⟩
  have cm := (((A15.out.1).alloc (.cells #[.slice a6 (ofL 7 [ofL 6 [[callN 1 0], [callN 2 0]], [wordN ⟨#[97]⟩]]).length c6, .slice a8 (ofL 10 [[wordN ⟨#[98]⟩]]).length c8, .slice a11 (ofL 6 [ofL 8 [[callN 1 0]], ofL 9 [[callN 3 0]]]).length c11, .slice a15 (ofL 7 [ofL 11 [[callN 0 0]], [bareN 2]]).length c15] 23)).tr0 hc)
  have hb := cm.heap (heap_alloc_same w (.cells #[.slice none 0 0, .slice none 0 0] 25)) (by simp)
  obtain ⟨x0, x1⟩ := cells2 hb
  have f0 := free_of_cells hb 0
  have f1 := free_of_cells hb 1
  obtain ⟨rl, hrl⟩ : ∃ rl, rl = ex11.rules.length := ⟨_, rfl⟩
  obtain ⟨nl, hnl⟩ : ∃ nl, nl = ex11.nodes.length := ⟨_, rfl⟩
  rw [← hrl, ← hnl]
  have H := Lib.hid (And.intro hg (And.intro cm (And.intro hb (And.intro hrl hnl))))
  clear hg cm hb hk hc hrl hnl
  go_wp2_with fail
  clear x0 x1 f0 f1
  obtain ⟨hg, cm, hb, hrl, hnl⟩ := H.out
  have hc := ((Chg.refl [w.heap.size] w16).setCell (p := ⟨w.heap.size, 0, none⟩) (.inl (by simp)) (.slice b1 rl d1)).setCell (p := ⟨w.heap.size, 1, none⟩) (.inl (by simp)) (.slice b2 nl d2)
  have hz := heap_setCell_same (heap_setCell_same hb 0 (.slice b1 rl d1)) 1 (.slice b2 nl d2)
  simp at hz
  obtain ⟨y0, y1⟩ := cells2 hz
  have hTl := lt_of_block hz
  refine bodyPost_ret (v := .agg #[.slice b1 rl d1, .slice b2 nl d2]) (by simp [results, Tryz.results22, go_sem, y0, y1, hTl]) rfl ?_
  have hT2 : TwoS w16 w.heap.size 25 := ⟨_, _, _, _, _, _, hb⟩
  exact ⟨b1, d1, b2, d2, by rw [hrl, hnl], ⟨hg.e1, hg.le1, hg.cap1, hg.rules.two hT2 hc, hg.e2, hg.le2, hg.cap2, hg.nodes.two hT2 hc, hg.wf⟩, (((Chg.refl [] w).alloc _).tr0 cm).trans hc (fun i hi => .inr (by simp at hi; omega))⟩

set_option maxRecDepth 100000 in
set_option maxHeartbeats 8000000 in
theorem awake11_any (w : World) : Calls Tryz.prog 11 #[] w fun e w' => e = .returned (.bool true) ∧ Chg [] w w' := by
  go_enter Tryz.func11, Tryz.ntmps11
  go_wp2_with fail
  refine (example11_any _).mono ?_
  rintro e w1 ⟨p1, q1, p2, q2, rfl, hg1, hc1⟩
  have H1 := Lib.hid (And.intro hg1 hc1)
  clear hg1 hc1
  go_wp2_with fail
  refine (CallB_any _ _ _).mono ?_
  rintro e w2 ⟨a2, c2, rfl, n2, -, -, h2⟩
  have H2 := Lib.hid (And.intro n2 (And.intro (h2.heap (heap_alloc_same w1 _) (by simp)) (And.intro ((H1.out.2.alloc _).tr0 h2) (H1.out.1.keep (((Chg.refl [] w1).alloc _).tr0 h2).kp))))
  have hl2 := h2.size
  clear n2 h2
  go_wp2_with fail
  have hk := bodies_made (w := w2.alloc (.cells #[.slice a2 1 c2] 23)) (vs := [(a2, c2)]) (KL := [[callN 0 0]]) rfl (by
    intro i h
    have hi : i = 0 := by simpa using h
    subst hi
    exact H2.out.1.keep ((Chg.refl [] w2).alloc _).kp) (heap_alloc_same w2 _)
  refine ((Gram_any _ _ 1 1 _ rfl hk (fun b hb => small_of (List.all_eq_true.1 (show ([[callN 0 0]]).all smallB = true by decide +kernel) b hb)) (by decide +kernel) (by decide)).mono fun _ _ h => NewGramRows.new (g := exA11) h (wf_of (by decide +kernel))).mono ?_
  rintro e w3 ⟨s1, t1, s2, t2, rfl, hg3, h3⟩
  have H3 := Lib.hid (And.intro hg3 (And.intro (((Chg.refl [] w2).alloc _).tr0 h3 |>.heap H2.out.2.1 (by simp)) (And.intro ((H2.out.2.2.1.alloc _).tr0 h3) (H2.out.2.2.2.keep (((Chg.refl [] w2).alloc _).tr0 h3).kp))))
  have hl3 := h3.size
  clear hg3 h3 hk
  go_wp2_with fail
  refine (CallB_any _ _ _).mono ?_
  rintro e w4 ⟨a4, c4, rfl, n4, -, -, h4⟩
  have H4 := Lib.hid (And.intro n4 (And.intro (h4.heap (heap_alloc_same w3 _) (by simp)) (And.intro (((Chg.refl [] w3).alloc _).tr0 h4 |>.heap H3.out.2.1 (by simp)) (And.intro ((H3.out.2.2.1.alloc _).tr0 h4) (And.intro (H3.out.2.2.2.keep (((Chg.refl [] w3).alloc _).tr0 h4).kp) (H3.out.1.keep (((Chg.refl [] w3).alloc _).tr0 h4).kp))))))
  have hl4 := h4.size
  clear n4 h4
  go_wp2_with fail
  refine (Leaf_any _ _).mono ?_
  rintro e w5 ⟨a5, c5, rfl, n5, -, -, h5⟩
  have H5 := Lib.hid (And.intro (H4.out.1.keep h5.kp) (And.intro n5 (And.intro (h5.heap H4.out.2.1 (by simp)) (And.intro (h5.heap H4.out.2.2.1 (by simp)) (And.intro (H4.out.2.2.2.1.tr h5) (And.intro (H4.out.2.2.2.2.1.keep h5.kp) (H4.out.2.2.2.2.2.keep h5.kp)))))))
  have hl5 := h5.size
  clear n5 h5
  go_wp2_with fail
  refine ((First_any _ a4 c4 _ a5 c5 _ H5.out.1 (small_of (by decide +kernel)) H5.out.2.1 (small_of (by decide +kernel)) (by decide +kernel)).mono fun _ _ h => h.body).mono ?_
  rintro e w6 ⟨a6, c6, rfl, n6, -, -, h6⟩
  have H6 := Lib.hid (And.intro n6 (And.intro (h6.heap H5.out.2.2.1 (by simp)) (And.intro (h6.heap H5.out.2.2.2.1 (by simp)) (And.intro (H5.out.2.2.2.2.1.tr h6) (And.intro (H5.out.2.2.2.2.2.1.keep h6.kp) (H5.out.2.2.2.2.2.2.keep h6.kp))))))
  have hl6 := h6.size
  clear n6 h6
  go_wp2_with fail
  have hk := bodies_made (w := w6.alloc (.cells #[.slice a6 (ofL 7 [[callN 0 0], [bareN 1]]).length c6] 23)) (vs := [(a6, c6)]) (KL := [ofL 7 [[callN 0 0], [bareN 1]]]) rfl (by
    intro i h
    have hi : i = 0 := by simpa using h
    subst hi
    exact H6.out.1.keep ((Chg.refl [] w6).alloc _).kp) (heap_alloc_same w6 _)
  refine ((Gram_any _ _ 1 1 _ rfl hk (fun b hb => small_of (List.all_eq_true.1 (show ([ofL 7 [[callN 0 0], [bareN 1]]]).all smallB = true by decide +kernel) b hb)) (by decide +kernel) (by decide)).mono fun _ _ h => NewGramRows.new (g := exB11) h (wf_of (by decide +kernel))).mono ?_
  rintro e w7 ⟨u1, v1, u2, v2, rfl, hg7, h7⟩
  have hx7 := ((Chg.refl [] w6).alloc (.cells #[.slice a6 (ofL 7 [[callN 0 0], [bareN 1]]).length c6] 23)).tr0 h7
  have hl7 := h7.size
  have cA := (Chg.refl [] w7).alloc (.cells #[.slice u1 exB11.rules.length v1, .slice u2 exB11.nodes.length v2] 25)
  have D := Lib.hid (And.intro ((H6.out.2.2.2.1.tr hx7).tr cA) (And.intro (cA.heap (hx7.heap H6.out.2.2.1 (by simp)) (by simp)) (And.intro (cA.heap (hx7.heap H6.out.2.1 (by simp)) (by simp)) (And.intro (heap_alloc_same w7 (.cells #[.slice u1 exB11.rules.length v1, .slice u2 exB11.nodes.length v2] 25)) (And.intro (H6.out.2.2.2.2.1.keep (hx7.tr cA).kp) (And.intro (H6.out.2.2.2.2.2.keep (hx7.tr cA).kp) (hg7.keep cA.kp)))))))
  clear hg7 h7 hx7 hk cA

  obtain ⟨x0, x1⟩ := cells2 D.out.2.1
  go_wp2_with fail
  have hp := nullRank_any _ p1 _ q1 p2 _ q2 ex11 (D.out.2.2.2.2.1) (reach_of (by decide +kernel)) 0
  rw [ex11_says.1] at hp
  refine hp.mono ?_
  rintro e z0 ⟨rfl, h⟩
  have D0 := Lib.hid (And.intro (D.out.1.tr h) (And.intro (h.heap D.out.2.1 (by simp)) (And.intro (h.heap D.out.2.2.1 (by simp)) (And.intro (h.heap D.out.2.2.2.1 (by simp)) (And.intro (D.out.2.2.2.2.1.keep h.kp) (And.intro (D.out.2.2.2.2.2.1.keep h.kp) (D.out.2.2.2.2.2.2.keep h.kp)))))))
  clear h x0 x1 hp
  obtain ⟨x0, x1⟩ := cells2 D0.out.2.1
  go_wp2_with fail
  have hp := nullRank_any _ p1 _ q1 p2 _ q2 ex11 (D0.out.2.2.2.2.1) (reach_of (by decide +kernel)) 1
  rw [ex11_says.2.1] at hp
  refine hp.mono ?_
  rintro e z1 ⟨rfl, h⟩
  have D1 := Lib.hid (And.intro (D0.out.1.tr h) (And.intro (h.heap D0.out.2.1 (by simp)) (And.intro (h.heap D0.out.2.2.1 (by simp)) (And.intro (h.heap D0.out.2.2.2.1 (by simp)) (And.intro (D0.out.2.2.2.2.1.keep h.kp) (And.intro (D0.out.2.2.2.2.2.1.keep h.kp) (D0.out.2.2.2.2.2.2.keep h.kp)))))))
  clear h x0 x1 hp
  obtain ⟨x0, x1⟩ := cells2 D1.out.2.1
  go_wp2_with fail
  have hp := nullRank_any _ p1 _ q1 p2 _ q2 ex11 (D1.out.2.2.2.2.1) (reach_of (by decide +kernel)) 2
  rw [ex11_says.2.2.1] at hp
  refine hp.mono ?_
  rintro e z2 ⟨rfl, h⟩
  have D2 := Lib.hid (And.intro (D1.out.1.tr h) (And.intro (h.heap D1.out.2.1 (by simp)) (And.intro (h.heap D1.out.2.2.1 (by simp)) (And.intro (h.heap D1.out.2.2.2.1 (by simp)) (And.intro (D1.out.2.2.2.2.1.keep h.kp) (And.intro (D1.out.2.2.2.2.2.1.keep h.kp) (D1.out.2.2.2.2.2.2.keep h.kp)))))))
  clear h x0 x1 hp
  obtain ⟨x0, x1⟩ := cells2 D2.out.2.1
  go_wp2_with fail
  have hp := nullRank_any _ p1 _ q1 p2 _ q2 ex11 (D2.out.2.2.2.2.1) (reach_of (by decide +kernel)) 3
  rw [ex11_says.2.2.2] at hp
  refine hp.mono ?_
  rintro e z3 ⟨rfl, h⟩
  have D3 := Lib.hid (And.intro (D2.out.1.tr h) (And.intro (h.heap D2.out.2.1 (by simp)) (And.intro (h.heap D2.out.2.2.1 (by simp)) (And.intro (h.heap D2.out.2.2.2.1 (by simp)) (And.intro (D2.out.2.2.2.2.1.keep h.kp) (And.intro (D2.out.2.2.2.2.2.1.keep h.kp) (D2.out.2.2.2.2.2.2.keep h.kp)))))))
  clear h x0 x1 hp
  obtain ⟨x0, x1⟩ := cells2 D3.out.2.2.1
  go_wp2_with fail
  have hp := nullRule_any _ s1 _ t1 s2 _ t2 exA11 (D3.out.2.2.2.2.2.1) (reach_of (by decide +kernel)) 0
  rw [exA11_says.1] at hp
  refine hp.mono ?_
  rintro e z4 ⟨rfl, h⟩
  have D4 := Lib.hid (And.intro (D3.out.1.tr h) (And.intro (h.heap D3.out.2.1 (by simp)) (And.intro (h.heap D3.out.2.2.1 (by simp)) (And.intro (h.heap D3.out.2.2.2.1 (by simp)) (And.intro (D3.out.2.2.2.2.1.keep h.kp) (And.intro (D3.out.2.2.2.2.2.1.keep h.kp) (D3.out.2.2.2.2.2.2.keep h.kp)))))))
  clear h x0 x1 hp
  obtain ⟨x0, x1⟩ := cells2 D4.out.2.2.2.1
  go_wp2_with fail
  have hp := nullRank_any _ u1 _ v1 u2 _ v2 exB11 (D4.out.2.2.2.2.2.2) (reach_of (by decide +kernel)) 0
  rw [exB11_says.1] at hp
  refine hp.mono ?_
  rintro e z5 ⟨rfl, h⟩
  have D5 := Lib.hid (And.intro (D4.out.1.tr h) (And.intro (h.heap D4.out.2.1 (by simp)) (And.intro (h.heap D4.out.2.2.1 (by simp)) (And.intro (h.heap D4.out.2.2.2.1 (by simp)) (And.intro (D4.out.2.2.2.2.1.keep h.kp) (And.intro (D4.out.2.2.2.2.2.1.keep h.kp) (D4.out.2.2.2.2.2.2.keep h.kp)))))))
  clear h x0 x1 hp
  obtain ⟨x0, x1⟩ := cells2 D5.out.2.2.2.1
  go_wp2_with fail
  have hp := nullNode_any _ u1 _ v1 u2 _ v2 exB11 (D5.out.2.2.2.2.2.2) (reach_of (by decide +kernel)) 2
  rw [exB11_says.2] at hp
  refine hp.mono ?_
  rintro e z6 ⟨rfl, h⟩
  have D6 := Lib.hid (And.intro (D5.out.1.tr h) (And.intro (h.heap D5.out.2.1 (by simp)) (And.intro (h.heap D5.out.2.2.1 (by simp)) (And.intro (h.heap D5.out.2.2.2.1 (by simp)) (And.intro (D5.out.2.2.2.2.1.keep h.kp) (And.intro (D5.out.2.2.2.2.2.1.keep h.kp) (D5.out.2.2.2.2.2.2.keep h.kp)))))))
  clear h x0 x1 hp
  obtain ⟨x0, x1⟩ := cells2 D6.out.2.2.1
  go_wp2_with fail
  refine (nullNodes_any _ s1 _ t1 s2 _ t2 exA11 (D6.out.2.2.2.2.2.1) (reach_of (by decide +kernel))).mono ?_
  rw [exA11_says.2]
  rintro e z7 ⟨ya, yc, rfl, -, h⟩
  have D7 := Lib.hid (And.intro (D6.out.1.tr h) (And.intro (h.heap D6.out.2.1 (by simp)) (And.intro (h.heap D6.out.2.2.1 (by simp)) (And.intro (h.heap D6.out.2.2.2.1 (by simp)) (And.intro (D6.out.2.2.2.2.1.keep h.kp) (And.intro (D6.out.2.2.2.2.2.1.keep h.kp) (D6.out.2.2.2.2.2.2.keep h.kp)))))))
  clear h x0 x1
  go_wp2_with fail
  go_ret
  exact ⟨rfl, D7.out.1⟩
end Go.Proofs.YtibgfgfmljhimaaGreat

/-
  Layer 12: the chapter's example, and what is said of it.
  Conditions: none.
-/
import Derived.Test.YtibgfgfmljhimaaGreatLeNEk
import Derived.Test.YtibgfgfmljhimaaGreatLeWeR
import Derived.Test.YtibgfgfmljhimaaGreatLeLfH
set_option linter.unusedVariables false
set_option linter.unusedSimpArgs false
namespace Go.Proofs.YtibgfgfmljhimaaGreat
open Go.RowKit Go.MapKept Go.Shelf

def ex12 : Gr := gramL [ofL 7 [ofL 6 [ofL 10 [[callN 1 0]], [callN 0 0], [wordN ⟨#[120]⟩]], ofL 6 [ofL 11 [[callN 2 0]], [bareN 2]]], ofL 6 [[wordN ⟨#[98]⟩], [callN 0 0]], ofL 6 [ofL 8 [[wordN ⟨#[99]⟩]], [callN 2 0]]]
theorem ex12_says : graphG ex12 = [[0, 1, 2], [], [2]] ∧ toL ex12 0 = [0, 1, 2] ∧ goesB ex12 0 = true ∧ goesB ex12 1 = false ∧ goesB ex12 2 = true ∧ wayL ex12 0 2 = [0, 2] := by decide +kernel
theorem ints_lit {w : World} {zs : List Int} {k : Nat} {t : TypeId} (h : w.heap[k]? = some (.cells (zs.map (Value.int .i64)).toArray t (0, 0))) : Ints w (some ⟨k, 0, none⟩) zs := by
  intro i hi
  refine ⟨k, 0, rfl, ?_⟩
  rw [cell_of_cells h]
  simp [hi]
set_option maxRecDepth 100000 in
set_option maxHeartbeats 2000000 in
theorem same12_any (w : World) (a b : Option Addr) (n c m d' : Nat) (xs ys : List Int) (hn : n = xs.length) (hm : m = ys.length) (hs : n ≤ 9223372036854775807) (hx : Ints w a xs) (hy : Ints w b ys) :
    Calls Tryz.prog 54 #[.slice a n c, .slice b m d'] w fun e w' => e = .returned (.bool (decide (xs = ys))) ∧ Chg [] w w' := by
  have hp := sameInts_any w a b n c m d' xs ys hn hm hs hx hy
  obtain ⟨R, hR⟩ : ∃ R, R = decide (xs = ys) := ⟨_, rfl⟩
  rw [← hR] at hp ⊢
  clear hR hx hy hn hm
  go_enter Tryz.func54, Tryz.ntmps54
  go_wp2_with fail
  refine hp.mono ?_
  clear hp
  rintro e w2 ⟨rfl, hc⟩
  have HC := Lib.hid hc
  clear hc
  go_wp2_with fail
  go_ret
  exact ⟨rfl, HC.out⟩

set_option maxRecDepth 100000 in
set_option maxHeartbeats 8000000 in
theorem example12_any (w : World) : Calls Tryz.prog 52 #[] w (NewGram w ex12) := by
  go_enter Tryz.func52, Tryz.ntmps52
  go_wp2_with fail
  refine (CallB_any _ _ _).mono ?_
  rintro e w1 ⟨a1, c1, rfl, n1, -, -, h1⟩
  have cm := h1
  have A1 := Lib.hid (And.intro cm (n1))
  clear cm h1 n1
  go_wp2_with fail
  refine (CallB_any _ _ _).mono ?_
  rintro e w2 ⟨a2, c2, rfl, n2, -, -, h2⟩
  have n1 := (A1.out.2).keep h2.kp
  have cm := (A1.out.1).tr h2
  have A2 := Lib.hid (And.intro cm (And.intro n1 (n2)))
  clear cm h2 n1 n2
  go_wp2_with fail
  refine (CallB_any _ _ _).mono ?_
  rintro e w3 ⟨a3, c3, rfl, n3, -, -, h3⟩
  have n1 := (A2.out.2.1).keep h3.kp
  have n2 := (A2.out.2.2).keep h3.kp
  have cm := (A2.out.1).tr h3
  have A3 := Lib.hid (And.intro cm (And.intro n1 (And.intro n2 (n3))))
  clear cm h3 n1 n2 n3
  go_wp2_with fail
  refine ((In_any _ _ a2 c2 ([callN 1 0]) A3.out.2.2.1 (small_of (by decide +kernel))).mono fun _ _ h => h.body).mono ?_
  rintro e w4 ⟨a4, c4, rfl, n4, -, -, h4⟩
  have n1 := (A3.out.2.1).keep h4.kp
  have n2 := (A3.out.2.2.1).keep h4.kp
  have n3 := (A3.out.2.2.2).keep h4.kp
  have cm := (A3.out.1).tr h4
  have A4 := Lib.hid (And.intro cm (And.intro n1 (And.intro n2 (And.intro n3 (n4)))))
  clear cm h4 n1 n2 n3 n4
  go_wp2_with fail
  refine (Word_any _ _).mono ?_
  rintro e w5 ⟨a5, c5, rfl, n5, -, -, h5⟩
  have n1 := (A4.out.2.1).keep h5.kp
  have n2 := (A4.out.2.2.1).keep h5.kp
  have n3 := (A4.out.2.2.2.1).keep h5.kp
  have n4 := (A4.out.2.2.2.2).keep h5.kp
  have cm := (A4.out.1).tr h5
  have A5 := Lib.hid (And.intro cm (And.intro n1 (And.intro n2 (And.intro n3 (And.intro n4 (n5))))))
  clear cm h5 n1 n2 n3 n4 n5
  go_wp2_with fail
  have hk := bodies_made (w := w5.alloc (.cells #[.slice a4 (ofL 10 [[callN 1 0]]).length c4, .slice a1 ([callN 0 0]).length c1, .slice a5 ([wordN ⟨#[120]⟩]).length c5] 23)) (vs := [(a4, c4), (a1, c1), (a5, c5)]) (KL := [ofL 10 [[callN 1 0]], [callN 0 0], [wordN ⟨#[120]⟩]]) rfl (by
    intro i h
    have hi : i = 0 ∨ i = 1 ∨ i = 2 := by simp at h; omega
    rcases hi with rfl | rfl | rfl
    · exact (A5.out.2.2.2.2.1).keep ((Chg.refl [] w5).alloc _).kp
    · exact (A5.out.2.1).keep ((Chg.refl [] w5).alloc _).kp
    · exact (A5.out.2.2.2.2.2).keep ((Chg.refl [] w5).alloc _).kp
    ) (heap_alloc_same w5 _)
  refine ((Of_any _ 6 _ 3 3 _ rfl hk (fun b hb => small_of (List.all_eq_true.1 (show ([ofL 10 [[callN 1 0]], [callN 0 0], [wordN ⟨#[120]⟩]]).all smallB = true by decide +kernel) b hb)) (by decide +kernel) (by decide)).mono fun _ _ h => h.body).mono ?_
  rintro e w6 ⟨a6, c6, rfl, n6, -, -, h⟩
  have h6 : Chg [] w5 w6 := ((Chg.refl [] w5).alloc _).tr0 h
  have n1 := (A5.out.2.1).keep h6.kp
  have n2 := (A5.out.2.2.1).keep h6.kp
  have n3 := (A5.out.2.2.2.1).keep h6.kp
  have cm := (A5.out.1).tr h6
  have A6 := Lib.hid (And.intro cm (And.intro n1 (And.intro n2 (And.intro n3 (n6)))))
  clear cm h h6 hk n1 n2 n3 n6
  go_wp2_with fail
  refine ((In_any _ _ a3 c3 ([callN 2 0]) A6.out.2.2.2.1 (small_of (by decide +kernel))).mono fun _ _ h => h.body).mono ?_
  rintro e w7 ⟨a7, c7, rfl, n7, -, -, h7⟩
  have n1 := (A6.out.2.1).keep h7.kp
  have n2 := (A6.out.2.2.1).keep h7.kp
  have n3 := (A6.out.2.2.2.1).keep h7.kp
  have n6 := (A6.out.2.2.2.2).keep h7.kp
  have cm := (A6.out.1).tr h7
  have A7 := Lib.hid (And.intro cm (And.intro n1 (And.intro n2 (And.intro n3 (And.intro n6 (n7))))))
  clear cm h7 n1 n2 n3 n6 n7
  go_wp2_with fail
  refine (Leaf_any _ _).mono ?_
  rintro e w8 ⟨a8, c8, rfl, n8, -, -, h8⟩
  have n1 := (A7.out.2.1).keep h8.kp
  have n2 := (A7.out.2.2.1).keep h8.kp
  have n3 := (A7.out.2.2.2.1).keep h8.kp
  have n6 := (A7.out.2.2.2.2.1).keep h8.kp
  have n7 := (A7.out.2.2.2.2.2).keep h8.kp
  have cm := (A7.out.1).tr h8
  have A8 := Lib.hid (And.intro cm (And.intro n1 (And.intro n2 (And.intro n3 (And.intro n6 (And.intro n7 (n8)))))))
  clear cm h8 n1 n2 n3 n6 n7 n8
  go_wp2_with fail
  refine ((Chain_any _ a7 c7 (ofL 11 [[callN 2 0]]) a8 c8 ([bareN 2]) A8.out.2.2.2.2.2.1 (small_of (by decide +kernel)) A8.out.2.2.2.2.2.2 (small_of (by decide +kernel)) (by decide +kernel)).mono fun _ _ h => h.body).mono ?_
  rintro e w9 ⟨a9, c9, rfl, n9, -, -, h9⟩
  have n1 := (A8.out.2.1).keep h9.kp
  have n2 := (A8.out.2.2.1).keep h9.kp
  have n3 := (A8.out.2.2.2.1).keep h9.kp
  have n6 := (A8.out.2.2.2.2.1).keep h9.kp
  have cm := (A8.out.1).tr h9
  have A9 := Lib.hid (And.intro cm (And.intro n1 (And.intro n2 (And.intro n3 (And.intro n6 (n9))))))
  clear cm h9 n1 n2 n3 n6 n9
  go_wp2_with fail
  refine ((First_any _ a6 c6 (ofL 6 [ofL 10 [[callN 1 0]], [callN 0 0], [wordN ⟨#[120]⟩]]) a9 c9 (ofL 6 [ofL 11 [[callN 2 0]], [bareN 2]]) A9.out.2.2.2.2.1 (small_of (by decide +kernel)) A9.out.2.2.2.2.2 (small_of (by decide +kernel)) (by decide +kernel)).mono fun _ _ h => h.body).mono ?_
  rintro e w10 ⟨a10, c10, rfl, n10, -, -, h10⟩
  have n1 := (A9.out.2.1).keep h10.kp
  have n2 := (A9.out.2.2.1).keep h10.kp
  have n3 := (A9.out.2.2.2.1).keep h10.kp
  have cm := (A9.out.1).tr h10
  have A10 := Lib.hid (And.intro cm (And.intro n1 (And.intro n2 (And.intro n3 (n10)))))
  clear cm h10 n1 n2 n3 n10
  go_wp2_with fail
  refine (Word_any _ _).mono ?_
  rintro e w11 ⟨a11, c11, rfl, n11, -, -, h11⟩
  have n1 := (A10.out.2.1).keep h11.kp
  have n2 := (A10.out.2.2.1).keep h11.kp
  have n3 := (A10.out.2.2.2.1).keep h11.kp
  have n10 := (A10.out.2.2.2.2).keep h11.kp
  have cm := (A10.out.1).tr h11
  have A11 := Lib.hid (And.intro cm (And.intro n1 (And.intro n2 (And.intro n3 (And.intro n10 (n11))))))
  clear cm h11 n1 n2 n3 n10 n11
  go_wp2_with fail
  refine ((Chain_any _ a11 c11 ([wordN ⟨#[98]⟩]) a1 c1 ([callN 0 0]) A11.out.2.2.2.2.2 (small_of (by decide +kernel)) A11.out.2.1 (small_of (by decide +kernel)) (by decide +kernel)).mono fun _ _ h => h.body).mono ?_
  rintro e w12 ⟨a12, c12, rfl, n12, -, -, h12⟩
  have n1 := (A11.out.2.1).keep h12.kp
  have n2 := (A11.out.2.2.1).keep h12.kp
  have n3 := (A11.out.2.2.2.1).keep h12.kp
  have n10 := (A11.out.2.2.2.2.1).keep h12.kp
  have cm := (A11.out.1).tr h12
  have A12 := Lib.hid (And.intro cm (And.intro n1 (And.intro n2 (And.intro n3 (And.intro n10 (n12))))))
  clear cm h12 n1 n2 n3 n10 n12
  go_wp2_with fail
  refine (Word_any _ _).mono ?_
  rintro e w13 ⟨a13, c13, rfl, n13, -, -, h13⟩
  have n1 := (A12.out.2.1).keep h13.kp
  have n2 := (A12.out.2.2.1).keep h13.kp
  have n3 := (A12.out.2.2.2.1).keep h13.kp
  have n10 := (A12.out.2.2.2.2.1).keep h13.kp
  have n12 := (A12.out.2.2.2.2.2).keep h13.kp
  have cm := (A12.out.1).tr h13
  have A13 := Lib.hid (And.intro cm (And.intro n1 (And.intro n2 (And.intro n3 (And.intro n10 (And.intro n12 (n13)))))))
  clear cm h13 n1 n2 n3 n10 n12 n13
  go_wp2_with fail
  refine ((In_any _ _ a13 c13 ([wordN ⟨#[99]⟩]) A13.out.2.2.2.2.2.2 (small_of (by decide +kernel))).mono fun _ _ h => h.body).mono ?_
  rintro e w14 ⟨a14, c14, rfl, n14, -, -, h14⟩
  have n1 := (A13.out.2.1).keep h14.kp
  have n2 := (A13.out.2.2.1).keep h14.kp
  have n3 := (A13.out.2.2.2.1).keep h14.kp
  have n10 := (A13.out.2.2.2.2.1).keep h14.kp
  have n12 := (A13.out.2.2.2.2.2.1).keep h14.kp
  have cm := (A13.out.1).tr h14
  have A14 := Lib.hid (And.intro cm (And.intro n1 (And.intro n2 (And.intro n3 (And.intro n10 (And.intro n12 (n14)))))))
  clear cm h14 n1 n2 n3 n10 n12 n14
  go_wp2_with fail
  refine ((Chain_any _ a14 c14 (ofL 8 [[wordN ⟨#[99]⟩]]) a3 c3 ([callN 2 0]) A14.out.2.2.2.2.2.2 (small_of (by decide +kernel)) A14.out.2.2.2.1 (small_of (by decide +kernel)) (by decide +kernel)).mono fun _ _ h => h.body).mono ?_
  rintro e w15 ⟨a15, c15, rfl, n15, -, -, h15⟩
  have n1 := (A14.out.2.1).keep h15.kp
  have n2 := (A14.out.2.2.1).keep h15.kp
  have n3 := (A14.out.2.2.2.1).keep h15.kp
  have n10 := (A14.out.2.2.2.2.1).keep h15.kp
  have n12 := (A14.out.2.2.2.2.2.1).keep h15.kp
  have cm := (A14.out.1).tr h15
  have A15 := Lib.hid (And.intro cm (And.intro n1 (And.intro n2 (And.intro n3 (And.intro n10 (And.intro n12 (n15)))))))
  clear cm h15 n1 n2 n3 n10 n12 n15
  go_wp2_with fail
  have hk := bodies_made (w := w15.alloc (.cells #[.slice a10 (ofL 7 [ofL 6 [ofL 10 [[callN 1 0]], [callN 0 0], [wordN ⟨#[120]⟩]], ofL 6 [ofL 11 [[callN 2 0]], [bareN 2]]]).length c10, .slice a12 (ofL 6 [[wordN ⟨#[98]⟩], [callN 0 0]]).length c12, .slice a15 (ofL 6 [ofL 8 [[wordN ⟨#[99]⟩]], [callN 2 0]]).length c15] 23)) (vs := [(a10, c10), (a12, c12), (a15, c15)]) (KL := [ofL 7 [ofL 6 [ofL 10 [[callN 1 0]], [callN 0 0], [wordN ⟨#[120]⟩]], ofL 6 [ofL 11 [[callN 2 0]], [bareN 2]]], ofL 6 [[wordN ⟨#[98]⟩], [callN 0 0]], ofL 6 [ofL 8 [[wordN ⟨#[99]⟩]], [callN 2 0]]]) rfl (by
    intro i h
    have hi : i = 0 ∨ i = 1 ∨ i = 2 := by simp at h; omega
    rcases hi with rfl | rfl | rfl
    · exact (A15.out.2.2.2.2.1).keep ((Chg.refl [] w15).alloc _).kp
    · exact (A15.out.2.2.2.2.2.1).keep ((Chg.refl [] w15).alloc _).kp
    · exact (A15.out.2.2.2.2.2.2).keep ((Chg.refl [] w15).alloc _).kp
    ) (heap_alloc_same w15 _)
  refine ((Gram_any _ _ 3 3 _ rfl hk (fun b hb => small_of (List.all_eq_true.1 (show ([ofL 7 [ofL 6 [ofL 10 [[callN 1 0]], [callN 0 0], [wordN ⟨#[120]⟩]], ofL 6 [ofL 11 [[callN 2 0]], [bareN 2]]], ofL 6 [[wordN ⟨#[98]⟩], [callN 0 0]], ofL 6 [ofL 8 [[wordN ⟨#[99]⟩]], [callN 2 0]]]).all smallB = true by decide +kernel) b hb)) (by decide +kernel) (by decide)).mono fun _ _ h => NewGramRows.new (g := ex12) h (wf_of (by decide +kernel))).mono ?_
  rintro e w16 ⟨b1, d1, b2, d2, rfl, hg, hc⟩
  have cm := (((A15.out.1).alloc (.cells #[.slice a10 (ofL 7 [ofL 6 [ofL 10 [[callN 1 0]], [callN 0 0], [wordN ⟨#[120]⟩]], ofL 6 [ofL 11 [[callN 2 0]], [bareN 2]]]).length c10, .slice a12 (ofL 6 [[wordN ⟨#[98]⟩], [callN 0 0]]).length c12, .slice a15 (ofL 6 [ofL 8 [[wordN ⟨#[99]⟩]], [callN 2 0]]).length c15] 23)).tr0 hc)
  have hb := cm.heap (heap_alloc_same w (.cells #[.slice none 0 0, .slice none 0 0] 25)) (by simp)
  obtain ⟨x0, x1⟩ := cells2 hb
  have f0 := free_of_cells hb 0
  have f1 := free_of_cells hb 1
  obtain ⟨rl, hrl⟩ : ∃ rl, rl = ex12.rules.length := ⟨_, rfl⟩
  obtain ⟨nl, hnl⟩ : ∃ nl, nl = ex12.nodes.length := ⟨_, rfl⟩
  rw [← hrl, ← hnl]
  have H := Lib.hid (And.intro hg (And.intro cm (And.intro hb (And.intro hrl hnl))))
  clear hg cm hb hk hc hrl hnl
  go_wp2_with fail
  clear x0 x1 f0 f1
  obtain ⟨hg, cm, hb, hrl, hnl⟩ := H.out
  have hc := ((Chg.refl [w.heap.size] w16).setCell (p := ⟨w.heap.size, 0, none⟩) (.inl (by simp)) (.slice b1 rl d1)).setCell (p := ⟨w.heap.size, 1, none⟩) (.inl (by simp)) (.slice b2 nl d2)
  have hz := heap_setCell_same (heap_setCell_same hb 0 (.slice b1 rl d1)) 1 (.slice b2 nl d2)
  simp at hz
  obtain ⟨y0, y1⟩ := cells2 hz
  have hTl := lt_of_block hz
  refine bodyPost_ret (v := .agg #[.slice b1 rl d1, .slice b2 nl d2]) (by simp [results, Tryz.results52, go_sem, y0, y1, hTl]) rfl ?_
  have hT2 : TwoS w16 w.heap.size 25 := ⟨_, _, _, _, _, _, hb⟩
  exact ⟨b1, d1, b2, d2, by rw [hrl, hnl], ⟨hg.e1, hg.le1, hg.cap1, hg.rules.two hT2 hc, hg.e2, hg.le2, hg.cap2, hg.nodes.two hT2 hc, hg.wf⟩, (((Chg.refl [] w).alloc _).tr0 cm).trans hc (fun i hi => .inr (by simp at hi; omega))⟩

set_option maxRecDepth 100000 in
set_option maxHeartbeats 8000000 in
theorem awake12_any (w : World) : Calls Tryz.prog 24 #[] w fun e w' => e = .returned (.bool true) ∧ Chg [] w w' := by
  go_enter Tryz.func24, Tryz.ntmps24
  go_wp2_with fail
  refine (example12_any _).mono ?_
  rintro e w1 ⟨p1, q1, p2, q2, rfl, hg1, hc1⟩
  have cA := (Chg.refl [] w1).alloc (.cells #[.slice p1 ex12.rules.length q1, .slice p2 ex12.nodes.length q2] 25)
  have D := Lib.hid (And.intro (hc1.tr cA) (And.intro (heap_alloc_same w1 (.cells #[.slice p1 ex12.rules.length q1, .slice p2 ex12.nodes.length q2] 25)) (hg1.keep cA.kp)))
  clear hg1 hc1 cA
  obtain ⟨x0, x1⟩ := cells2 D.out.2.1
  go_wp2_with fail
  refine (Graph_any _ p1 _ q1 p2 _ q2 ex12 D.out.2.2 (reach_of (by decide +kernel))).mono ?_
  rw [ex12_says.1]
  rintro e w2 ⟨ga, gc, VS, rfl, hVS, hO, h2⟩
  obtain ⟨v1, v2, v3, rfl⟩ : ∃ v1 v2 v3, VS = [v1, v2, v3] := by
    match VS, hVS with
    | [v1, v2, v3], _ => exact ⟨v1, v2, v3, rfl⟩
    | [], h => simp at h
    | [_], h => simp at h
    | [_, _], h => simp at h
    | _ :: _ :: _ :: _ :: _, h => simp at h
  simp only [List.map_cons, List.map_nil, List.cons.injEq, and_true] at hVS
  obtain ⟨e1, e2, e3⟩ := hVS
  obtain ⟨gb, rfl, hgb, g0⟩ := hO.at (i := 0) (by simp)
  obtain ⟨gb', eg, -, g1⟩ := hO.at (i := 1) (by simp)
  cases eg
  obtain ⟨gb', eg, -, g2⟩ := hO.at (i := 2) (by simp)
  cases eg
  have i0 := hO.ints (i := 0) (by simp)
  have i2 := hO.ints (i := 2) (by simp)
  simp only [List.getElem_cons_zero, List.getElem_cons_succ, Is.cell, e1, e2, e3] at g0 g1 g2 i0 i2
  have E := Lib.hid (And.intro i0 (And.intro i2 (And.intro g0 (And.intro g1 g2))))
  have D0 := Lib.hid (And.intro (D.out.1.tr h2) (And.intro (h2.heap D.out.2.1 (by simp)) (And.intro (D.out.2.2.keep h2.kp) (Chg.refl [] w2))))
  clear h2 hO hgb i0 i2 g0 g1 g2 x0 x1 e1 e2 e3
  have g0 := D0.out.2.2.2.cell E.out.2.2.1 (by simp)
  have g1 := D0.out.2.2.2.cell E.out.2.2.2.1 (by simp)
  have g2 := D0.out.2.2.2.cell E.out.2.2.2.2 (by simp)
  obtain ⟨x0, x1⟩ := cells2 D0.out.2.1
  go_wp2_with fail
  have hlit := ints_lit (zs := [0, 1, 2]) (heap_alloc_same w2 (.cells #[.int .i64 0, .int .i64 1, .int .i64 2] 3))
  have hp := same12_any (w2.alloc (.cells #[.int .i64 0, .int .i64 1, .int .i64 2] 3)) v1.1 _ 3 v1.2.1 3 3 [0, 1, 2] [0, 1, 2] rfl rfl (by decide) ((E.out.1.keep D0.out.2.2.2.kp).keep ((Chg.refl [] w2).alloc (.cells #[.int .i64 0, .int .i64 1, .int .i64 2] 3)).kp) hlit
  rw [decide_eq_true rfl] at hp
  refine hp.mono ?_
  rintro e ya ⟨rfl, h⟩
  have hh : Chg [] w2 ya := ((Chg.refl [] w2).alloc _).tr0 h
  have D1 := Lib.hid (And.intro (D0.out.1.tr hh) (And.intro (hh.heap D0.out.2.1 (by simp)) (And.intro (D0.out.2.2.1.keep hh.kp) (D0.out.2.2.2.tr hh))))
  clear h hh hp hlit x0 x1 g0 g1 g2
  have g0 := D1.out.2.2.2.cell E.out.2.2.1 (by simp)
  have g1 := D1.out.2.2.2.cell E.out.2.2.2.1 (by simp)
  have g2 := D1.out.2.2.2.cell E.out.2.2.2.2 (by simp)
  obtain ⟨x0, x1⟩ := cells2 D1.out.2.1
  go_wp2_with fail
  have hlit := ints_lit (zs := [2]) (heap_alloc_same ya (.cells #[.int .i64 2] 3))
  have hp := same12_any (ya.alloc (.cells #[.int .i64 2] 3)) v3.1 _ 1 v3.2.1 1 1 [2] [2] rfl rfl (by decide) ((E.out.2.1.keep D1.out.2.2.2.kp).keep ((Chg.refl [] ya).alloc (.cells #[.int .i64 2] 3)).kp) hlit
  rw [decide_eq_true rfl] at hp
  refine hp.mono ?_
  rintro e yb ⟨rfl, h⟩
  have hh : Chg [] ya yb := ((Chg.refl [] ya).alloc _).tr0 h
  have D2 := Lib.hid (And.intro (D1.out.1.tr hh) (And.intro (hh.heap D1.out.2.1 (by simp)) (And.intro (D1.out.2.2.1.keep hh.kp) (D1.out.2.2.2.tr hh))))
  clear h hh hp hlit x0 x1 g0 g1 g2
  have g0 := D2.out.2.2.2.cell E.out.2.2.1 (by simp)
  have g1 := D2.out.2.2.2.cell E.out.2.2.2.1 (by simp)
  have g2 := D2.out.2.2.2.cell E.out.2.2.2.2 (by simp)
  obtain ⟨x0, x1⟩ := cells2 D2.out.2.1
  go_wp2_with fail
  have hp := To_any yb p1 _ q1 p2 _ q2 ex12 D2.out.2.2.1 (reach_of (by decide +kernel)) 0
  rw [ex12_says.2.1] at hp
  refine hp.mono ?_
  rintro e yc ⟨la, lc, rfl, hf, h⟩
  have hints := (ownInts_read hf.own).1
  have D3 := Lib.hid (And.intro (D2.out.1.tr h) (And.intro (h.heap D2.out.2.1 (by simp)) (And.intro (D2.out.2.2.1.keep h.kp) (D2.out.2.2.2.tr h))))
  clear h hf hp x0 x1 g0 g1 g2
  go_wp2_with fail
  have hlit := ints_lit (zs := [0, 1, 2]) (heap_alloc_same yc (.cells #[.int .i64 0, .int .i64 1, .int .i64 2] 3))
  have hp := same12_any (yc.alloc (.cells #[.int .i64 0, .int .i64 1, .int .i64 2] 3)) la _ 3 lc 3 3 [0, 1, 2] [0, 1, 2] rfl rfl (by decide) ((hints).keep ((Chg.refl [] yc).alloc (.cells #[.int .i64 0, .int .i64 1, .int .i64 2] 3)).kp) hlit
  rw [decide_eq_true rfl] at hp
  refine hp.mono ?_
  rintro e ycs ⟨rfl, h⟩
  have hh : Chg [] yc ycs := ((Chg.refl [] yc).alloc _).tr0 h
  have D4 := Lib.hid (And.intro (D3.out.1.tr hh) (And.intro (hh.heap D3.out.2.1 (by simp)) (And.intro (D3.out.2.2.1.keep hh.kp) (D3.out.2.2.2.tr hh))))
  clear h hh hp hlit hints
  obtain ⟨x0, x1⟩ := cells2 D4.out.2.1
  go_wp2_with fail
  have hp := Goes_any ycs p1 _ q1 p2 _ q2 ex12 D4.out.2.2.1 (reach_of (by decide +kernel)) 0
  rw [ex12_says.2.2.1] at hp
  refine hp.mono ?_
  rintro e yd ⟨rfl, h⟩
  have D5 := Lib.hid (And.intro (D4.out.1.tr h) (And.intro (h.heap D4.out.2.1 (by simp)) (And.intro (D4.out.2.2.1.keep h.kp) (D4.out.2.2.2.tr h))))
  clear h hp x0 x1
  obtain ⟨x0, x1⟩ := cells2 D5.out.2.1
  go_wp2_with fail
  have hp := Goes_any yd p1 _ q1 p2 _ q2 ex12 D5.out.2.2.1 (reach_of (by decide +kernel)) 1
  rw [ex12_says.2.2.2.1] at hp
  refine hp.mono ?_
  rintro e ye ⟨rfl, h⟩
  have D6 := Lib.hid (And.intro (D5.out.1.tr h) (And.intro (h.heap D5.out.2.1 (by simp)) (And.intro (D5.out.2.2.1.keep h.kp) (D5.out.2.2.2.tr h))))
  clear h hp x0 x1
  obtain ⟨x0, x1⟩ := cells2 D6.out.2.1
  go_wp2_with fail
  have hp := Goes_any ye p1 _ q1 p2 _ q2 ex12 D6.out.2.2.1 (reach_of (by decide +kernel)) 2
  rw [ex12_says.2.2.2.2.1] at hp
  refine hp.mono ?_
  rintro e yf ⟨rfl, h⟩
  have D7 := Lib.hid (And.intro (D6.out.1.tr h) (And.intro (h.heap D6.out.2.1 (by simp)) (And.intro (D6.out.2.2.1.keep h.kp) (D6.out.2.2.2.tr h))))
  clear h hp x0 x1
  have g0 := D7.out.2.2.2.cell E.out.2.2.1 (by simp)
  have g1 := D7.out.2.2.2.cell E.out.2.2.2.1 (by simp)
  have g2 := D7.out.2.2.2.cell E.out.2.2.2.2 (by simp)
  obtain ⟨x0, x1⟩ := cells2 D7.out.2.1
  go_wp2_with fail
  have hp := Way_any yf p1 _ q1 p2 _ q2 ex12 D7.out.2.2.1 (reach_of (by decide +kernel)) 0 2
  rw [ex12_says.2.2.2.2.2] at hp
  refine hp.mono ?_
  rintro e yg ⟨la, lc, rfl, hf, h⟩
  have hints := (ownInts_read hf.own).1
  have D8 := Lib.hid (And.intro (D7.out.1.tr h) (And.intro (h.heap D7.out.2.1 (by simp)) (And.intro (D7.out.2.2.1.keep h.kp) (D7.out.2.2.2.tr h))))
  clear h hf hp x0 x1 g0 g1 g2
  go_wp2_with fail
  have hlit := ints_lit (zs := [0, 2]) (heap_alloc_same yg (.cells #[.int .i64 0, .int .i64 2] 3))
  have hp := same12_any (yg.alloc (.cells #[.int .i64 0, .int .i64 2] 3)) la _ 2 lc 2 2 [0, 2] [0, 2] rfl rfl (by decide) ((hints).keep ((Chg.refl [] yg).alloc (.cells #[.int .i64 0, .int .i64 2] 3)).kp) hlit
  rw [decide_eq_true rfl] at hp
  refine hp.mono ?_
  rintro e ygs ⟨rfl, h⟩
  have hh : Chg [] yg ygs := ((Chg.refl [] yg).alloc _).tr0 h
  have D9 := Lib.hid (And.intro (D8.out.1.tr hh) (And.intro (hh.heap D8.out.2.1 (by simp)) (And.intro (D8.out.2.2.1.keep hh.kp) (D8.out.2.2.2.tr hh))))
  clear h hh hp hlit hints
  go_wp2_with fail
  go_ret
  exact ⟨rfl, D9.out.1⟩
end Go.Proofs.YtibgfgfmljhimaaGreat

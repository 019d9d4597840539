/-
 Layer 14: the chapter's example, the names of the sorts, and what is said of them.
 Conditions: the names stand where they were laid.
-/
import Derived.Test.YtlklmpjakeedcaaGreatDoorSEnSo5
import Derived.Test.YtlklmpjakeedcaaGreatDoorSEnLf4
import Derived.Test.YtlklmpjakeedcaaGreatDoorSEnWeR
import Derived.Test.YtlklmpjakeedcaaGreatDoorRows
import Derived.ProofKit
import Derived.LaidMore
import Derived.OpenShut
import Derived.Stop.Joined
import Derived.Test.YtlklmpjakeedcaaGreatDoorSEnSo1
import Derived.Test.YtlklmpjakeedcaaGreatDoorSEnCpY
set_option linter.unusedVariables false
set_option linter.unusedSimpArgs false
set_option linter.unnecessarySimpa false
namespace Go.Proofs.YtlklmpjakeedcaaGreatDoor
open Go.RowKit Go.MapKept Go.Shelf

def nameOf (s : Int) : ByteArray := if s = 0 then ⟨#[110, 111, 110, 101]⟩ else if s = 1 then ⟨#[100, 105, 114, 101, 99, 116]⟩ else if s = 2 then ⟨#[105, 110, 100, 105, 114, 101, 99, 116]⟩ else if s = 3 then ⟨#[98, 111, 116, 104]⟩ else ⟨#[63]⟩
/-- The names stand where they were laid. -/
def WordsAt (w : World) : Prop := ∀ k : Nat, k < 4 → w.cell? ⟨0, k, none⟩ = some (.string (nameOf k))
theorem WordsAt.chg {w w' : World} (h : WordsAt w) (hc : Chg [] w w') : WordsAt w' := fun k hk => hc.cell (h k hk) (by simp)

set_option maxRecDepth 100000 in
set_option maxHeartbeats 2000000 in
theorem String_any (w : World) (hw : WordsAt w) (s : Int) (hs : I64 s) :
  Calls Tryz.prog 10 #[.int .i64 s] w fun e w' => e = .returned (.string (nameOf s)) ∧ Chg [] w w' := by
 by_cases h0 : s < 0
 ·have e : nameOf s = ⟨#[63]⟩ := by unfold nameOf; rw [if_neg (by omega), if_neg (by omega), if_neg (by omega), if_neg (by omega)]
  rw [e]
  go_enter Tryz.func10, Tryz.ntmps10
  go_wp2_with fail
  go_ret
  exact ⟨rfl, Chg.refl _ _⟩
 ·by_cases h3 : 3 < s
  ·have e : nameOf s = ⟨#[63]⟩ := by unfold nameOf; rw [if_neg (by omega), if_neg (by omega), if_neg (by omega), if_neg (by omega)]
   rw [e]
   go_enter Tryz.func10, Tryz.ntmps10
   go_wp2_with fail
   go_ret
   exact ⟨rfl, Chg.refl _ _⟩
  ·obtain ⟨k, rfl⟩ := Int.eq_ofNat_of_zero_le (a := s) (by omega)
   have hk : k < 4 := by omega
   have hc := hw k hk
   have hb := World.block_lt_of_cell? _ _ hc
   simp only at hb
   obtain ⟨v, hv⟩ : ∃ v, v = nameOf k := ⟨_, rfl⟩
   rw [← hv] at hc ⊢
   clear hv hw
   go_enter Tryz.func10, Tryz.ntmps10
   go_wp2_with fail
   go_ret
   exact ⟨rfl, Chg.refl _ _⟩

def ex14 : Gr := gramL [ofL 7 [ofL 6 [[callN 0 0], [wordN ⟨#[97]⟩]], [callN 1 0]], [callN 2 0], ofL 7 [ofL 6 [[callN 1 0], [wordN ⟨#[99]⟩]], [callN 3 0]], ofL 6 [[wordN ⟨#[100]⟩], [callN 3 0]]]
theorem ex14_says : allI (graphG ex14) = [1, 2, 2, 0] ∧ withOf (graphG ex14) 1 = [1, 2] ∧ orderI (graphG ex14) = [3, 1, 2, 0] ∧ freeI (graphG ex14) = false := by decide +kernel

set_option maxRecDepth 100000 in
set_option maxHeartbeats 8000000 in
theorem example14_any (w : World) : Calls Tryz.prog 36 #[] w (NewGram w ex14) := by
 go_enter Tryz.func36, Tryz.ntmps36
 go_wp2_with fail
 refine (CallB_any _ _ _).mono ?_
 rintro e w1 ⟨a1, c1, rfl, n1, -, -, h1⟩
 have cm := h1
 have A1 := Lib.hid (And.intro cm (n1))
 clear cm h1 n1
 go_wp2_with fail
 refine (Word_any _ _).mono ?_
 rintro e w2 ⟨a2, c2, rfl, n2, -, -, h2⟩
 have n1 := (A1.out.2).keep h2.kp
 have cm := (A1.out.1).tr h2
 have A2 := Lib.hid (And.intro cm (And.intro n1 (n2)))
 clear cm h2 n1 n2
 go_wp2_with fail
 refine ((Chain_any _ a1 c1 ([callN 0 0]) a2 c2 ([wordN ⟨#[97]⟩]) A2.out.2.1 (small_of (by decide +kernel)) A2.out.2.2 (small_of (by decide +kernel)) (by decide +kernel)).mono fun _ _ h => h.body).mono ?_
 rintro e w3 ⟨a3, c3, rfl, n3, -, -, h3⟩
 have cm := (A2.out.1).tr h3
 have A3 := Lib.hid (And.intro cm (n3))
 clear cm h3 n3
 go_wp2_with fail
 refine (CallB_any _ _ _).mono ?_
 rintro e w4 ⟨a4, c4, rfl, n4, -, -, h4⟩
 have n3 := (A3.out.2).keep h4.kp
 have cm := (A3.out.1).tr h4
 have A4 := Lib.hid (And.intro cm (And.intro n3 (n4)))
 clear cm h4 n3 n4
 go_wp2_with fail
 refine ((First_any _ a3 c3 (ofL 6 [[callN 0 0], [wordN ⟨#[97]⟩]]) a4 c4 ([callN 1 0]) A4.out.2.1 (small_of (by decide +kernel)) A4.out.2.2 (small_of (by decide +kernel)) (by decide +kernel)).mono fun _ _ h => h.body).mono ?_
 rintro e w5 ⟨a5, c5, rfl, n5, -, -, h5⟩
 have cm := (A4.out.1).tr h5
 have A5 := Lib.hid (And.intro cm (n5))
 clear cm h5 n5
 go_wp2_with fail
 refine (CallB_any _ _ _).mono ?_
 rintro e w6 ⟨a6, c6, rfl, n6, -, -, h6⟩
 have n5 := (A5.out.2).keep h6.kp
 have cm := (A5.out.1).tr h6
 have A6 := Lib.hid (And.intro cm (And.intro n5 (n6)))
 clear cm h6 n5 n6
 go_wp2_with fail
 refine (CallB_any _ _ _).mono ?_
 rintro e w7 ⟨a7, c7, rfl, n7, -, -, h7⟩
 have n5 := (A6.out.2.1).keep h7.kp
 have n6 := (A6.out.2.2).keep h7.kp
 have cm := (A6.out.1).tr h7
 have A7 := Lib.hid (And.intro cm (And.intro n5 (And.intro n6 (n7))))
 clear cm h7 n5 n6 n7
 go_wp2_with fail
 refine (Word_any _ _).mono ?_
 rintro e w8 ⟨a8, c8, rfl, n8, -, -, h8⟩
 have n5 := (A7.out.2.1).keep h8.kp
 have n6 := (A7.out.2.2.1).keep h8.kp
 have n7 := (A7.out.2.2.2).keep h8.kp
 have cm := (A7.out.1).tr h8
 have A8 := Lib.hid (And.intro cm (And.intro n5 (And.intro n6 (And.intro n7 (n8)))))
 clear cm h8 n5 n6 n7 n8
 go_wp2_with fail
 refine ((Chain_any _ a7 c7 ([callN 1 0]) a8 c8 ([wordN ⟨#[99]⟩]) A8.out.2.2.2.1 (small_of (by decide +kernel)) A8.out.2.2.2.2 (small_of (by decide +kernel)) (by decide +kernel)).mono fun _ _ h => h.body).mono ?_
 rintro e w9 ⟨a9, c9, rfl, n9, -, -, h9⟩
 have n5 := (A8.out.2.1).keep h9.kp
 have n6 := (A8.out.2.2.1).keep h9.kp
 have cm := (A8.out.1).tr h9
 have A9 := Lib.hid (And.intro cm (And.intro n5 (And.intro n6 (n9))))
 clear cm h9 n5 n6 n9
 go_wp2_with fail
 refine (CallB_any _ _ _).mono ?_
 rintro e w10 ⟨a10, c10, rfl, n10, -, -, h10⟩
 have n5 := (A9.out.2.1).keep h10.kp
 have n6 := (A9.out.2.2.1).keep h10.kp
 have n9 := (A9.out.2.2.2).keep h10.kp
 have cm := (A9.out.1).tr h10
 have A10 := Lib.hid (And.intro cm (And.intro n5 (And.intro n6 (And.intro n9 (n10)))))
 clear cm h10 n5 n6 n9 n10
 go_wp2_with fail
 refine ((First_any _ a9 c9 (ofL 6 [[callN 1 0], [wordN ⟨#[99]⟩]]) a10 c10 ([callN 3 0]) A10.out.2.2.2.1 (small_of (by decide +kernel)) A10.out.2.2.2.2 (small_of (by decide +kernel)) (by decide +kernel)).mono fun _ _ h => h.body).mono ?_
 rintro e w11 ⟨a11, c11, rfl, n11, -, -, h11⟩
 have n5 := (A10.out.2.1).keep h11.kp
 have n6 := (A10.out.2.2.1).keep h11.kp
 have cm := (A10.out.1).tr h11
 have A11 := Lib.hid (And.intro cm (And.intro n5 (And.intro n6 (n11))))
 clear cm h11 n5 n6 n11
 go_wp2_with fail
 refine (Word_any _ _).mono ?_
 rintro e w12 ⟨a12, c12, rfl, n12, -, -, h12⟩
 have n5 := (A11.out.2.1).keep h12.kp
 have n6 := (A11.out.2.2.1).keep h12.kp
 have n11 := (A11.out.2.2.2).keep h12.kp
 have cm := (A11.out.1).tr h12
 have A12 := Lib.hid (And.intro cm (And.intro n5 (And.intro n6 (And.intro n11 (n12)))))
 clear cm h12 n5 n6 n11 n12
 go_wp2_with fail
 refine (CallB_any _ _ _).mono ?_
 rintro e w13 ⟨a13, c13, rfl, n13, -, -, h13⟩
 have n5 := (A12.out.2.1).keep h13.kp
 have n6 := (A12.out.2.2.1).keep h13.kp
 have n11 := (A12.out.2.2.2.1).keep h13.kp
 have n12 := (A12.out.2.2.2.2).keep h13.kp
 have cm := (A12.out.1).tr h13
 have A13 := Lib.hid (And.intro cm (And.intro n5 (And.intro n6 (And.intro n11 (And.intro n12 (n13))))))
 clear cm h13 n5 n6 n11 n12 n13
 go_wp2_with fail
 refine ((Chain_any _ a12 c12 ([wordN ⟨#[100]⟩]) a13 c13 ([callN 3 0]) A13.out.2.2.2.2.1 (small_of (by decide +kernel)) A13.out.2.2.2.2.2 (small_of (by decide +kernel)) (by decide +kernel)).mono fun _ _ h => h.body).mono ?_
 rintro e w14 ⟨a14, c14, rfl, n14, -, -, h14⟩
 have n5 := (A13.out.2.1).keep h14.kp
 have n6 := (A13.out.2.2.1).keep h14.kp
 have n11 := (A13.out.2.2.2.1).keep h14.kp
 have cm := (A13.out.1).tr h14
 have A14 := Lib.hid (And.intro cm (And.intro n5 (And.intro n6 (And.intro n11 (n14)))))
 clear cm h14 n5 n6 n11 n14
 go_wp2_with fail
 have hk := bodies_made (w := w14.alloc (.cells #[.slice a5 (ofL 7 [ofL 6 [[callN 0 0], [wordN ⟨#[97]⟩]], [callN 1 0]]).length c5, .slice a6 ([callN 2 0]).length c6, .slice a11 (ofL 7 [ofL 6 [[callN 1 0], [wordN ⟨#[99]⟩]], [callN 3 0]]).length c11, .slice a14 (ofL 6 [[wordN ⟨#[100]⟩], [callN 3 0]]).length c14] 29)) (vs := [(a5, c5), (a6, c6), (a11, c11), (a14, c14)]) (KL := [ofL 7 [ofL 6 [[callN 0 0], [wordN ⟨#[97]⟩]], [callN 1 0]], [callN 2 0], ofL 7 [ofL 6 [[callN 1 0], [wordN ⟨#[99]⟩]], [callN 3 0]], ofL 6 [[wordN ⟨#[100]⟩], [callN 3 0]]]) rfl (by
  intro i h
  have hi : i = 0 ∨ i = 1 ∨ i = 2 ∨ i = 3 := by simp at h; omega
  rcases hi with rfl | rfl | rfl | rfl
  ·exact (A14.out.2.1).keep ((Chg.refl [] w14).alloc _).kp
  ·exact (A14.out.2.2.1).keep ((Chg.refl [] w14).alloc _).kp
  ·exact (A14.out.2.2.2.1).keep ((Chg.refl [] w14).alloc _).kp
  ·exact (A14.out.2.2.2.2).keep ((Chg.refl [] w14).alloc _).kp
  ) (heap_alloc_same w14 _)
 refine ((Gram_any _ _ 4 4 _ rfl hk (fun b hb => small_of (List.all_eq_true.1 (show ([ofL 7 [ofL 6 [[callN 0 0], [wordN ⟨#[97]⟩]], [callN 1 0]], [callN 2 0], ofL 7 [ofL 6 [[callN 1 0], [wordN ⟨#[99]⟩]], [callN 3 0]], ofL 6 [[wordN ⟨#[100]⟩], [callN 3 0]]]).all smallB = true by decide +kernel) b hb)) (by decide +kernel) (by decide)).mono fun _ _ h => NewGramRows.new (g := ex14) h (wf_of (by decide +kernel))).mono ?_
 rintro e w15 ⟨b1, d1, b2, d2, rfl, hg, hc⟩
 have cm := (((A14.out.1).alloc (.cells #[.slice a5 (ofL 7 [ofL 6 [[callN 0 0], [wordN ⟨#[97]⟩]], [callN 1 0]]).length c5, .slice a6 ([callN 2 0]).length c6, .slice a11 (ofL 7 [ofL 6 [[callN 1 0], [wordN ⟨#[99]⟩]], [callN 3 0]]).length c11, .slice a14 (ofL 6 [[wordN ⟨#[100]⟩], [callN 3 0]]).length c14] 29)).tr0 hc)
 have hb := cm.heap (heap_alloc_same w (.cells #[.slice none 0 0, .slice none 0 0] 31)) (by simp)
 obtain ⟨x0, x1⟩ := cells2 hb
 have f0 := free_of_cells hb 0
 have f1 := free_of_cells hb 1
 obtain ⟨rl, hrl⟩ : ∃ rl, rl = ex14.rules.length := ⟨_, rfl⟩
 obtain ⟨nl, hnl⟩ : ∃ nl, nl = ex14.nodes.length := ⟨_, rfl⟩
 rw [← hrl, ← hnl]
 have H := Lib.hid (And.intro hg (And.intro cm (And.intro hb (And.intro hrl hnl))))
 clear hg cm hb hk hc hrl hnl
 go_wp2_with fail
 clear x0 x1 f0 f1
 obtain ⟨hg, cm, hb, hrl, hnl⟩ := H.out
 have hc := ((Chg.refl [w.heap.size] w15).setCell (p := ⟨w.heap.size, 0, none⟩) (.inl (by simp)) (.slice b1 rl d1)).setCell (p := ⟨w.heap.size, 1, none⟩) (.inl (by simp)) (.slice b2 nl d2)
 have hz := heap_setCell_same (heap_setCell_same hb 0 (.slice b1 rl d1)) 1 (.slice b2 nl d2)
 simp at hz
 obtain ⟨y0, y1⟩ := cells2 hz
 have hTl := lt_of_block hz
 refine bodyPost_ret (v := .agg #[.slice b1 rl d1, .slice b2 nl d2]) (by simp [results, Tryz.results36, go_sem, y0, y1, hTl]) rfl ?_
 have hT2 : TwoS w15 w.heap.size 31 := ⟨_, _, _, _, _, _, hb⟩
 exact ⟨b1, d1, b2, d2, by rw [hrl, hnl], ⟨hg.e1, hg.le1, hg.cap1, hg.rules.two hT2 hc, hg.e2, hg.le2, hg.cap2, hg.nodes.two hT2 hc, hg.wf⟩, (((Chg.refl [] w).alloc _).tr0 cm).trans hc (fun i hi => .inr (by simp at hi; omega))⟩

set_option maxRecDepth 100000 in
set_option maxHeartbeats 8000000 in
theorem awake14_any (w : World) (hw : WordsAt w) : Calls Tryz.prog 12 #[] w fun e w' => e = .returned (.bool true) ∧ Chg [] w w' := by
 have HWD := Lib.hid hw
 clear hw
 go_enter Tryz.func12, Tryz.ntmps12
 go_wp2_with fail
 refine (example14_any _).mono ?_
 rintro e w1 ⟨p1, q1, p2, q2, rfl, hg1, hc1⟩
 obtain ⟨rl, hrl⟩ : ∃ rl, rl = ex14.rules.length := ⟨_, rfl⟩
 obtain ⟨nl, hnl⟩ : ∃ nl, nl = ex14.nodes.length := ⟨_, rfl⟩
 rw [← hrl, ← hnl] at hg1 ⊢
 clear hrl hnl
 go_wp2_with fail
 obtain ⟨W, hW⟩ : ∃ z, z = w1.alloc (.cells #[.slice p1 rl q1, .slice p2 nl q2] 31) := ⟨_, rfl⟩
 have cA : Chg [] w1 W := by rw [hW]; exact (Chg.refl [] w1).alloc _
 have hb : W.heap[w1.heap.size]? = some (.cells #[.slice p1 rl q1, .slice p2 nl q2] 31 (0, 0)) := by rw [hW]; exact heap_alloc_same _ _
 rw [← hW]
 have D := Lib.hid (And.intro (hc1.tr cA) (And.intro hb (hg1.keep cA.kp)))
 clear hg1 hc1 cA hW hb
 obtain ⟨e1, e2, e3, e4⟩ := ex14_says
 have hre : Reach ex14 := reach_of (by decide +kernel)
 have HE := Lib.hid (And.intro e2 (And.intro e3 (And.intro e4 hre)))
 have hp := All_any W p1 rl q1 p2 nl q2 ex14 D.out.2.2 hre
 rw [e1] at hp
 clear e1 e2 e3 e4 hre
 refine hp.mono ?_
 clear hp
 rintro e w2 ⟨a, c, rfl, hr, -, hc2⟩
 have hi := nums_ints hr
 obtain ⟨ab, ao, rfl, -⟩ := hi 0 (by decide)
 have cell : ∀ k (h : k < [(1 : Int), 2, 2, 0].length), w2.cell? ⟨ab, ao + k, none⟩ = some (.int .i64 ([(1 : Int), 2, 2, 0][k])) := fun k h => by
  obtain ⟨b, o, e, hc⟩ := hi k h
  cases e
  exact hc
 have g0 := cell 0 (by decide)
 have g1 := cell 1 (by decide)
 have g2 := cell 2 (by decide)
 have g3 := cell 3 (by decide)
 simp only [List.getElem_cons_zero, List.getElem_cons_succ, Nat.add_zero] at g0 g1 g2 g3
 obtain ⟨x0, x1⟩ := cells2 (hc2.heap D.out.2.1 (by simp))
 have hl := lt_of_block (hc2.heap D.out.2.1 (by simp))
 have H2 := Lib.hid hc2
 clear hc2 hi hr cell
 simp only [List.length_cons, List.length_nil, Nat.reduceAdd]
 go_wp2_with fail
 have hp := With_any w2 p1 rl q1 p2 nl q2 ex14 (D.out.2.2.keep H2.out.kp) HE.out.2.2.2 1
 rw [HE.out.1] at hp
 refine hp.mono ?_
 clear hp x0 x1 hl
 rintro e w3 ⟨la, lc, rfl, hf, -, hcn⟩
 have hints := nums_ints hf
 have H3 := Lib.hid (H2.out.tr hcn)
 clear hf hcn
 simp only [List.length_cons, List.length_nil, Nat.reduceAdd]
 go_wp2_with fail
 have hlit := ints_lit (zs := [1, 2]) (heap_alloc_same w3 (.cells #[.int .i64 1, .int .i64 2] 3))
 have hp := sameInts_any (w3.alloc (.cells #[.int .i64 1, .int .i64 2] 3)) la _ 2 lc 2 2 [1, 2] [1, 2] rfl rfl (by decide) (hints.keep ((Chg.refl [] w3).alloc (.cells #[.int .i64 1, .int .i64 2] 3)).kp) hlit
 rw [decide_eq_true rfl] at hp
 have hcB := (Chg.refl [] w3).alloc (.cells #[.int .i64 1, .int .i64 2] 3)
 have HB3 := Lib.hid (H3.out.tr hcB)
 clear hcB hints hlit
 refine hp.mono ?_
 clear hp
 rintro e w3s ⟨rfl, hcn⟩
 have H3s := Lib.hid (HB3.out.tr hcn)
 clear hcn
 obtain ⟨x0, x1⟩ := cells2 (H3s.out.heap D.out.2.1 (by simp))
 have hl := lt_of_block (H3s.out.heap D.out.2.1 (by simp))
 go_wp2_with fail
 have hp := Order_any w3s p1 rl q1 p2 nl q2 ex14 (D.out.2.2.keep H3s.out.kp) HE.out.2.2.2
 rw [HE.out.2.1] at hp
 refine hp.mono ?_
 clear hp x0 x1 hl
 rintro e w4 ⟨la, lc, rfl, hf, -, hcn⟩
 have hints := nums_ints hf
 have H4 := Lib.hid (H3s.out.tr hcn)
 clear hf hcn
 simp only [List.length_cons, List.length_nil, Nat.reduceAdd]
 go_wp2_with fail
 have hlit := ints_lit (zs := [3, 1, 2, 0]) (heap_alloc_same w4 (.cells #[.int .i64 3, .int .i64 1, .int .i64 2, .int .i64 0] 3))
 have hp := sameInts_any (w4.alloc (.cells #[.int .i64 3, .int .i64 1, .int .i64 2, .int .i64 0] 3)) la _ 4 lc 4 4 [3, 1, 2, 0] [3, 1, 2, 0] rfl rfl (by decide) (hints.keep ((Chg.refl [] w4).alloc (.cells #[.int .i64 3, .int .i64 1, .int .i64 2, .int .i64 0] 3)).kp) hlit
 rw [decide_eq_true rfl] at hp
 have hcB := (Chg.refl [] w4).alloc (.cells #[.int .i64 3, .int .i64 1, .int .i64 2, .int .i64 0] 3)
 have HB4 := Lib.hid (H4.out.tr hcB)
 clear hcB hints hlit
 refine hp.mono ?_
 clear hp
 rintro e w4s ⟨rfl, hcn⟩
 have H4s := Lib.hid (HB4.out.tr hcn)
 clear hcn
 obtain ⟨x0, x1⟩ := cells2 (H4s.out.heap D.out.2.1 (by simp))
 have hl := lt_of_block (H4s.out.heap D.out.2.1 (by simp))
 go_wp2_with fail
 have hp := Free_any w4s p1 rl q1 p2 nl q2 ex14 (D.out.2.2.keep H4s.out.kp) HE.out.2.2.2
 rw [HE.out.2.2.1] at hp
 refine hp.mono ?_
 clear hp x0 x1 hl
 rintro e w5 ⟨rfl, hcn⟩
 have H5 := Lib.hid (H4s.out.tr hcn)
 clear hcn
 go_wp2_with fail
 have hp := String_any w5 ((HWD.out.chg D.out.1).chg H5.out) 1 (by unfold I64; omega)
 rw [show nameOf 1 = ⟨#[100, 105, 114, 101, 99, 116]⟩ from rfl] at hp
 refine hp.mono ?_
 clear hp
 rintro e w6 ⟨rfl, hcn⟩
 have H6 := Lib.hid ((D.out.1.tr H5.out).tr hcn)
 clear hcn
 go_wp2_with fail
 go_ret
 exact ⟨rfl, H6.out⟩
end Go.Proofs.YtlklmpjakeedcaaGreatDoor
set_option linter.unusedVariables false
set_option linter.unusedSimpArgs false
set_option linter.unnecessarySimpa false
namespace Go.Proofs.YtlklmpjakeedcaaGreatDoor
open Go.ChangeShapes Go.WideShapes Go.ChangeAt Go.WideMaps Go.WideElems Go.RowKit

abbrev laidW : List (String × DataW Unit) := [("seedling/sort.words", Rows.laid_seedling_sort_words)]
theorem gWords : Tryz.prog.globalNamed "seedling/sort.words" = some 0 := by kernel_rfl
theorem tWords : (Tryz.prog.globals[0]?).map (·.type) = some 58 := by kernel_rfl
theorem door_met (os : Os) (args : Array Value) : laidMetH Tryz.prog laidW ((World.doorLaid Tryz.prog 400 os).forCall (fun _ _ => 0) ⟨#[], args, []⟩).memory :=
 laidMetH_of_parts3 (fuel := 8) (laidMet_of_run' 8 (by kernel_rfl) (by kernel_rfl)) (by kernel_rfl) (by kernel_rfl)
theorem str_of {s : ByteArray} {l : List UInt8} (h : s.data.toList = l) : s = ⟨l.toArray⟩ := by
 cases s with
 | mk d => simp only at h; subst h; simp
theorem of_laid {W : World} (h : laidMetH Tryz.prog laidW W) : WordsAt W := by
 rw [MakeChecks.laidMetH_plain _ _ _ (by kernel_rfl)] at h
 obtain ⟨ps, ⟨g0, t0, cs0, f0, p0, q0, hg0, ht0, hv0, hd0, _, _⟩, _, _⟩ := h
 obtain rfl := Option.some.inj (gWords.symm.trans hg0)
 obtain rfl := Option.some.inj (tWords.symm.trans ht0)
 obtain ⟨xs, m1, rfl, hx1, hlen, hn4, hel⟩ := DataW.trod_array Tryz.underlying58 hd0
 have c9 : Tryz.prog.cellsOf 9 = 1 := by kernel_rfl
 rw [c9] at hel
 have hcells : ∀ k, k < 4 → ∀ (d : DataW Unit) (m : List MemPlace), xs[k]? = some (d, m) → ∃ s : ByteArray, cs0.toList[k]? = some (.string s) ∧ d = .lit (.string s.data.toList) := fun k hk d m hx => by
  have h1 := hel k hk
  rw [hx] at h1
  obtain ⟨s, e1, e2, _⟩ := DataW.trod_string Tryz.underlying9 h1
  refine ⟨s, ?_, by have := congrArg Prod.fst e2; simpa using this⟩
  rw [Nat.mul_one] at e1
  have h2 : ((cs0.toList.drop k).take 1)[0]? = some (.string s) := by rw [e1]; rfl
  rw [List.getElem?_take] at h2
  simpa using h2
 match xs, hn4, hx1, hcells with
 | [(d0, m0), (d1, m1'), (d2, m2), (d3, m3)], _, hx1, hcells =>
  simp only [Rows.laid_seedling_sort_words, List.map_cons, List.map_nil, Prod.mk.injEq, DataW.agg.injEq, List.cons.injEq, and_true] at hx1
  obtain ⟨⟨q0', q1', q2', q3'⟩, _⟩ := hx1
  obtain ⟨s0, a0, b0⟩ := hcells 0 (by decide) d0 m0 rfl
  obtain ⟨s1, a1, b1⟩ := hcells 1 (by decide) d1 m1' rfl
  obtain ⟨s2, a2, b2⟩ := hcells 2 (by decide) d2 m2 rfl
  obtain ⟨s3, a3, b3⟩ := hcells 3 (by decide) d3 m3 rfl
  rw [b0] at q0'; rw [b1] at q1'; rw [b2] at q2'; rw [b3] at q3'
  simp only [DataW.lit.injEq, Lit.string.injEq] at q0' q1' q2' q3'
  have r0 := str_of q0'.symm
  have r1 := str_of q1'.symm
  have r2 := str_of q2'.symm
  have r3 := str_of q3'.symm
  intro k hk
  have hv := World.var?_cell hg0 hv0 k
  rcases (show k = 0 ∨ k = 1 ∨ k = 2 ∨ k = 3 by omega) with rfl | rfl | rfl | rfl
  ·rw [hv, ← Array.getElem?_toList, a0, r0]; rfl
  ·rw [hv, ← Array.getElem?_toList, a1, r1]; rfl
  ·rw [hv, ← Array.getElem?_toList, a2, r2]; rfl
  ·rw [hv, ← Array.getElem?_toList, a3, r3]; rfl
end Go.Proofs.YtlklmpjakeedcaaGreatDoor
set_option linter.unusedVariables false
set_option linter.unusedSimpArgs false
set_option linter.unnecessarySimpa false
namespace Go.Proofs.YtlklmpjakeedcaaGreatDoor
open Go.RowKit Go.MapKept Go.Shelf

set_option maxRecDepth 100000 in
set_option maxHeartbeats 8000000 in
theorem refSort_any (w : World) (ga : Option Addr) (n gc : Nat) (VG : List Is) (X : List (List Int)) (hn : n = VG.length) (hgc : n ≤ gc ∧ gc ≤ 9223372036854775807) (hx : IntRows w ga VG) (hX : VG.map (·.2.2) = X) (hr : Cp.rightI X = true) (i : Nat) (hi : i < X.length) :
  Calls Tryz.prog 84 #[.slice ga n gc, .int .i64 i] w fun e w' => e = .returned (.int .i64 (sortI X i)) ∧ Chg [] w w' := by
 rw [← sort_ref hr hi]
 have hl : VG.length = X.length := by rw [← hX, List.length_map]
 have hin : i < n := by omega
 have hn64 : n ≤ 64 := by
  have := hr
  unfold Cp.rightI at this
  rw [Bool.and_eq_true] at this
  have := of_decide_eq_true this.1
  omega
 obtain ⟨S, hS⟩ : ∃ S, S = sortR X i := ⟨_, rfl⟩
 obtain ⟨rg, hrg⟩ : ∃ b, b = Cp.ringI X i := ⟨_, rfl⟩
 obtain ⟨it, hit⟩ : ∃ b, b = itI X i := ⟨_, rfl⟩
 have hS2 : S = if rg then (if (withI X i).length = 1 then 1 else if it then 3 else 2) else 0 := by rw [hS, hrg, hit]; rfl
 have hits : it = (X.getD i []).contains (i : Int) := by rw [hit]; unfold itI; rw [Int.toNat_natCast]
 have hRing := refRing_any w ga n gc VG hn hgc hx i
 rw [hX, ← hrg] at hRing
 obtain ⟨gb, go, ra, rc, rfl, hcr, hir, hlr⟩ := rows_at hx hX (i := i) (by omega)
 obtain ⟨p, hpi, hpl, hw, _, _⟩ := so_part hr hi
 rw [← hS]
 obtain ⟨zl, hzl⟩ : ∃ z, z = (X.getD i []).length := ⟨_, rfl⟩
 rw [← hzl] at hcr hlr
 have H := Lib.hid (And.intro hS2 (And.intro hits (And.intro hRing (And.intro hcr (And.intro hir (And.intro hzl (And.intro hpi (And.intro hpl (And.intro hw (And.intro hn (And.intro hx hX)))))))))))
 clear hS hrg hit hS2 hits hRing hcr hir hzl hpi hpl hw hn hx hX hl hi
 go_enter Tryz.func84, Tryz.ntmps84
 go_wp2_with fail
 refine H.out.2.2.1.mono ?_
 rintro e w1 ⟨rfl, hc⟩
 have H1 := Lib.hid hc
 clear hc
 cases rg with
 | false =>
  go_wp2_with fail
  go_ret
  exact ⟨ret_int (by rw [H.out.1]; rfl), H1.out⟩
 | true =>
  go_wp2_with fail
  go_loopg [6, 5] zl (fun d kv ov wr => ∃ (k : Nat) (o : Bool), d = zl - k ∧ k ≤ zl ∧ kv = .int .i64 k ∧ ov = .bool o ∧ Hid (o = ((X.getD i []).take k).contains (i : Int) ∧ Chg [] w wr))
  case atStart => exact ⟨0, false, rfl, Nat.zero_le _, rfl, rfl, Lib.hid ⟨by simp, H1.out⟩⟩
  case round =>
   obtain ⟨k, o, rfl, hk, rfl, rfl, hin2⟩ := hrel
   obtain ⟨wq, rfl⟩ : ∃ z, z = wr := ⟨_, rfl⟩
   have hcr := hin2.out.2.cell H.out.2.2.2.1 (by simp)
   have hgl := World.block_lt_of_cell? _ _ hcr
   simp only at hgl
   by_cases hlt : k < zl
   ·have hkz : k < (X.getD i []).length := by have := H.out.2.2.2.2.2.1; omega
    obtain ⟨zb, zo, rfl, hzc⟩ := (H.out.2.2.2.2.1.keep hin2.out.2.kp) k hkz
    obtain ⟨z, hz⟩ : ∃ z, z = (X.getD i [])[k] := ⟨_, rfl⟩
    rw [← hz] at hzc
    have hzl2 := World.block_lt_of_cell? _ _ hzc
    simp only at hzl2
    have htk : (X.getD i []).take (k + 1) = (X.getD i []).take k ++ [z] := by rw [hz]; exact List.take_succ_eq_append_getElem hkz
    have HT := Lib.hid htk
    clear htk hz hkz
    cases o with
    | true =>
     go_wp2_with fail
     go_roundg (zl - (k + 1))
     case measure => omega
     case rel => exact ⟨k + 1, true, rfl, by omega, by go_num, rfl, Lib.hid ⟨by rw [HT.out]; have := hin2.out.1; simp at this ⊢; exact .inl this, hin2.out.2⟩⟩
    | false =>
     go_wp2_with fail
     go_roundg (zl - (k + 1))
     case measure => omega
     case rel =>
      refine ⟨k + 1, z == (i : Int), rfl, by omega, by go_num, rfl, Lib.hid ⟨?_, hin2.out.2⟩⟩
      have h1 := hin2.out.1
      rw [HT.out, Bool.eq_iff_iff]
      simp only [List.contains_eq_mem, decide_eq_true_eq, List.mem_append, List.mem_singleton, beq_iff_eq]
      simp only [List.contains_eq_mem, Bool.false_eq, decide_eq_false_iff_not] at h1
      constructor
      ·intro e; exact .inr e.symm
      ·rintro (h | h)
       ·exact absurd h h1
       ·exact h.symm
   ·obtain rfl : k = zl := by omega
    have hoi : o = it := by
     rw [hin2.out.1, H.out.2.1, List.take_of_length_le (by have := H.out.2.2.2.2.2.1; omega)]
    subst hoi
    go_wp2_with fail
    have hp := refParts_any wq _ n gc VG H.out.2.2.2.2.2.2.2.2.2.1 hgc (H.out.2.2.2.2.2.2.2.2.2.2.1.keep hin2.out.2.kp)
    rw [H.out.2.2.2.2.2.2.2.2.2.2.2] at hp
    refine hp.mono ?_
    clear hp
    rintro e w2 ⟨la, lc, VS, rfl, hO, hVS, hc⟩
    obtain ⟨pn, hpn⟩ : ∃ z, z = VS.length := ⟨_, rfl⟩
    rw [← hpn]
    have H2 := Lib.hid (And.intro hO.rows (And.intro hVS (And.intro hpn (hin2.out.2.tr hc))))
    clear hO hVS hpn hc hcr hgl
    go_wp2_with fail
    have hp := refPart_any w2 _ n gc VG H.out.2.2.2.2.2.2.2.2.2.1 hgc (H.out.2.2.2.2.2.2.2.2.2.2.1.keep H2.out.2.2.2.kp) i
    rw [H.out.2.2.2.2.2.2.2.2.2.2.2, H.out.2.2.2.2.2.2.1] at hp
    refine hp.mono ?_
    clear hp
    rintro e w3 ⟨rfl, hc⟩
    have hpn2 : p < VS.length := by
     have := congrArg List.length H2.out.2.1
     rw [List.length_map] at this
     have := H.out.2.2.2.2.2.2.2.1
     omega
    obtain ⟨vb, vo, va, vc, rfl, hcv, -, hlv⟩ := rows_at (H2.out.1.keep hc.kp) H2.out.2.1 (i := p) hpn2
    rw [← H.out.2.2.2.2.2.2.2.2.1] at hcv hlv
    obtain ⟨wl, hwl⟩ : ∃ z, z = (withI X i).length := ⟨_, rfl⟩
    rw [← hwl] at hcv hlv
    have hvl := World.block_lt_of_cell? _ _ hcv
    simp only at hvl
    have hpp : p < pn := by have := H2.out.2.2.1; omega
    have H3 := Lib.hid (And.intro hwl (H2.out.2.2.2.tr hc))
    clear hc hpn2 hwl
    by_cases h1 : wl = 1
    ·have e1 : ((wl : Int) == 1) = true := by rw [h1]; rfl
     go_wp2_with fail
     go_ret
     exact ⟨ret_int (by rw [H.out.1, ← H3.out.1]; simp [h1]), H3.out.2⟩
    ·have e1 : ((wl : Int) == 1) = false := by simp; omega
     have e2 : (wl == 1) = false := by simp [h1]
     have HN := Lib.hid h1
     clear h1
     cases o with
     | true =>
      go_wp2_with fail
      go_ret
      exact ⟨ret_int (by rw [H.out.1, ← H3.out.1]; simp [HN.out]), H3.out.2⟩
     | false =>
      go_wp2_with fail
      go_ret
      exact ⟨ret_int (by rw [H.out.1, ← H3.out.1]; simp [HN.out]), H3.out.2⟩
end Go.Proofs.YtlklmpjakeedcaaGreatDoor

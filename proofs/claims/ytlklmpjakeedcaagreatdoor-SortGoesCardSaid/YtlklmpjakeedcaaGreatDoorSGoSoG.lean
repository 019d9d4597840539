/-
  SortGoes: for every grammar the law returns true.
  Conditions: the grammar reads as data; the names stand where they were laid.
-/
import Derived.Test.YtlklmpjakeedcaaGreatDoorSGoSoG0
import Derived.Test.YtlklmpjakeedcaaGreatDoorSGoSo8
import Derived.Test.YtlklmpjakeedcaaGreatDoorSGoG06A
import Derived.Test.YtlklmpjakeedcaaGreatDoorSGoGTail
import Derived.Deep.CutRange
import Derived.Deep.CutBlock
set_option linter.unusedVariables false
set_option linter.unusedSimpArgs false
set_option linter.unnecessarySimpa false
namespace Go.Proofs.YtlklmpjakeedcaaGreatDoor
open Go.RowKit Go.MapKept Go.Shelf

def GraphR (W : World) (a : Option Addr) (V : List Is) (X : List (List Int)) : Prop := V.map (·.2.2) = X ∧ IntRows W a V
theorem GraphR.keep {W W' : World} {a : Option Addr} {V : List Is} {X : List (List Int)} (h : GraphR W a V X) (k : Kp W W') : GraphR W' a V X := ⟨h.1, h.2.keep k⟩

set_option maxRecDepth 100000 in
set_option maxHeartbeats 32000000 in
theorem sortGoes_any (w : World) (hw : WordsAt w) (a1 : Option Addr) (n1 c1 : Nat) (a2 : Option Addr) (n2 c2 : Nat) (g : Gr) (hg : GramAt w a1 n1 c1 a2 n2 c2 g) (hre : Reach g) :
    Calls Tryz.prog 8 #[.agg #[.slice a1 n1 c1, .slice a2 n2 c2]] w fun e w' => e = .returned (.bool true) ∧ Chg [] w w' := by
  have hn1 := hg.e1
  have H := Lib.hid (And.intro hg (And.intro hre (And.intro hw hn1)))
  clear hg hre hw hn1
  go_enter Tryz.func8, Tryz.ntmps8
  go_wp2_with fail
  obtain ⟨W, hWd⟩ : ∃ z, z = w.alloc (.cells #[.slice a1 n1 c1, .slice a2 n2 c2] 31) := ⟨_, rfl⟩
  have hb : W.heap[w.heap.size]? = some (.cells #[.slice a1 n1 c1, .slice a2 n2 c2] 31 (0, 0)) := by rw [hWd]; exact heap_alloc_same _ _
  have hcW : Chg [] w W := by rw [hWd]; exact (Chg.refl [] w).alloc _
  rw [← hWd]
  have HB := Lib.hid (And.intro hb (And.intro hcW (And.intro (H.out.1.keep hcW.kp) (H.out.2.2.1.chg hcW))))
  clear hb hcW hWd
  have C0 : Hid (Chg [] W W) := Lib.hid (Chg.refl _ _)
  have x0 : True := trivial
  have x1 : True := trivial
  have hbl : True := trivial
  refine (awake14_any W HB.out.2.2.2).mono ?_
  rintro e w1 ⟨rfl, hc⟩
  have C1 := Lib.hid (C0.out.tr hc)
  clear hc x0 x1 hbl
  obtain ⟨x0, x1⟩ := cells2 (C1.out.heap HB.out.1 (by simp))
  have hbl := lt_of_block (C1.out.heap HB.out.1 (by simp))
  go_wp2_with fail
  refine (size14_any w1 a1 n1 c1 a2 n2 c2 g (HB.out.2.2.1.keep C1.out.kp) H.out.2.1).mono ?_
  rintro e w2 ⟨m, rfl, -, -, hc⟩
  have C2 := Lib.hid (C1.out.tr hc)
  clear hc x0 x1 hbl
  obtain ⟨x0, x1⟩ := cells2 (C2.out.heap HB.out.1 (by simp))
  have hbl := lt_of_block (C2.out.heap HB.out.1 (by simp))
  by_cases hm : 300 < m
  · go_wp2_with fail
    go_ret
    exact ⟨rfl, HB.out.2.1.tr C2.out⟩
  · go_wp2_with fail
    refine (Right_any w2 a1 n1 c1 a2 n2 c2 g (HB.out.2.2.1.keep C2.out.kp)).mono ?_
    rintro e w3 ⟨rfl, hc⟩
    obtain ⟨r, hr⟩ : ∃ r, r = rightB g := ⟨_, rfl⟩
    rw [← hr]
    have HR := Lib.hid hr.symm
    clear hr
    have C3 := Lib.hid (C2.out.tr hc)
    clear hc x0 x1 hbl
    obtain ⟨x0, x1⟩ := cells2 (C3.out.heap HB.out.1 (by simp))
    have hbl := lt_of_block (C3.out.heap HB.out.1 (by simp))
    cases r with
    | false =>
      have hX := none_right HR.out
      have cA := calls_rg (w := w3) (fun w' h1 => AllZ_any w' a1 n1 c1 a2 n2 c2 g (HB.out.2.2.1.keep (C3.out.tr h1).kp) H.out.2.1 hX)
      have cB := calls_rg (w := w3) (fun w' h1 => OrderZ_any w' a1 n1 c1 a2 n2 c2 g (HB.out.2.2.1.keep (C3.out.tr h1).kp) H.out.2.1 hX)
      have hf0 : freeI (graphG g) = false := by rw [hX]; rfl
      have hs0 : sortOf (graphG g) 0 = 0 := by rw [hX]; rfl
      have cC := calls_rg (w := w3) (fun w' h1 => by
        have := Free_any w' a1 n1 c1 a2 n2 c2 g (HB.out.2.2.1.keep (C3.out.tr h1).kp) H.out.2.1
        rw [hf0] at this
        exact this)
      have cD := calls_rg (w := w3) (fun w' h1 => by
        have := OfS_any w' a1 n1 c1 a2 n2 c2 g (HB.out.2.2.1.keep (C3.out.tr h1).kp) H.out.2.1 0
        rw [hs0] at this
        exact this)
      have kx := cell_rg x0
      have ky := cell_rg x1
      clear hX hf0 hs0
      go_wp2_with fail
      refine wp_region_quiet_below (by kernel_rfl) (by kernel_rfl) ?_
      repeat (go_big_quiet_step (first | (with_reducible exact cA _ _) | (with_reducible exact cB _ _) | (with_reducible exact cC _ _) | (with_reducible exact cD _ _)))
      refine wpQuiet_nil ?_
      intro w4 hw4
      have hc4 := chg_of_rg hw4
      have H4 := Lib.hid (HB.out.2.1.tr (C3.out.tr hc4))
      clear hw4 hc4 cA cB cC cD kx ky
      go_wp2_with fail
      go_ret
      exact ⟨rfl, H4.out⟩
    | true =>
      obtain ⟨X, hXd⟩ : ∃ X, X = graphG g := ⟨_, rfl⟩
      have hXl : X.length = n1 := by rw [hXd]; exact (len_graph HR.out).trans H.out.2.2.2.symm
      have hLl : (allI X).length = n1 := by rw [allI_len, hXl]
      have hsz := right_sizes HR.out
      have hg32 : n1 ≤ 32 := by have := H.out.2.2.2; omega
      have hg1 : 1 ≤ n1 := by have := H.out.2.2.2; omega
      have HGr := Lib.hid (fun W' (hc' : Chg [] w3 W') => (show Calls Tryz.prog 16 #[.agg #[.slice a1 n1 c1, .slice a2 n2 c2]] W' (fun e w' => ∃ ga gc VG, e = .returned (.slice ga n1 gc) ∧ GraphR w' ga VG X ∧ Chg [] W' w') from
        (Graph_any W' a1 n1 c1 a2 n2 c2 g (HB.out.2.2.1.keep (C3.out.tr hc').kp) H.out.2.1).mono fun e w' ⟨ga, gc, VG, e1, e2, e3, e4⟩ => ⟨ga, gc, VG, by rw [e1, ← hXd, hXl], ⟨by rw [e2, hXd], e3.rows⟩, e4⟩))
      have HAl := Lib.hid (fun W' (hc' : Chg [] w3 W') => (show Calls Tryz.prog 32 #[.agg #[.slice a1 n1 c1, .slice a2 n2 c2]] W' (fun e w' => ∃ la lc, e = .returned (.slice la n1 lc) ∧ Ints w' la (allI X) ∧ Chg [] W' w') from
        (All_any W' a1 n1 c1 a2 n2 c2 g (HB.out.2.2.1.keep (C3.out.tr hc').kp) H.out.2.1).mono fun e w' ⟨la, lc, e1, e2, e3, e4⟩ => ⟨la, lc, by rw [e1, ← hXd, hLl], by rw [hXd]; exact nums_ints e2, e4⟩))
      have HX := Lib.hid (And.intro hXd (And.intro hXl hLl))
      clear hXd hXl hLl hsz
      go_wp2_with fail
      refine wp_region_st (by kernel_rfl) (by kernel_rfl) [37, 38, 39, 40, 3, 4] (by kernel_rfl) (fun rI rV rW => match rI with | 0 => rV = .agg #[.slice a1 n1 c1, .slice a2 n2 c2] | 1 => ∃ ga9 gc9 VG9, rV = .slice ga9 n1 gc9 ∧ GraphR rW ga9 VG9 X | 2 => rV = .agg #[.slice a1 n1 c1, .slice a2 n2 c2] | 3 => ∃ la9 lc9, rV = .slice la9 n1 lc9 ∧ Ints rW la9 (allI X) | 4 => ∃ ga9 gc9 VG9, rV = .slice ga9 n1 gc9 ∧ GraphR rW ga9 VG9 X | 5 => ∃ la9 lc9, rV = .slice la9 n1 lc9 ∧ Ints rW la9 (allI X) | _ => True) ?hS6 ?hstep6 ?hdone6
      case hS6 =>
        intro rI rV rW rW' hc rP
        match rI, rP with
        | 0, rP => exact rP
        | 1, rP => exact (by obtain ⟨ga9, gc9, VG9, e9, hp⟩ := rP; exact ⟨ga9, gc9, VG9, e9, hp.keep hc.kp⟩)
        | 2, rP => exact rP
        | 3, rP => exact (by obtain ⟨la9, lc9, e9, hp⟩ := rP; exact ⟨la9, lc9, e9, hp.keep hc.kp⟩)
        | 4, rP => exact (by obtain ⟨ga9, gc9, VG9, e9, hp⟩ := rP; exact ⟨ga9, gc9, VG9, e9, hp.keep hc.kp⟩)
        | 5, rP => exact (by obtain ⟨la9, lc9, e9, hp⟩ := rP; exact ⟨la9, lc9, e9, hp.keep hc.kp⟩)
        | _ + 6, _ => trivial
      case hstep6 =>
        intro rI rH us W hC hdep K hK
        have hiN : rI < 6 := rH
        simp only [actU, Act.put, List.setIfInBounds_toArray, List.set_cons_succ, List.set_cons_zero, Nat.reduceAdd] at hK ⊢
        obtain ⟨x0, x1⟩ := cells2 ((C3.out.tr hC).heap HB.out.1 (by simp))
        have hbl := lt_of_block ((C3.out.tr hC).heap HB.out.1 (by simp))
        rcases (show rI = 0 ∨ rI = 1 ∨ rI = 2 ∨ rI = 3 ∨ rI = 4 ∨ rI = 5 by omega) with rfl | rfl | rfl | rfl | rfl | rfl
        · simp only [List.getD_cons_succ, List.getD_cons_zero, List.setIfInBounds_toArray, List.set_cons_succ, List.set_cons_zero] at hK ⊢
          refine wpOp_at rfl rfl ?_
          go_simp
          exact hK _ _ _ rfl (Chg.refl _ _) rfl
        · have l0 := hdep 0 (by kernel_rfl)
          replace l0 : us 0 = .agg #[.slice a1 n1 c1, .slice a2 n2 c2] := l0
          simp only [List.getD_cons_succ, List.getD_cons_zero, List.setIfInBounds_toArray, List.set_cons_succ, List.set_cons_zero, l0] at hK ⊢
          refine wpOp_at rfl rfl ?_
          go_simp
          refine (HGr.out W hC).mono ?_
          rintro e wz ⟨ga9, gc9, VG9, rfl, hp9, hz⟩
          exact hK _ _ _ rfl hz ⟨ga9, gc9, VG9, rfl, hp9⟩
        · simp only [List.getD_cons_succ, List.getD_cons_zero, List.setIfInBounds_toArray, List.set_cons_succ, List.set_cons_zero] at hK ⊢
          refine wpOp_at rfl rfl ?_
          go_simp
          exact hK _ _ _ rfl (Chg.refl _ _) rfl
        · have l2 := hdep 2 (by kernel_rfl)
          replace l2 : us 2 = .agg #[.slice a1 n1 c1, .slice a2 n2 c2] := l2
          simp only [List.getD_cons_succ, List.getD_cons_zero, List.setIfInBounds_toArray, List.set_cons_succ, List.set_cons_zero, l2] at hK ⊢
          refine wpOp_at rfl rfl ?_
          go_simp
          refine (HAl.out W hC).mono ?_
          rintro e wz ⟨la9, lc9, rfl, hp9, hz⟩
          exact hK _ _ _ rfl hz ⟨la9, lc9, rfl, hp9⟩
        · have l1 := hdep 1 (by kernel_rfl)
          obtain ⟨ga9, gc9, VG9, l1, p1⟩ := l1
          simp only [List.getD_cons_succ, List.getD_cons_zero, List.setIfInBounds_toArray, List.set_cons_succ, List.set_cons_zero, l1] at hK ⊢
          refine wpOp_at rfl rfl ?_
          go_simp
          exact hK _ _ _ rfl (Chg.refl _ _) ⟨ga9, gc9, VG9, rfl, p1⟩
        · have l3 := hdep 3 (by kernel_rfl)
          obtain ⟨la9, lc9, l3, p3⟩ := l3
          simp only [List.getD_cons_succ, List.getD_cons_zero, List.setIfInBounds_toArray, List.set_cons_succ, List.set_cons_zero, l3] at hK ⊢
          refine wpOp_at rfl rfl ?_
          go_simp
          exact hK _ _ _ rfl (Chg.refl _ _) ⟨la9, lc9, rfl, p3⟩
      case hdone6 =>
        intro us W hC hall
        have l0 := hall 0 (by decide)
        replace l0 : us 0 = .agg #[.slice a1 n1 c1, .slice a2 n2 c2] := l0
        have l1 := hall 1 (by decide)
        obtain ⟨ga9, gc9, VG9, l1, p1⟩ := l1
        have l2 := hall 2 (by decide)
        replace l2 : us 2 = .agg #[.slice a1 n1 c1, .slice a2 n2 c2] := l2
        have l3 := hall 3 (by decide)
        obtain ⟨la9, lc9, l3, p3⟩ := l3
        have l4 := hall 4 (by decide)
        obtain ⟨ga9, gc9, VG9, l4, p4⟩ := l4
        have l5 := hall 5 (by decide)
        obtain ⟨la9, lc9, l5, p5⟩ := l5
        simp only [actU, Act.put, List.setIfInBounds_toArray, List.set_cons_succ, List.set_cons_zero, Nat.reduceAdd, l0, l1, l2, l3, l4, l5]
        clear hall l0 l1 l2 l3 l4 l5
        obtain ⟨w4, hw4e⟩ : ∃ z, z = W := ⟨_, rfl⟩
        subst hw4e
        clear p1 p3
        obtain ⟨lb, lo, rfl, -⟩ := p5 0 (by rw [HX.out.2.2]; omega)
        obtain ⟨gb9, go9, rfl, -, -, -⟩ := p4.2 0 (by have := congrArg List.length p4.1; rw [List.length_map, HX.out.2.1] at this; omega)
        have H4 := Lib.hid (And.intro p4 p5)
        have C4 := Lib.hid (C3.out.tr hC)
        clear p4 p5 hC x0 x1 hbl
        obtain ⟨x0, x1⟩ := cells2 (C4.out.heap HB.out.1 (by simp))
        have hbl := lt_of_block (C4.out.heap HB.out.1 (by simp))
        go_wp2_with fail
        clear x0 x1 hbl
        go_loopg [6, 5] n1 (fun d iv fv wr => ∃ (i : Nat) (f : Bool), d = n1 - i ∧ i ≤ n1 ∧ iv = .int .i64 i ∧ fv = .bool f ∧ Hid (f = noGo g i ∧ Chg [] w4 wr))
        case atStart => exact ⟨0, true, rfl, Nat.zero_le _, rfl, rfl, Lib.hid ⟨rfl, Chg.refl _ _⟩⟩
        case round =>
          obtain ⟨i, f, rfl, hi, rfl, rfl, hin⟩ := hrel
          obtain ⟨w5, rfl⟩ : ∃ z, z = wr := ⟨_, rfl⟩
          have C5 := Lib.hid (C4.out.tr hin.out.2)
          by_cases hlt : i < n1
          · obtain ⟨S, hS⟩ : ∃ S, S = sortI X i := ⟨_, rfl⟩
            obtain ⟨tl, htl⟩ : ∃ t, t = (withOf X i).length := ⟨_, rfl⟩
            have hcS : w5.cell? ⟨lb, lo + i, none⟩ = some (.int .i64 S) := by
              obtain ⟨b, o, e, hc⟩ := (H4.out.2.keep hin.out.2.kp) i (by rw [HX.out.2.2]; exact hlt)
              cases e
              rw [hc, hS]
              unfold allI; simp
            have HWi := Lib.hid (fun W' (hc' : Chg [] w5 W') => (show Calls Tryz.prog 17 #[.agg #[.slice a1 n1 c1, .slice a2 n2 c2], .int .i64 i] W' (fun e w' => ∃ ta tc, e = .returned (.slice ta tl tc) ∧ Ints w' ta (withOf X i) ∧ Chg [] W' w') from
              (With_any W' a1 n1 c1 a2 n2 c2 g (HB.out.2.2.1.keep (C5.out.tr hc').kp) H.out.2.1 i).mono fun e w' ⟨ta, tc, e1, e2, _, e4⟩ => ⟨ta, tc, by rw [e1, ← HX.out.1, htl], by rw [HX.out.1]; exact nums_ints e2, e4⟩))
            have htl64 : tl ≤ 9223372036854775807 := by have := with_few (by rw [HX.out.1]; exact graph_right g : Cp.rightI X = true) (i := i) (by have := HX.out.2.1; omega); omega
            have HS := Lib.hid (And.intro hS (And.intro htl hcS))
            clear hS htl hcS
            go_wp2_with fail
            refine wp_region_st (by kernel_rfl) (by kernel_rfl) [53, 54, 55, 56, 57, 58, 59, 7, 8] (by kernel_rfl) (fun rI rV rW => match rI with | 0 => rV = .slice (some ⟨lb, lo, none⟩) n1 lc9 | 1 => rV = .int .i64 i | 2 => rV = .pointer (some ⟨lb, lo + i, none⟩) | 3 => rV = .int .i64 S | 4 => rV = .agg #[.slice a1 n1 c1, .slice a2 n2 c2] | 5 => rV = .int .i64 i | 6 => ∃ ta9 tc9, rV = .slice ta9 tl tc9 ∧ Ints rW ta9 (withOf X i) | 7 => rV = .int .i64 S | 8 => ∃ ta9 tc9, rV = .slice ta9 tl tc9 ∧ Ints rW ta9 (withOf X i) | _ => True) ?hS12 ?hstep12 ?hdone12
            case hS12 =>
              intro rI rV rW rW' hc rP
              match rI, rP with
              | 0, rP => exact rP
              | 1, rP => exact rP
              | 2, rP => exact rP
              | 3, rP => exact rP
              | 4, rP => exact rP
              | 5, rP => exact rP
              | 6, rP => exact (by obtain ⟨ta9, tc9, e9, hp⟩ := rP; exact ⟨ta9, tc9, e9, hp.keep hc.kp⟩)
              | 7, rP => exact rP
              | 8, rP => exact (by obtain ⟨ta9, tc9, e9, hp⟩ := rP; exact ⟨ta9, tc9, e9, hp.keep hc.kp⟩)
              | _ + 9, _ => trivial
            case hstep12 =>
              intro rI rH us W hC hdep K hK
              have hiN : rI < 9 := rH
              simp only [actU, Act.put, List.setIfInBounds_toArray, List.set_cons_succ, List.set_cons_zero, Nat.reduceAdd] at hK ⊢
              obtain ⟨x0, x1⟩ := cells2 ((C5.out.tr hC).heap HB.out.1 (by simp))
              have hbl := lt_of_block ((C5.out.tr hC).heap HB.out.1 (by simp))
              have g1 := hC.cell HS.out.2.2 (by simp)
              rcases (show rI = 0 ∨ rI = 1 ∨ rI = 2 ∨ rI = 3 ∨ rI = 4 ∨ rI = 5 ∨ rI = 6 ∨ rI = 7 ∨ rI = 8 by omega) with rfl | rfl | rfl | rfl | rfl | rfl | rfl | rfl | rfl
              · simp only [List.getD_cons_succ, List.getD_cons_zero, List.setIfInBounds_toArray, List.set_cons_succ, List.set_cons_zero] at hK ⊢
                refine wpOp_at rfl rfl ?_
                go_simp
                exact hK _ _ _ rfl (Chg.refl _ _) rfl
              · simp only [List.getD_cons_succ, List.getD_cons_zero, List.setIfInBounds_toArray, List.set_cons_succ, List.set_cons_zero] at hK ⊢
                refine wpOp_at rfl rfl ?_
                go_simp
                exact hK _ _ _ rfl (Chg.refl _ _) rfl
              · have l0 := hdep 0 (by kernel_rfl)
                replace l0 : us 0 = .slice (some ⟨lb, lo, none⟩) n1 lc9 := l0
                have l1 := hdep 1 (by kernel_rfl)
                replace l1 : us 1 = .int .i64 i := l1
                simp only [List.getD_cons_succ, List.getD_cons_zero, List.setIfInBounds_toArray, List.set_cons_succ, List.set_cons_zero, l0, l1] at hK ⊢
                refine wpOp_at rfl rfl ?_
                go_simp
                exact hK _ _ _ rfl (Chg.refl _ _) rfl
              · have l2 := hdep 2 (by kernel_rfl)
                replace l2 : us 2 = .pointer (some ⟨lb, lo + i, none⟩) := l2
                simp only [List.getD_cons_succ, List.getD_cons_zero, List.setIfInBounds_toArray, List.set_cons_succ, List.set_cons_zero, l2] at hK ⊢
                refine wpOp_at rfl rfl ?_
                go_simp
                exact hK _ _ _ rfl (Chg.refl _ _) rfl
              · simp only [List.getD_cons_succ, List.getD_cons_zero, List.setIfInBounds_toArray, List.set_cons_succ, List.set_cons_zero] at hK ⊢
                refine wpOp_at rfl rfl ?_
                go_simp
                exact hK _ _ _ rfl (Chg.refl _ _) rfl
              · simp only [List.getD_cons_succ, List.getD_cons_zero, List.setIfInBounds_toArray, List.set_cons_succ, List.set_cons_zero] at hK ⊢
                refine wpOp_at rfl rfl ?_
                go_simp
                exact hK _ _ _ rfl (Chg.refl _ _) rfl
              · have l4 := hdep 4 (by kernel_rfl)
                replace l4 : us 4 = .agg #[.slice a1 n1 c1, .slice a2 n2 c2] := l4
                have l5 := hdep 5 (by kernel_rfl)
                replace l5 : us 5 = .int .i64 i := l5
                simp only [List.getD_cons_succ, List.getD_cons_zero, List.setIfInBounds_toArray, List.set_cons_succ, List.set_cons_zero, l4, l5] at hK ⊢
                refine wpOp_at rfl rfl ?_
                go_simp
                refine (HWi.out W hC).mono ?_
                rintro e wz ⟨ta9, tc9, rfl, hp9, hz⟩
                exact hK _ _ _ rfl hz ⟨ta9, tc9, rfl, hp9⟩
              · have l3 := hdep 3 (by kernel_rfl)
                replace l3 : us 3 = .int .i64 S := l3
                simp only [List.getD_cons_succ, List.getD_cons_zero, List.setIfInBounds_toArray, List.set_cons_succ, List.set_cons_zero, l3] at hK ⊢
                refine wpOp_at rfl rfl ?_
                go_simp
                exact hK _ _ _ rfl (Chg.refl _ _) rfl
              · have l6 := hdep 6 (by kernel_rfl)
                obtain ⟨ta9, tc9, l6, p6⟩ := l6
                simp only [List.getD_cons_succ, List.getD_cons_zero, List.setIfInBounds_toArray, List.set_cons_succ, List.set_cons_zero, l6] at hK ⊢
                refine wpOp_at rfl rfl ?_
                go_simp
                exact hK _ _ _ rfl (Chg.refl _ _) ⟨ta9, tc9, rfl, p6⟩
            case hdone12 =>
              intro us W hC hall
              have l0 := hall 0 (by decide)
              replace l0 : us 0 = .slice (some ⟨lb, lo, none⟩) n1 lc9 := l0
              have l1 := hall 1 (by decide)
              replace l1 : us 1 = .int .i64 i := l1
              have l2 := hall 2 (by decide)
              replace l2 : us 2 = .pointer (some ⟨lb, lo + i, none⟩) := l2
              have l3 := hall 3 (by decide)
              replace l3 : us 3 = .int .i64 S := l3
              have l4 := hall 4 (by decide)
              replace l4 : us 4 = .agg #[.slice a1 n1 c1, .slice a2 n2 c2] := l4
              have l5 := hall 5 (by decide)
              replace l5 : us 5 = .int .i64 i := l5
              have l6 := hall 6 (by decide)
              obtain ⟨ta9, tc9, l6, p6⟩ := l6
              have l7 := hall 7 (by decide)
              replace l7 : us 7 = .int .i64 S := l7
              have l8 := hall 8 (by decide)
              obtain ⟨ta9, tc9, l8, p8⟩ := l8
              simp only [actU, Act.put, List.setIfInBounds_toArray, List.set_cons_succ, List.set_cons_zero, Nat.reduceAdd, l0, l1, l2, l3, l4, l5, l6, l7, l8]
              clear hall l0 l1 l2 l3 l4 l5 l6 l7 l8
              obtain ⟨w6, hw6e⟩ : ∃ z, z = W := ⟨_, rfl⟩
              subst hw6e
              clear p6
              have H6 := Lib.hid p8
              have C6 := Lib.hid (C5.out.tr hC)
              have D6 := Lib.hid (hin.out.2.tr hC)
              clear p8 hC
              obtain ⟨x0, x1⟩ := cells2 (C6.out.heap HB.out.1 (by simp))
              have hbl := lt_of_block (C6.out.heap HB.out.1 (by simp))
              go_wp2_with fail
              refine (Goes_any w6 a1 n1 c1 a2 n2 c2 g (HB.out.2.2.1.keep C6.out.kp) H.out.2.1 i).mono ?_
              rintro e w7 ⟨rfl, hc⟩
              obtain ⟨gb, hgb⟩ : ∃ b, b = goesB g i := ⟨_, rfl⟩
              rw [← hgb]
              have H7 := Lib.hid (And.intro hgb (H6.out.keep hc.kp))
              have C7 := Lib.hid (C6.out.tr hc)
              have D7 := Lib.hid (D6.out.tr hc)
              clear hc hgb x0 x1 hbl
              go_upto_region 16 with fail
              go_cut [5] from 47 to 139 (fun fv wx => ∃ f2 : Bool, fv = .bool f2 ∧ wx = w7 ∧ Hid (f2 = (f && !gb)))
              case first =>
                cases f with
                | false =>
                  go_wp2_with fail
                  go_meet
                  exact ⟨_, rfl, rfl, Lib.hid rfl⟩
                | true =>
                  go_wp2_with fail
                  go_meet
                  exact ⟨_, rfl, rfl, Lib.hid rfl⟩
              case rest =>
                obtain ⟨f2, rfl, e9, hf2⟩ := hcut
                subst e9
                have hil : i < g.rules.length := by have := H.out.2.2.2; omega
                have hiX : i < X.length := by have := HX.out.2.1; omega
                have hXr : Cp.rightI X = true := by rw [HX.out.1]; exact graph_right g
                have hsrt := goes_sort HR.out hil
                rw [← HX.out.1, ← HS.out.1, ← H7.out.1] at hsrt
                have hdir := sort_direct X i
                have hone := with_one hXr hiX
                have hnon := with_none hXr hiX
                rw [← HS.out.1] at hdir hone hnon
                rw [← HS.out.2.1] at hone hnon
                have hsin := sort_in X i
                rw [← HS.out.1] at hsin
                obtain ⟨bi, oi, ra, rc, ei, hcr, hir, hlr⟩ := rows_at (H4.out.1.2.keep D7.out.kp) H4.out.1.1 (i := i) (by have := congrArg List.length H4.out.1.1; rw [List.length_map, HX.out.2.1] at this; omega)
                cases ei
                obtain ⟨zl, hzl⟩ : ∃ z, z = (X.getD i []).length := ⟨_, rfl⟩
                rw [← hzl] at hcr hlr
                have hits : itI X i = (X.getD i []).contains (i : Int) := by unfold itI; rw [Int.toNat_natCast]
                have hOf := OfS_any wc a1 n1 c1 a2 n2 c2 g (HB.out.2.2.1.keep C7.out.kp) H.out.2.1 i
                have hofS : sortOf (graphG g) i = S := by
                  rw [← HX.out.1, HS.out.1]
                  unfold sortOf inX
                  rw [decide_eq_true (by omega : (0 : Int) ≤ (i : Int)), decide_eq_true (by omega : (i : Int) < (X.length : Int))]
                  rfl
                rw [hofS] at hOf
                have HQ := Lib.hid (And.intro hsrt (And.intro hdir (And.intro hone (And.intro hnon (And.intro hOf (And.intro hir (And.intro hzl hits)))))))
                have hbi := World.block_lt_of_cell? _ _ hcr
                simp only at hbi
                clear hsrt hdir hone hnon hOf hofS hil hiX hXr hir hzl hits
                obtain ⟨x0, x1⟩ := cells2 (C7.out.heap HB.out.1 (by simp))
                have hbl := lt_of_block (C7.out.heap HB.out.1 (by simp))
                go_upto_region 17 with fail
                go_cut [109] from 47 to 139 (fun v wx => v = .bool false ∧ Hid (Chg [] wc wx))
                case first =>
                  have h4 : S = 0 ∨ S = 1 ∨ S = 2 ∨ S = 3 := by omega
                  clear hsin
                  rcases h4 with rfl | rfl | rfl | rfl
                  · obtain ⟨hsrt, hdir, hone, hnon, hOf, hir, hzl, hits⟩ := HQ.out
                    have egb : gb = false := by rw [hsrt]; rfl
                    subst egb
                    have eit : (X.getD i []).contains (i : Int) = false := by rw [← hits, ← hdir]; rfl
                    have etl : tl = 0 := by have := hnon.symm; simpa using this
                    subst etl
                    have HH := Lib.hid (And.intro eit (And.intro hOf (And.intro hir hzl)))
                    clear hsrt hdir hone hnon hOf hir hzl hits eit
                    go_wp2_with fail
                    refine HH.out.2.1.mono ?_
                    rintro e w8 ⟨rfl, hc⟩
                    have D8 := Lib.hid hc
                    have hcr8 := hc.cell hcr (by simp)
                    have hbi8 := Nat.lt_of_lt_of_le hbi hc.size
                    clear hc x0 x1 hbl hcr hbi
                    have hhas := has14_any w8 ra zl rc (X.getD i []) HH.out.2.2.2 hlr (HH.out.2.2.1.keep D8.out.kp) i
                    rw [HH.out.1] at hhas
                    have HHs := Lib.hid hhas
                    clear hhas
                    go_wp2_with fail
                    refine HHs.out.mono ?_
                    rintro e w9 ⟨rfl, hc⟩
                    have D9 := Lib.hid (D8.out.tr hc)
                    clear hc hcr8 hbi8
                    go_wp2_with fail
                    go_meet
                    exact ⟨rfl, D9⟩
                  · obtain ⟨hsrt, hdir, hone, hnon, hOf, hir, hzl, hits⟩ := HQ.out
                    have egb : gb = true := by rw [hsrt]; rfl
                    subst egb
                    have eit : (X.getD i []).contains (i : Int) = true := by rw [← hits, ← hdir]; rfl
                    have etl : tl = 1 := by have := hone.symm; simpa using this
                    subst etl
                    have HH := Lib.hid (And.intro eit (And.intro hOf (And.intro hir hzl)))
                    clear hsrt hdir hone hnon hOf hir hzl hits eit
                    go_wp2_with fail
                    refine HH.out.2.1.mono ?_
                    rintro e w8 ⟨rfl, hc⟩
                    have D8 := Lib.hid hc
                    have hcr8 := hc.cell hcr (by simp)
                    have hbi8 := Nat.lt_of_lt_of_le hbi hc.size
                    clear hc x0 x1 hbl hcr hbi
                    have hhas := has14_any w8 ra zl rc (X.getD i []) HH.out.2.2.2 hlr (HH.out.2.2.1.keep D8.out.kp) i
                    rw [HH.out.1] at hhas
                    have HHs := Lib.hid hhas
                    clear hhas
                    go_wp2_with fail
                    refine HHs.out.mono ?_
                    rintro e w9 ⟨rfl, hc⟩
                    have D9 := Lib.hid (D8.out.tr hc)
                    clear hc hcr8 hbi8
                    go_wp2_with fail
                    go_meet
                    exact ⟨rfl, D9⟩
                  · obtain ⟨hsrt, hdir, hone, hnon, hOf, hir, hzl, hits⟩ := HQ.out
                    have egb : gb = true := by rw [hsrt]; rfl
                    subst egb
                    have eit : (X.getD i []).contains (i : Int) = false := by rw [← hits, ← hdir]; rfl
                    have n1' : ¬ tl = 1 := fun e => by rw [e] at hone; cases hone
                    have n0' : ¬ tl = 0 := fun e => by rw [e] at hnon; cases hnon
                    have t1 : ((tl : Int) == 1) = false := by simp; omega
                    have t0 : ((tl : Int) == 0) = false := by simp; omega
                    clear n1' n0'
                    have HH := Lib.hid (And.intro eit (And.intro hOf (And.intro hir hzl)))
                    clear hsrt hdir hone hnon hOf hir hzl hits eit
                    go_wp2_with fail
                    refine HH.out.2.1.mono ?_
                    rintro e w8 ⟨rfl, hc⟩
                    have D8 := Lib.hid hc
                    have hcr8 := hc.cell hcr (by simp)
                    have hbi8 := Nat.lt_of_lt_of_le hbi hc.size
                    clear hc x0 x1 hbl hcr hbi
                    have hhas := has14_any w8 ra zl rc (X.getD i []) HH.out.2.2.2 hlr (HH.out.2.2.1.keep D8.out.kp) i
                    rw [HH.out.1] at hhas
                    have HHs := Lib.hid hhas
                    clear hhas
                    go_wp2_with fail
                    refine HHs.out.mono ?_
                    rintro e w9 ⟨rfl, hc⟩
                    have D9 := Lib.hid (D8.out.tr hc)
                    clear hc hcr8 hbi8
                    go_wp2_with fail
                    go_meet
                    exact ⟨rfl, D9⟩
                  · obtain ⟨hsrt, hdir, hone, hnon, hOf, hir, hzl, hits⟩ := HQ.out
                    have egb : gb = true := by rw [hsrt]; rfl
                    subst egb
                    have eit : (X.getD i []).contains (i : Int) = true := by rw [← hits, ← hdir]; rfl
                    have n1' : ¬ tl = 1 := fun e => by rw [e] at hone; cases hone
                    have n0' : ¬ tl = 0 := fun e => by rw [e] at hnon; cases hnon
                    have t1 : ((tl : Int) == 1) = false := by simp; omega
                    have t0 : ((tl : Int) == 0) = false := by simp; omega
                    clear n1' n0'
                    have HH := Lib.hid (And.intro eit (And.intro hOf (And.intro hir hzl)))
                    clear hsrt hdir hone hnon hOf hir hzl hits eit
                    go_wp2_with fail
                    refine HH.out.2.1.mono ?_
                    rintro e w8 ⟨rfl, hc⟩
                    have D8 := Lib.hid hc
                    have hcr8 := hc.cell hcr (by simp)
                    have hbi8 := Nat.lt_of_lt_of_le hbi hc.size
                    clear hc x0 x1 hbl hcr hbi
                    have hhas := has14_any w8 ra zl rc (X.getD i []) HH.out.2.2.2 hlr (HH.out.2.2.1.keep D8.out.kp) i
                    rw [HH.out.1] at hhas
                    have HHs := Lib.hid hhas
                    clear hhas
                    go_wp2_with fail
                    refine HHs.out.mono ?_
                    rintro e w9 ⟨rfl, hc⟩
                    have D9 := Lib.hid (D8.out.tr hc)
                    clear hc hcr8 hbi8
                    go_wp2_with fail
                    go_meet
                    exact ⟨rfl, D9⟩
                case rest =>
                  obtain ⟨rfl, hcut9⟩ := hcut
                  obtain ⟨w8, hw8e⟩ : ∃ z, z = wc := ⟨_, rfl⟩
                  have C8 : Hid (Chg [] W w8) := Lib.hid (by rw [hw8e]; exact C7.out.tr hcut9.out)
                  have D8 : Hid (Chg [] w4 w8) := Lib.hid (by rw [hw8e]; exact D7.out.tr hcut9.out)
                  have H8 : Hid (Ints w8 ta9 (withOf X i)) := Lib.hid (by rw [hw8e]; exact H7.out.2.keep hcut9.out.kp)
                  rw [← hw8e]
                  have HT := Lib.hid (And.intro H7.out.1 HQ.out.1)
                  clear hcut9 hw8e x0 x1 hbl hcr hbi hlr hsin HQ
                  go_wp2_with fail
                  go_loopg [10] n1 (fun d kv wr => ∃ k : Nat, d = n1 - k ∧ k ≤ n1 ∧ kv = .int .i64 k ∧ Hid (Chg [] w8 wr))
                  case atStart => exact ⟨0, rfl, Nat.zero_le _, rfl, Lib.hid (Chg.refl _ _)⟩
                  case round =>
                    obtain ⟨k, rfl, hk, rfl, hin3⟩ := hrel
                    obtain ⟨wq, rfl⟩ : ∃ z, z = wr := ⟨_, rfl⟩
                    by_cases hlt2 : k < n1
                    · have C9 := Lib.hid (C8.out.tr hin3.out)
                      have hik : i < g.rules.length := by have := H.out.2.2.2; omega
                      have hkk : k < g.rules.length := by have := H.out.2.2.2; omega
                      have hwg : gb = true → (withOf X i).contains (k : Int) = (((k : Int) == (i : Int)) || ((toL g i).contains (k : Int) && (toL g k).contains (i : Int))) := fun h => by
                        rw [HX.out.1]
                        exact with_goes HR.out hik hkk (by rw [← HT.out.1, h])
                      have hh1 := has14_any wq ta9 tl tc9 (withOf X i) HS.out.2.1 htl64 (H8.out.keep hin3.out.kp) k
                      obtain ⟨b1, hb1⟩ : ∃ b, b = (withOf X i).contains (k : Int) := ⟨_, rfl⟩
                      rw [← hb1] at hh1 hwg
                      obtain ⟨ei, hei⟩ : ∃ b, b = ((k : Int) == (i : Int)) := ⟨_, rfl⟩
                      obtain ⟨b2, hb2⟩ : ∃ b, b = (toL g i).contains (k : Int) := ⟨_, rfl⟩
                      obtain ⟨b3, hb3⟩ : ∃ b, b = (toL g k).contains (i : Int) := ⟨_, rfl⟩
                      rw [← hei, ← hb2, ← hb3] at hwg
                      have HK := Lib.hid (And.intro hwg (And.intro hh1 (And.intro hb2 hb3)))
                      have hei' := hei.symm
                      clear hwg hh1 hb1 hb2 hb3 hik hkk hei
                      obtain ⟨x0, x1⟩ := cells2 (C9.out.heap HB.out.1 (by simp))
                      have hbl := lt_of_block (C9.out.heap HB.out.1 (by simp))
                      go_upto_region 22 with fail
                      go_cut [139] from 110 to 139 (fun v wx => v = .bool false ∧ Hid (Chg [] wq wx))
                      case first =>
                        cases gb with
                        | false =>
                          go_wp2_with fail
                          go_meet
                          exact ⟨rfl, Lib.hid (Chg.refl _ _)⟩
                        | true =>
                          go_wp2_with fail
                          refine HK.out.2.1.mono ?_
                          rintro e wA ⟨rfl, hc⟩
                          have hww := HK.out.1 (by first | rfl | trivial)
                          have EA := Lib.hid hc
                          clear hc x0 x1 hbl
                          cases ei with
                          | true =>
                            have eb1 : b1 = true := by rw [hww]; rfl
                            subst eb1
                            clear hww
                            go_wp2_with fail
                            go_meet
                            exact ⟨rfl, EA⟩
                          | false =>
                            have eb1 : b1 = (b2 && b3) := by rw [hww]; rfl
                            subst eb1
                            clear hww
                            obtain ⟨x0, x1⟩ := cells2 ((C9.out.tr EA.out).heap HB.out.1 (by simp))
                            have hbl := lt_of_block ((C9.out.tr EA.out).heap HB.out.1 (by simp))
                            go_wp2_with fail
                            refine (To_any wA a1 n1 c1 a2 n2 c2 g (HB.out.2.2.1.keep (C9.out.tr EA.out).kp) H.out.2.1 i).mono ?_
                            rintro e wB ⟨oa, oc, rfl, hf, hc⟩
                            have hhas := has14_any wB oa (toL g i).length oc (toL g i) rfl (by have := toL_len g i; omega) (nums_ints hf) k
                            rw [← HK.out.2.2.1] at hhas
                            obtain ⟨ol, hol⟩ : ∃ z, z = (toL g i).length := ⟨_, rfl⟩
                            rw [← hol] at hhas ⊢
                            have HHs := Lib.hid hhas
                            have EB := Lib.hid (EA.out.tr hc)
                            clear hhas hf hc hol x0 x1 hbl
                            go_wp2_with fail
                            refine HHs.out.mono ?_
                            rintro e wC ⟨rfl, hc⟩
                            have EC := Lib.hid (EB.out.tr hc)
                            clear hc
                            cases b2 with
                            | false =>
                              go_wp2_with fail
                              go_meet
                              exact ⟨rfl, EC⟩
                            | true =>
                              obtain ⟨x0, x1⟩ := cells2 ((C9.out.tr EC.out).heap HB.out.1 (by simp))
                              have hbl := lt_of_block ((C9.out.tr EC.out).heap HB.out.1 (by simp))
                              go_wp2_with fail
                              refine (To_any wC a1 n1 c1 a2 n2 c2 g (HB.out.2.2.1.keep (C9.out.tr EC.out).kp) H.out.2.1 k).mono ?_
                              rintro e wD ⟨oa2, oc2, rfl, hf, hc⟩
                              have hhas := has14_any wD oa2 (toL g k).length oc2 (toL g k) rfl (by have := toL_len g k; omega) (nums_ints hf) i
                              rw [← HK.out.2.2.2] at hhas
                              obtain ⟨ol2, hol⟩ : ∃ z, z = (toL g k).length := ⟨_, rfl⟩
                              rw [← hol] at hhas ⊢
                              have HHt := Lib.hid hhas
                              have ED := Lib.hid (EC.out.tr hc)
                              clear hhas hf hc hol x0 x1 hbl
                              go_wp2_with fail
                              refine HHt.out.mono ?_
                              rintro e wE ⟨rfl, hc⟩
                              have EE := Lib.hid (ED.out.tr hc)
                              clear hc
                              cases b3 with
                              | false =>
                                go_wp2_with fail
                                go_meet
                                exact ⟨rfl, EE⟩
                              | true =>
                                go_wp2_with fail
                                go_meet
                                exact ⟨rfl, EE⟩
                      case rest =>
                        obtain ⟨rfl, hcut9⟩ := hcut
                        go_wp2_with fail
                        go_roundg (n1 - (k + 1))
                        case measure => omega
                        case rel => exact ⟨k + 1, rfl, by omega, by go_num, Lib.hid (hin3.out.tr hcut9.out)⟩
                    · obtain rfl : k = n1 := by omega
                      go_wp2_with fail
                      go_roundg (k - (i + 1))
                      case measure => omega
                      case rel => exact ⟨i + 1, f2, rfl, by omega, by go_num, rfl, Lib.hid ⟨by rw [hf2.out, noGo_succ, hin.out.1, HT.out.1], D8.out.tr hin3.out⟩⟩
          · obtain rfl : i = n1 := by omega
            obtain ⟨x0, x1⟩ := cells2 (C5.out.heap HB.out.1 (by simp))
            have hbl := lt_of_block (C5.out.heap HB.out.1 (by simp))
            have hfr := Free_any w5 a1 i c1 a2 n2 c2 g (HB.out.2.2.1.keep C5.out.kp) H.out.2.1
            rw [free_goes HR.out, ← H.out.2.2.2, ← hin.out.1] at hfr
            have HF := Lib.hid hfr
            clear hfr
            go_wp2_with fail
            refine HF.out.mono ?_
            rintro e w6 ⟨rfl, hc⟩
            have H6 := Lib.hid (HB.out.2.1.tr (C5.out.tr hc))
            clear hc x0 x1 hbl
            have eff : (f == f) = true := by simp
            go_wp2_with fail
            go_ret
            exact ⟨ret_bool (by simp), H6.out⟩
end Go.Proofs.YtlklmpjakeedcaaGreatDoor

/-
  SortOrder: for every grammar the law returns true.
  Conditions: the grammar reads as data; the names stand where they were laid.
-/
import Derived.Test.YtlklmpjakeedcaaGreatDoorSOrSoR0
import Derived.Test.YtlklmpjakeedcaaGreatDoorSOrSo8
import Derived.Test.YtlklmpjakeedcaaGreatDoorSOrG06A
import Derived.Test.YtlklmpjakeedcaaGreatDoorSOrGTail
set_option linter.unusedVariables false
set_option linter.unusedSimpArgs false
set_option linter.unnecessarySimpa false
namespace Go.Proofs.YtlklmpjakeedcaaGreatDoor
open Go.RowKit Go.MapKept Go.Shelf

def GraphQ (W : World) (a : Option Addr) (V : List Is) (X : List (List Int)) : Prop := V.map (·.2.2) = X ∧ IntRows W a V

set_option maxRecDepth 100000 in
set_option maxHeartbeats 32000000 in
theorem sortOrder_any (w : World) (hw : WordsAt w) (a1 : Option Addr) (n1 c1 : Nat) (a2 : Option Addr) (n2 c2 : Nat) (g : Gr) (hg : GramAt w a1 n1 c1 a2 n2 c2 g) (hre : Reach g) :
    Calls Tryz.prog 4 #[.agg #[.slice a1 n1 c1, .slice a2 n2 c2]] w fun e w' => e = .returned (.bool true) ∧ Chg [] w w' := by
  have hn1 := hg.e1
  have H := Lib.hid (And.intro hg (And.intro hre (And.intro hw hn1)))
  clear hg hre hw hn1
  go_enter Tryz.func4, Tryz.ntmps4
  go_wp2_with fail
  obtain ⟨W, hWd⟩ : ∃ z, z = w.alloc (.cells #[.slice a1 n1 c1, .slice a2 n2 c2] 31) := ⟨_, rfl⟩
  have hb : W.heap[w.heap.size]? = some (.cells #[.slice a1 n1 c1, .slice a2 n2 c2] 31 (0, 0)) := by rw [hWd]; exact heap_alloc_same _ _
  have hcW : Chg [] w W := by rw [hWd]; exact (Chg.refl [] w).alloc _
  rw [← hWd]
  have HB := Lib.hid (And.intro hb (And.intro hcW (And.intro (H.out.1.keep hcW.kp) (H.out.2.2.1.chg hcW))))
  clear hb hcW hWd
  have C0 : Hid (Chg [] W W) := Lib.hid (Chg.refl _ _)
  have x0 : True := trivial
  have x1 : True := trivial
  have hbl : True := trivial
  refine (awake14_any W HB.out.2.2.2).mono ?_
  rintro e w1 ⟨rfl, hc⟩
  have C1 := Lib.hid (C0.out.tr hc)
  clear hc x0 x1 hbl
  obtain ⟨x0, x1⟩ := cells2 (C1.out.heap HB.out.1 (by simp))
  have hbl := lt_of_block (C1.out.heap HB.out.1 (by simp))
  go_wp2_with fail
  refine (size14_any w1 a1 n1 c1 a2 n2 c2 g (HB.out.2.2.1.keep C1.out.kp) H.out.2.1).mono ?_
  rintro e w2 ⟨m, rfl, -, -, hc⟩
  have C2 := Lib.hid (C1.out.tr hc)
  clear hc x0 x1 hbl
  obtain ⟨x0, x1⟩ := cells2 (C2.out.heap HB.out.1 (by simp))
  have hbl := lt_of_block (C2.out.heap HB.out.1 (by simp))
  by_cases hm : 300 < m
  · go_wp2_with fail
    go_ret
    exact ⟨rfl, HB.out.2.1.tr C2.out⟩
  · go_wp2_with fail
    refine (Right_any w2 a1 n1 c1 a2 n2 c2 g (HB.out.2.2.1.keep C2.out.kp)).mono ?_
    rintro e w3 ⟨rfl, hc⟩
    obtain ⟨r, hr⟩ : ∃ r, r = rightB g := ⟨_, rfl⟩
    rw [← hr]
    have HR := Lib.hid hr.symm
    clear hr
    have C3 := Lib.hid (C2.out.tr hc)
    clear hc x0 x1 hbl
    obtain ⟨x0, x1⟩ := cells2 (C3.out.heap HB.out.1 (by simp))
    have hbl := lt_of_block (C3.out.heap HB.out.1 (by simp))
    cases r with
    | false =>
      go_wp2_with fail
      go_ret
      exact ⟨rfl, HB.out.2.1.tr C3.out⟩
    | true =>
      obtain ⟨X, hXd⟩ : ∃ X, X = graphG g := ⟨_, rfl⟩
      have hXr : Cp.rightI X = true := by rw [hXd]; exact graph_right g
      have hXl : X.length = n1 := by rw [hXd]; exact (len_graph HR.out).trans H.out.2.2.2.symm
      have hF := order_ok hXr
      have hon := order_nat hXr
      rw [hXl] at hF
      obtain ⟨Q, hQ⟩ : ∃ Q, Q = (pX X).flatten := ⟨_, rfl⟩
      rw [← hQ] at hon
      have hQl : Q.length = n1 := by rw [hQ]; exact hF.len
      have hsz := right_sizes HR.out
      have hg32 : n1 ≤ 32 := by have := H.out.2.2.2; omega
      have hg1 : 1 ≤ n1 := by have := H.out.2.2.2; omega
      have HGr := Lib.hid (fun W' (hc' : Chg [] w3 W') => (show Calls Tryz.prog 16 #[.agg #[.slice a1 n1 c1, .slice a2 n2 c2]] W' (fun e w' => ∃ ga gc VG, e = .returned (.slice ga n1 gc) ∧ GraphQ w' ga VG X ∧ Chg [] W' w') from
        (Graph_any W' a1 n1 c1 a2 n2 c2 g (HB.out.2.2.1.keep (C3.out.tr hc').kp) H.out.2.1).mono fun e w' ⟨ga, gc, VG, e1, e2, e3, e4⟩ => ⟨ga, gc, VG, by rw [e1, ← hXd, hXl], ⟨by rw [e2, hXd], e3.rows⟩, e4⟩))
      have HOr := Lib.hid (fun W' (hc' : Chg [] w3 W') => (show Calls Tryz.prog 15 #[.agg #[.slice a1 n1 c1, .slice a2 n2 c2]] W' (fun e w' => ∃ la lc, e = .returned (.slice la n1 lc) ∧ Ints w' la (natI Q) ∧ Chg [] W' w') from
        (Order_any W' a1 n1 c1 a2 n2 c2 g (HB.out.2.2.1.keep (C3.out.tr hc').kp) H.out.2.1).mono fun e w' ⟨la, lc, e1, e2, e3, e4⟩ => ⟨la, lc, by rw [e1, ← hXd, hon, natI_len, hQl], by rw [← hon, hXd]; exact nums_ints e2, e4⟩))
      have HX := Lib.hid (And.intro hXd (And.intro hXl (And.intro hXr (And.intro hF (And.intro hQ hQl)))))
      clear hXd hXl hXr hF hon hsz hQ hQl
      go_wp2_with fail
      refine wp_region_st (by kernel_rfl) (by kernel_rfl) [21, 22, 23, 24, 3, 4] (by kernel_rfl) (fun rI rV rW => match rI with | 0 => rV = .agg #[.slice a1 n1 c1, .slice a2 n2 c2] | 1 => ∃ la9 lc9, rV = .slice la9 n1 lc9 ∧ Ints rW la9 (natI Q) | 2 => rV = .agg #[.slice a1 n1 c1, .slice a2 n2 c2] | 3 => ∃ ga9 gc9 VG9, rV = .slice ga9 n1 gc9 ∧ GraphQ rW ga9 VG9 X | 4 => ∃ la9 lc9, rV = .slice la9 n1 lc9 ∧ Ints rW la9 (natI Q) | 5 => ∃ ga9 gc9 VG9, rV = .slice ga9 n1 gc9 ∧ GraphQ rW ga9 VG9 X | _ => True) ?hS6 ?hstep6 ?hdone6
      case hS6 =>
        intro rI rV rW rW' hc rP
        match rI, rP with
        | 0, rP => exact rP
        | 1, rP => exact (by obtain ⟨la9, lc9, e9, hp⟩ := rP; exact ⟨la9, lc9, e9, hp.keep hc.kp⟩)
        | 2, rP => exact rP
        | 3, rP => exact (by obtain ⟨ga9, gc9, VG9, e9, hp⟩ := rP; exact ⟨ga9, gc9, VG9, e9, ⟨hp.1, hp.2.keep hc.kp⟩⟩)
        | 4, rP => exact (by obtain ⟨la9, lc9, e9, hp⟩ := rP; exact ⟨la9, lc9, e9, hp.keep hc.kp⟩)
        | 5, rP => exact (by obtain ⟨ga9, gc9, VG9, e9, hp⟩ := rP; exact ⟨ga9, gc9, VG9, e9, ⟨hp.1, hp.2.keep hc.kp⟩⟩)
        | _ + 6, _ => trivial
      case hstep6 =>
        intro rI rH us W hC hdep K hK
        have hiN : rI < 6 := rH
        simp only [actU, Act.put, List.setIfInBounds_toArray, List.set_cons_succ, List.set_cons_zero, Nat.reduceAdd] at hK ⊢
        obtain ⟨x0, x1⟩ := cells2 ((C3.out.tr hC).heap HB.out.1 (by simp))
        have hbl := lt_of_block ((C3.out.tr hC).heap HB.out.1 (by simp))
        rcases (show rI = 0 ∨ rI = 1 ∨ rI = 2 ∨ rI = 3 ∨ rI = 4 ∨ rI = 5 by omega) with rfl | rfl | rfl | rfl | rfl | rfl
        · simp only [List.getD_cons_succ, List.getD_cons_zero, List.setIfInBounds_toArray, List.set_cons_succ, List.set_cons_zero] at hK ⊢
          refine wpOp_at rfl rfl ?_
          go_simp
          exact hK _ _ _ rfl (Chg.refl _ _) rfl
        · have l0 := hdep 0 (by kernel_rfl)
          replace l0 : us 0 = .agg #[.slice a1 n1 c1, .slice a2 n2 c2] := l0
          simp only [List.getD_cons_succ, List.getD_cons_zero, List.setIfInBounds_toArray, List.set_cons_succ, List.set_cons_zero, l0] at hK ⊢
          refine wpOp_at rfl rfl ?_
          go_simp
          refine (HOr.out W hC).mono ?_
          rintro e wz ⟨la9, lc9, rfl, hp9, hz⟩
          exact hK _ _ _ rfl hz ⟨la9, lc9, rfl, hp9⟩
        · simp only [List.getD_cons_succ, List.getD_cons_zero, List.setIfInBounds_toArray, List.set_cons_succ, List.set_cons_zero] at hK ⊢
          refine wpOp_at rfl rfl ?_
          go_simp
          exact hK _ _ _ rfl (Chg.refl _ _) rfl
        · have l2 := hdep 2 (by kernel_rfl)
          replace l2 : us 2 = .agg #[.slice a1 n1 c1, .slice a2 n2 c2] := l2
          simp only [List.getD_cons_succ, List.getD_cons_zero, List.setIfInBounds_toArray, List.set_cons_succ, List.set_cons_zero, l2] at hK ⊢
          refine wpOp_at rfl rfl ?_
          go_simp
          refine (HGr.out W hC).mono ?_
          rintro e wz ⟨ga9, gc9, VG9, rfl, hp9, hz⟩
          exact hK _ _ _ rfl hz ⟨ga9, gc9, VG9, rfl, hp9⟩
        · have l1 := hdep 1 (by kernel_rfl)
          obtain ⟨la9, lc9, l1, p1⟩ := l1
          simp only [List.getD_cons_succ, List.getD_cons_zero, List.setIfInBounds_toArray, List.set_cons_succ, List.set_cons_zero, l1] at hK ⊢
          refine wpOp_at rfl rfl ?_
          go_simp
          exact hK _ _ _ rfl (Chg.refl _ _) ⟨la9, lc9, rfl, p1⟩
        · have l3 := hdep 3 (by kernel_rfl)
          obtain ⟨ga9, gc9, VG9, l3, p3⟩ := l3
          simp only [List.getD_cons_succ, List.getD_cons_zero, List.setIfInBounds_toArray, List.set_cons_succ, List.set_cons_zero, l3] at hK ⊢
          refine wpOp_at rfl rfl ?_
          go_simp
          exact hK _ _ _ rfl (Chg.refl _ _) ⟨ga9, gc9, VG9, rfl, p3⟩
      case hdone6 =>
        intro us W hC hall
        have l0 := hall 0 (by decide)
        replace l0 : us 0 = .agg #[.slice a1 n1 c1, .slice a2 n2 c2] := l0
        have l1 := hall 1 (by decide)
        obtain ⟨la9, lc9, l1, p1⟩ := l1
        have l2 := hall 2 (by decide)
        replace l2 : us 2 = .agg #[.slice a1 n1 c1, .slice a2 n2 c2] := l2
        have l3 := hall 3 (by decide)
        obtain ⟨ga9, gc9, VG9, l3, p3⟩ := l3
        have l4 := hall 4 (by decide)
        obtain ⟨la9, lc9, l4, p4⟩ := l4
        have l5 := hall 5 (by decide)
        obtain ⟨ga9, gc9, VG9, l5, p5⟩ := l5
        simp only [actU, Act.put, List.setIfInBounds_toArray, List.set_cons_succ, List.set_cons_zero, Nat.reduceAdd, l0, l1, l2, l3, l4, l5]
        clear hall l0 l1 l2 l3 l4 l5
        obtain ⟨w4, hw4e⟩ : ∃ z, z = W := ⟨_, rfl⟩
        subst hw4e
        clear p1 p3
        obtain ⟨lb, lo, rfl, -⟩ := p4 0 (by rw [natI_len, HX.out.2.2.2.2.2]; omega)
        obtain ⟨gb9, go9, rfl, -, -, -⟩ := p5.2 0 (by have := congrArg List.length p5.1; rw [List.length_map, HX.out.2.1] at this; omega)
        have H4 := Lib.hid (And.intro p5 p4)
        have C4 := Lib.hid (C3.out.tr hC)
        clear p4 p5 hC x0 x1 hbl
        obtain ⟨x0, x1⟩ := cells2 (C4.out.heap HB.out.1 (by simp))
        have hbl := lt_of_block (C4.out.heap HB.out.1 (by simp))
        have hmk := fun V : World => run_ints n1 (by omega) V
        go_wp2_with fail
        clear x0 x1 hbl hmk
        obtain ⟨PX, hPX⟩ : ∃ p, p = pX X := ⟨_, rfl⟩
        obtain ⟨wA, hwA⟩ : ∃ z, z = w4.alloc (rowI (List.replicate n1 0)) := ⟨_, rfl⟩
        obtain ⟨Gb, hGb⟩ : ∃ z, z = w4.heap.size := ⟨_, rfl⟩
        have hB2 : wA.heap[Gb]? = some (rowI ((List.range n1).map (atF PX 0))) := by
          rw [hwA, hGb, heap_alloc_same, atF_zero, List.map_const', List.length_range]
        have hcA : Chg [] w4 wA := by rw [hwA]; exact (Chg.refl [] w4).alloc _
        rw [← hwA, ← hGb]
        have hGlt : w4.heap.size ≤ Gb := by omega
        have HA := Lib.hid (And.intro hB2 (And.intro hcA (And.intro hGlt hPX)))
        clear hB2 hcA hGlt hPX hwA hGb
        go_loopg [6] n1 (fun d iv wr => ∃ i : Nat, d = n1 - i ∧ i ≤ n1 ∧ iv = .int .i64 i ∧ Hid (wr.heap[Gb]? = some (rowI ((List.range n1).map (atF PX i))) ∧ Chg [] w4 wr))
        case atStart => exact ⟨0, rfl, Nat.zero_le _, rfl, Lib.hid ⟨HA.out.1, HA.out.2.1⟩⟩
        case round =>
          obtain ⟨i, rfl, hi, rfl, hin⟩ := hrel
          obtain ⟨w5, rfl⟩ : ∃ z, z = wr := ⟨_, rfl⟩
          by_cases hlt : i < n1
          · have hiQ : i < Q.length := by have := HX.out.2.2.2.2.2; omega
            have hFl : i < PX.flatten.length := by rw [HA.out.2.2.2, ← HX.out.2.2.2.2.1]; exact hiQ
            obtain ⟨a, ha⟩ : ∃ a, a = PX.flatten[i] := ⟨_, rfl⟩
            have hF : FlatOk n1 PX := by rw [HA.out.2.2.2]; exact HX.out.2.2.2.1
            have han : a < n1 := (hF.mem a).1 (by rw [ha]; exact List.getElem_mem hFl)
            have hcl : w5.cell? ⟨lb, lo + i, none⟩ = some (.int .i64 a) := by
              obtain ⟨b, o, e, hc⟩ := (H4.out.2.keep hin.out.2.kp) i (by rw [natI_len]; exact hiQ)
              cases e
              have e2 : Q = PX.flatten := by rw [HA.out.2.2.2]; exact HX.out.2.2.2.2.1
              have e3 : (natI Q)[i]'(by rw [natI_len]; exact hiQ) = (a : Int) := by
                rw [ha]
                simp only [natI, List.getElem_map, e2]
              rw [hc, e3]
            have xv := rowI_get hin.out.1 han
            have hfr := atF_fresh hF hFl
            rw [← ha] at hfr
            rw [hfr] at xv
            have xf := free_of_cells hin.out.1 a
            have hsu := fun j (hj : j < n1) => atF_succ hF hFl j hj
            rw [← ha] at hsu
            have HS := Lib.hid hsu
            have hd1 : decide ((n1 : Int) ≤ (a : Int)) = false := decide_eq_false (by omega)
            have hGl := lt_of_block hin.out.1
            have hll := World.block_lt_of_cell? _ _ hcl
            simp only at hll
            clear hiQ hFl ha hF hfr hsu
            go_wp2_with fail
            go_roundg (n1 - (i + 1))
            case measure => omega
            case rel => exact ⟨i + 1, rfl, by omega, by go_num, Lib.hid ⟨rowZ_congr (rowI_set hin.out.1 ((i : Int) + 1)) (fun j hj => (HS.out j hj).symm), hin.out.2.setCell (p := ⟨Gb, a, none⟩) (.inr HA.out.2.2.1) _⟩⟩
          · obtain rfl : i = n1 := by omega
            have hall : w5.heap[Gb]? = some (rowI ((List.range i).map (fun a => (posN PX a : Int) + 1))) := rowZ_congr hin.out.1 (fun j hj => atF_all (by rw [HA.out.2.2.2]; exact HX.out.2.2.2.1) hj)
            have HP := Lib.hid (And.intro hall hin.out.2)
            clear hall
            obtain ⟨w6, hw6⟩ : ∃ z, z = w5 := ⟨_, rfl⟩
            rw [← hw6] at HP ⊢
            clear hw6 hin
            obtain ⟨vi, hvi⟩ : ∃ z : Int, z = (i : Int) := ⟨_, rfl⟩
            clear hvi
            go_wp2_with fail
            go_loopg [7] i (fun d jv wr => ∃ j : Nat, d = i - j ∧ j ≤ i ∧ jv = .int .i64 j ∧ Hid (Chg [] w6 wr))
            case atStart => exact ⟨0, rfl, Nat.zero_le _, rfl, Lib.hid (Chg.refl _ _)⟩
            case round =>
              obtain ⟨j, rfl, hj, rfl, hin2⟩ := hrel
              obtain ⟨w7, rfl⟩ : ∃ z, z = wr := ⟨_, rfl⟩
              by_cases hltj : j < i
              · have C7 := Lib.hid ((C4.out.tr HP.out.2).tr hin2.out)
                obtain ⟨x0, x1⟩ := cells2 (C7.out.heap HB.out.1 (by simp))
                have hbl := lt_of_block (C7.out.heap HB.out.1 (by simp))
                have hjX : j < X.length := by have := HX.out.2.1; omega
                obtain ⟨V, hV1, hV2, hV3⟩ := with_pos HX.out.2.2.1 hjX
                rw [← HA.out.2.2.2] at hV3
                obtain ⟨tl, htl⟩ : ∃ t, t = V.length := ⟨_, rfl⟩
                have hWi := (show Calls Tryz.prog 17 #[.agg #[.slice a1 i c1, .slice a2 n2 c2], .int .i64 j] w7 (fun e w' => ∃ ta tc, e = .returned (.slice ta tl tc) ∧ Ints w' ta (natI V) ∧ Chg [] w7 w') from
                  (With_any w7 a1 i c1 a2 n2 c2 g (HB.out.2.2.1.keep C7.out.kp) H.out.2.1 j).mono fun e w' ⟨ta, tc, e1, e2, _, e4⟩ => ⟨ta, tc, by rw [e1, ← HX.out.1, hV1, natI_len, htl], by rw [← hV1, HX.out.1]; exact nums_ints e2, e4⟩)
                have hfew := with_few HX.out.2.2.1 hjX
                rw [hV1, natI_len, ← htl] at hfew
                have HV := Lib.hid (And.intro hWi (And.intro hV1 (And.intro hV2 (And.intro hV3 (And.intro htl hjX)))))
                clear hWi hV1 hV2 hV3 htl hjX
                go_wp2_with fail
                refine HV.out.1.mono ?_
                rintro e w8 ⟨ta, tc, rfl, hf, hc⟩
                have H8 := Lib.hid (And.intro hf (hin2.out.tr hc))
                clear hf hc x0 x1 hbl
                obtain ⟨bi, oi, ra, rc, ei, hcr, hir, hlr⟩ := rows_at (H4.out.1.2.keep (HP.out.2.tr H8.out.2).kp) H4.out.1.1 (i := j) (by have := congrArg List.length H4.out.1.1; rw [List.length_map, HX.out.2.1] at this; omega)
                cases ei
                obtain ⟨zl, hzl⟩ : ∃ z, z = (X.getD j []).length := ⟨_, rfl⟩
                rw [← hzl] at hcr hlr
                have hbi := World.block_lt_of_cell? _ _ hcr
                simp only at hbi
                have HZ := Lib.hid (And.intro hir (And.intro hzl hcr))
                clear hir hzl hcr
                go_wp2_with fail
                go_loopg [9] zl (fun d kv wr => ∃ k : Nat, d = zl - k ∧ k ≤ zl ∧ kv = .int .i64 k ∧ Hid (Chg [] w8 wr))
                case atStart => exact ⟨0, rfl, Nat.zero_le _, rfl, Lib.hid (Chg.refl _ _)⟩
                case round =>
                  obtain ⟨k, rfl, hk, rfl, hin3⟩ := hrel
                  obtain ⟨w9, rfl⟩ : ∃ z, z = wr := ⟨_, rfl⟩
                  have hcr := hin3.out.cell HZ.out.2.2 (by simp)
                  by_cases hltk : k < zl
                  · have hkz : k < (X.getD j []).length := by have := HZ.out.2.1; omega
                    obtain ⟨zb, zo, rfl, hzc⟩ := (HZ.out.1.keep hin3.out.kp) k hkz
                    obtain ⟨b, hbe, hbr, hbn⟩ := (row_int HX.out.2.2.1 HV.out.2.2.2.2.2 _).1 (List.getElem_mem hkz)
                    rw [hbe] at hzc
                    have hep := edge_pos HX.out.2.2.1 HV.out.2.2.2.2.2 hbr
                    rw [← HA.out.2.2.2, HV.out.2.1] at hep
                    have hGp := (H8.out.2.tr hin3.out).heap HP.out.1 (by simp)
                    have hbi2 : b < i := by have := HX.out.2.1; omega
                    have y1 := rowI_get hGp hbi2
                    have y2 := rowI_get hGp hltj
                    obtain ⟨vb, hvb⟩ : ∃ v : Int, v = (posN PX b : Int) + 1 := ⟨_, rfl⟩
                    obtain ⟨vj, hvj⟩ : ∃ v : Int, v = (posN PX j : Int) + 1 := ⟨_, rfl⟩
                    rw [← hvb] at y1
                    rw [← hvj] at y2
                    have hGl := lt_of_block hGp
                    have hzl2 := World.block_lt_of_cell? _ _ hzc
                    simp only at hzl2
                    have hbi3 := Nat.lt_of_lt_of_le hbi hin3.out.size
                    have k1 := cell_rg hcr
                    have k2 := cell_rg hzc
                    have k3 := cell_rg y1
                    have k4 := cell_rg y2
                    have HE := Lib.hid (And.intro hep (And.intro hvb hvj))
                    clear hkz hbe hbr hbn hep hGp y1 y2 hvb hvj hzc
                    cases hd : decide (vj ≤ vb) with
                    | false =>
                      go_wp2_with fail
                      refine wp_region_quiet_below (by kernel_rfl) (by kernel_rfl) ?_
                      repeat (go_big_quiet_step (fail))
                      refine wpQuiet_nil ?_
                      intro wD hwD
                      have HD := Lib.hid (hin3.out.tr (chg_of_rg hwD))
                      clear hwD k1 k2 k3 k4 hd
                      go_wp2_with fail
                      go_roundg (zl - (k + 1))
                      case measure => omega
                      case rel => exact ⟨k + 1, rfl, by omega, by go_num, HD⟩
                    | true =>
                      have hcon : (natI V).contains (b : Int) = true := by
                        have h1 := of_decide_eq_true hd
                        have h2 := HE.out.2.1
                        have h3 := HE.out.2.2
                        rcases HE.out.1 with h | h
                        · omega
                        · exact h
                      have cA := calls_rg (w := w9) (fun w' h1 => by
                        have := has14_any w' ta tl tc (natI V) (by rw [natI_len]; exact HV.out.2.2.2.2.1) (by omega) ((H8.out.1.keep hin3.out.kp).keep h1.kp) b
                        rw [hcon] at this
                        exact this)
                      clear hcon
                      go_wp2_with fail
                      refine wp_region_quiet_below (by kernel_rfl) (by kernel_rfl) ?_
                      repeat (go_big_quiet_step (first | (with_reducible exact cA _ _)))
                      refine wpQuiet_nil ?_
                      intro wD hwD
                      have HD := Lib.hid (hin3.out.tr (chg_of_rg hwD))
                      clear hwD k1 k2 k3 k4 hd cA
                      go_wp2_with fail
                      go_roundg (zl - (k + 1))
                      case measure => omega
                      case rel => exact ⟨k + 1, rfl, by omega, by go_num, HD⟩
                  · obtain rfl : k = zl := by omega
                    have hbi3 := Nat.lt_of_lt_of_le hbi hin3.out.size
                    have H9 := Lib.hid (H8.out.2.tr hin3.out)
                    have T9 := Lib.hid (H8.out.1.keep hin3.out.kp)
                    go_wp2_with fail
                    clear hcr hbi3
                    go_loopg [10] (tl - 1) (fun d mv wr => ∃ m : Nat, d = tl - m ∧ 1 ≤ m ∧ (m ≤ tl ∨ m = 1) ∧ mv = .int .i64 m ∧ Hid (Chg [] w9 wr))
                    case atStart => exact ⟨1, rfl, Nat.le_refl _, .inr rfl, rfl, Lib.hid (Chg.refl _ _)⟩
                    case round =>
                      obtain ⟨m', rfl, hm1, hm2, rfl, hin4⟩ := hrel
                      obtain ⟨wE, rfl⟩ : ∃ z, z = wr := ⟨_, rfl⟩
                      by_cases hltm : m' < tl
                      · obtain ⟨q, hq⟩ : ∃ q, m' = q + 1 := ⟨m' - 1, by omega⟩
                        have hmV : m' < V.length := by have := HV.out.2.2.2.2.1; omega
                        have hqV : q < V.length := by omega
                        have hpq := HV.out.2.2.2.1 q (by omega)
                        obtain ⟨a1', ha1⟩ : ∃ a, a = V[m'] := ⟨_, rfl⟩
                        obtain ⟨a0', ha0⟩ : ∃ a, a = V[q] := ⟨_, rfl⟩
                        have hpq1 : posN PX a1' = posN PX a0' + 1 ∧ a0' < a1' := by
                          rw [ha1, ha0]
                          subst hq
                          exact hpq
                        have h1n : a1' < i := by have := HV.out.2.2.1 V[m'] (List.getElem_mem hmV); have := HX.out.2.1; omega
                        have h0n : a0' < i := by have := HV.out.2.2.1 V[q] (List.getElem_mem hqV); have := HX.out.2.1; omega
                        obtain ⟨tb, to, rfl, z1⟩ := (T9.out.keep hin4.out.kp) m' (by rw [natI_len]; exact hmV)
                        obtain ⟨tb', to', et, z0⟩ := (T9.out.keep hin4.out.kp) q (by rw [natI_len]; exact hqV)
                        cases et
                        have e1 : (natI V)[m']'(by rw [natI_len]; exact hmV) = (a1' : Int) := by rw [ha1]; simp only [natI, List.getElem_map]
                        have e0 : (natI V)[q]'(by rw [natI_len]; exact hqV) = (a0' : Int) := by rw [ha0]; simp only [natI, List.getElem_map]
                        rw [e1] at z1
                        rw [e0] at z0
                        have hGp := (H9.out.tr hin4.out).heap HP.out.1 (by simp)
                        have y1 := rowI_get hGp h1n
                        have y0 := rowI_get hGp h0n
                        obtain ⟨v0, hv0⟩ : ∃ v : Int, v = (posN PX a0' : Int) + 1 := ⟨_, rfl⟩
                        have hv1 : (posN PX a1' : Int) + 1 = v0 + 1 := by have := hpq1.1; omega
                        rw [hv1] at y1
                        rw [← hv0] at y0
                        have hF : FlatOk i PX := by rw [HA.out.2.2.2]; exact HX.out.2.2.2.1
                        have hv64 : 0 ≤ v0 ∧ v0 ≤ 64 := by
                          have h5 := List.idxOf_lt_length_iff.2 ((hF.mem a0').2 h0n)
                          rw [hF.len] at h5
                          have h6 : posN PX a0' < i := h5
                          omega
                        have hGl := lt_of_block hGp
                        have htl2 := World.block_lt_of_cell? _ _ z1
                        simp only at htl2
                        have k1 := cell_rg z1
                        have k2 := cell_rg z0
                        have k3 := cell_rg y1
                        have k4 := cell_rg y0
                        have w1' : IntKind.i64.wrap ((m' : Int) - 1) = (q : Int) := by rw [IntWalk.i64_in _ (by omega)]; omega
                        have w1b : (m' : Int) - 1 = (q : Int) := by omega
                        have w2' : IntKind.i64.wrap (v0 + 1) = v0 + 1 := IntWalk.i64_in _ (by omega)
                        have f1 : (v0 + 1 != v0 + 1) = false := by simp
                        have f2 : decide ((a1' : Int) ≤ (a0' : Int)) = false := decide_eq_false (by have := hpq1.2; omega)
                        have f2' : decide (a1' ≤ a0') = false := decide_eq_false (by have := hpq1.2; omega)
                        have f3 : ¬ a1' ≤ a0' := by have := hpq1.2; omega
                        have hqt : q < tl := by omega
                        have HK := Lib.hid hq
                        clear hq hmV hqV hpq ha1 ha0 hpq1 z1 z0 e1 e0 hGp y1 y0 hv0 hv1 hF
                        go_wp2_with fail
                        refine wp_region_quiet_below (by kernel_rfl) (by kernel_rfl) ?_
                        repeat (go_big_quiet_step (fail))
                        refine wpQuiet_nil ?_
                        intro wF hwF
                        have HF := Lib.hid (hin4.out.tr (chg_of_rg hwF))
                        clear hwF k1 k2 k3 k4 w1' w1b w2' f1
                        go_wp2_with fail
                        go_roundg (tl - (m' + 1))
                        case measure => omega
                        case rel => exact ⟨m' + 1, rfl, by omega, .inl (by omega), by go_num, HF⟩
                      · go_wp2_with fail
                        go_roundg (i - (j + 1))
                        case measure => omega
                        case rel => exact ⟨j + 1, rfl, by omega, by go_num, Lib.hid (H9.out.tr hin4.out)⟩
              · obtain rfl : j = i := by omega
                go_wp2_with fail
                go_ret
                exact ⟨rfl, HB.out.2.1.tr (C4.out.tr (HP.out.2.tr hin2.out))⟩
end Go.Proofs.YtlklmpjakeedcaaGreatDoor

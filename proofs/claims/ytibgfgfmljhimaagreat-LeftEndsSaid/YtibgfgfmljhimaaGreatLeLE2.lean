/-
  LeftEnds: what the law computes.
  Conditions: none.
-/
import Derived.Test.YtibgfgfmljhimaaGreatLeLE1
import Derived.Test.YtibgfgfmljhimaaGreatLeLfJ
set_option linter.unusedVariables false
set_option linter.unusedSimpArgs false
set_option linter.unnecessarySimpa false
namespace Go.Proofs.YtibgfgfmljhimaaGreat
open Go.RowKit Go.MapKept Go.Shelf

theorem kinds12 : ∀ i, i < 8 → ∃ k : Int, (#[.int .i64 1, .int .i64 2, .int .i64 8, .int .i64 9, .int .i64 10, .int .i64 11, .int .i64 12, .int .i64 4] : Array Value)[i]? = some (.int .i64 k) ∧ (k = 1 ∨ k = 2 ∨ k = 4 ∨ k = 8 ∨ k = 9 ∨ k = 10 ∨ k = 11 ∨ k = 12) := fun i hi => by
  rcases (show i = 0 ∨ i = 1 ∨ i = 2 ∨ i = 3 ∨ i = 4 ∨ i = 5 ∨ i = 6 ∨ i = 7 by omega) with rfl | rfl | rfl | rfl | rfl | rfl | rfl | rfl <;> exact ⟨_, rfl, by decide⟩

set_option maxRecDepth 100000 in
set_option maxHeartbeats 64000000 in
theorem leftEndsLaw_any (w : World) : Calls Tryz.prog 7 #[] w fun e w' => e = .returned (.bool true) ∧ Chg [] w w' := by
  go_enter Tryz.func7, Tryz.ntmps7
  go_wp2_with fail
  have HK := Lib.hid (heap_alloc_same w (.cells #[.int .i64 1, .int .i64 2, .int .i64 8, .int .i64 9, .int .i64 10, .int .i64 11, .int .i64 12, .int .i64 4] 30))
  have HC0 := Lib.hid ((Chg.refl [] w).alloc (.cells #[.int .i64 1, .int .i64 2, .int .i64 8, .int .i64 9, .int .i64 10, .int .i64 11, .int .i64 12, .int .i64 4] 30))
  obtain ⟨w1, e1⟩ : ∃ w1, w1 = w.alloc (.cells #[.int .i64 1, .int .i64 2, .int .i64 8, .int .i64 9, .int .i64 10, .int .i64 11, .int .i64 12, .int .i64 4] 30) := ⟨_, rfl⟩
  rw [← e1] at HK HC0 ⊢
  clear e1
  go_loopg [2] 8 (fun dd iv wr => ∃ a : Nat, dd = 8 - a ∧ a ≤ 8 ∧ iv = .int .i64 a ∧ Hid (Chg [] w1 wr))
  case atStart => exact ⟨0, rfl, Nat.zero_le _, rfl, Lib.hid (Chg.refl _ _)⟩
  case round =>
    obtain ⟨a, rfl, ha, rfl, hina⟩ := hrel
    obtain ⟨wq, rfl⟩ : ∃ wz, wz = wr := ⟨_, rfl⟩
    by_cases hla : a < 8
    · go_wp2_with fail
      rw [show decide ((a : Int) < 8) = true from decide_eq_true (by omega)]
      go_loopg [3] 8 (fun dd iv wr => ∃ b : Nat, dd = 8 - b ∧ b ≤ 8 ∧ iv = .int .i64 b ∧ Hid (Chg [] w1 wr))
      case atStart => exact ⟨0, rfl, Nat.zero_le _, rfl, hina⟩
      case round =>
        obtain ⟨b, rfl, hb, rfl, hinb⟩ := hrel
        obtain ⟨wp, rfl⟩ : ∃ wz, wz = wr := ⟨_, rfl⟩
        by_cases hlb : b < 8
        · go_wp2_with fail
          rw [show decide ((b : Int) < 8) = true from decide_eq_true (by omega)]
          go_loopg [4] 6 (fun dd iv wr => ∃ c : Nat, dd = 6 - c ∧ c ≤ 6 ∧ iv = .int .i64 c ∧ Hid (Chg [] w1 wr))
          case atStart => exact ⟨0, rfl, Nat.zero_le _, rfl, hinb⟩
          case round =>
            obtain ⟨c, rfl, hc, rfl, hinc⟩ := hrel
            obtain ⟨ws, rfl⟩ : ∃ wz, wz = wr := ⟨_, rfl⟩
            by_cases hlc : c < 6
            · obtain ⟨ka, ga, hka2⟩ := kinds12 a hla
              obtain ⟨kb, gb, hkb2⟩ := kinds12 b hlb
              have hka := (cell_of_cells (hinc.out.heap HK.out (by simp)) a).trans ga
              have hkb := (cell_of_cells (hinc.out.heap HK.out (by simp)) b).trans gb
              have hbi : (b : Int) < 8 := by omega
              have hai : (a : Int) < 8 := by omega
              obtain ⟨i1, hi1, hi1l⟩ : ∃ i1 : Nat, (c : Int) % 3 = i1 ∧ i1 < 3 := ⟨c % 3, by omega, by omega⟩
              have hi1w : IntKind.i64.wrap (i1 : Int) = i1 := IntWalk.i64_in _ (by omega)
              have hi1t : (c : Int).tmod 3 = i1 := by rw [Int.tmod_eq_emod_of_nonneg (by omega)]; exact hi1
              clear ga gb
              go_wp2_with fail
              rw [show decide ((c : Int) < 6) = true from decide_eq_true (by omega)]
              refine wp_region_st (by kernel_rfl) (by kernel_rfl) [22, 23, 24, 25, 26, 27, 28, 29, 30, 31, 32, 33, 34, 5] (by kernel_rfl) (fun rI rV rW => match rI with | 0 => rV = .slice (some ⟨w.heap.size, 0, none⟩) 8 8 | 1 => rV = .int .i64 a | 2 => rV = .pointer (some ⟨w.heap.size, a, none⟩) | 3 => rV = .int .i64 ka | 4 => rV = .slice (some ⟨w.heap.size, 0, none⟩) 8 8 | 5 => rV = .int .i64 b | 6 => rV = .pointer (some ⟨w.heap.size, b, none⟩) | 7 => rV = .int .i64 kb | 8 => rV = .int .i64 c | 9 => rV = .int .i64 i1 | 10 => ∃ r32 n32 c32, rV = .slice r32 n32 c32 ∧ n32 ≤ 1 ∧ FBody rW r32 n32 c32 | 11 => ∃ r33 n33 c33, rV = .slice r33 n33 c33 ∧ n33 ≤ 2 ∧ FBody rW r33 n33 c33 | 12 => ∃ r34 n34 c34, rV = .slice r34 n34 c34 ∧ n34 ≤ 3 ∧ FBody rW r34 n34 c34 | 13 => ∃ r5 n5 c5, rV = .slice r5 n5 c5 ∧ n5 ≤ 3 ∧ FBody rW r5 n5 c5 | _ => True) ?hS14 ?hstep14 ?hdone14
              case hS14 =>
                intro rI rV rW rW' hc rP
                match rI, rP with
                | 0, rP => exact rP
                | 1, rP => exact rP
                | 2, rP => exact rP
                | 3, rP => exact rP
                | 4, rP => exact rP
                | 5, rP => exact rP
                | 6, rP => exact rP
                | 7, rP => exact rP
                | 8, rP => exact rP
                | 9, rP => exact rP
                | 10, rP => exact (by obtain ⟨r32, n32, c32, e9, hp⟩ := rP; exact ⟨r32, n32, c32, e9, ⟨hp.1, hp.2.chg0 hc⟩⟩)
                | 11, rP => exact (by obtain ⟨r33, n33, c33, e9, hp⟩ := rP; exact ⟨r33, n33, c33, e9, ⟨hp.1, hp.2.chg0 hc⟩⟩)
                | 12, rP => exact (by obtain ⟨r34, n34, c34, e9, hp⟩ := rP; exact ⟨r34, n34, c34, e9, ⟨hp.1, hp.2.chg0 hc⟩⟩)
                | 13, rP => exact (by obtain ⟨r5, n5, c5, e9, hp⟩ := rP; exact ⟨r5, n5, c5, e9, ⟨hp.1, hp.2.chg0 hc⟩⟩)
                | _ + 14, _ => trivial
              case hstep14 =>
                intro rI rH us W hC hdep K hK
                have hiN : rI < 14 := rH
                simp only [actU, Act.put, List.setIfInBounds_toArray, List.set_cons_succ, List.set_cons_zero, Nat.reduceAdd] at hK ⊢
                rcases (show rI = 0 ∨ rI = 1 ∨ rI = 2 ∨ rI = 3 ∨ rI = 4 ∨ rI = 5 ∨ rI = 6 ∨ rI = 7 ∨ rI = 8 ∨ rI = 9 ∨ rI = 10 ∨ rI = 11 ∨ rI = 12 ∨ rI = 13 by omega) with rfl | rfl | rfl | rfl | rfl | rfl | rfl | rfl | rfl | rfl | rfl | rfl | rfl | rfl
                · simp only [List.getD_cons_succ, List.getD_cons_zero, List.setIfInBounds_toArray, List.set_cons_succ, List.set_cons_zero] at hK ⊢
                  refine wpOp_at rfl rfl ?_
                  go_simp
                  exact hK _ _ _ rfl (Chg.refl _ _) rfl
                · simp only [List.getD_cons_succ, List.getD_cons_zero, List.setIfInBounds_toArray, List.set_cons_succ, List.set_cons_zero] at hK ⊢
                  refine wpOp_at rfl rfl ?_
                  go_simp
                  exact hK _ _ _ rfl (Chg.refl _ _) rfl
                · have l0 := hdep 0 (by kernel_rfl)
                  replace l0 : us 0 = .slice (some ⟨w.heap.size, 0, none⟩) 8 8 := l0
                  have l1 := hdep 1 (by kernel_rfl)
                  replace l1 : us 1 = .int .i64 a := l1
                  simp only [List.getD_cons_succ, List.getD_cons_zero, List.setIfInBounds_toArray, List.set_cons_succ, List.set_cons_zero, l0, l1] at hK ⊢
                  refine wpOp_at rfl rfl ?_
                  go_simp
                  exact hK _ _ _ rfl (Chg.refl _ _) rfl
                · have l2 := hdep 2 (by kernel_rfl)
                  replace l2 : us 2 = .pointer (some ⟨w.heap.size, a, none⟩) := l2
                  simp only [List.getD_cons_succ, List.getD_cons_zero, List.setIfInBounds_toArray, List.set_cons_succ, List.set_cons_zero, l2] at hK ⊢
                  refine wpOp_at rfl rfl ?_
                  have hce := hC.cell hka (by simp)
                  go_simp
                  exact hK _ _ _ rfl (Chg.refl _ _) rfl
                · simp only [List.getD_cons_succ, List.getD_cons_zero, List.setIfInBounds_toArray, List.set_cons_succ, List.set_cons_zero] at hK ⊢
                  refine wpOp_at rfl rfl ?_
                  go_simp
                  exact hK _ _ _ rfl (Chg.refl _ _) rfl
                · simp only [List.getD_cons_succ, List.getD_cons_zero, List.setIfInBounds_toArray, List.set_cons_succ, List.set_cons_zero] at hK ⊢
                  refine wpOp_at rfl rfl ?_
                  go_simp
                  exact hK _ _ _ rfl (Chg.refl _ _) rfl
                · have l4 := hdep 4 (by kernel_rfl)
                  replace l4 : us 4 = .slice (some ⟨w.heap.size, 0, none⟩) 8 8 := l4
                  have l5 := hdep 5 (by kernel_rfl)
                  replace l5 : us 5 = .int .i64 b := l5
                  simp only [List.getD_cons_succ, List.getD_cons_zero, List.setIfInBounds_toArray, List.set_cons_succ, List.set_cons_zero, l4, l5] at hK ⊢
                  refine wpOp_at rfl rfl ?_
                  go_simp
                  exact hK _ _ _ rfl (Chg.refl _ _) rfl
                · have l6 := hdep 6 (by kernel_rfl)
                  replace l6 : us 6 = .pointer (some ⟨w.heap.size, b, none⟩) := l6
                  simp only [List.getD_cons_succ, List.getD_cons_zero, List.setIfInBounds_toArray, List.set_cons_succ, List.set_cons_zero, l6] at hK ⊢
                  refine wpOp_at rfl rfl ?_
                  have hce := hC.cell hkb (by simp)
                  go_simp
                  exact hK _ _ _ rfl (Chg.refl _ _) rfl
                · simp only [List.getD_cons_succ, List.getD_cons_zero, List.setIfInBounds_toArray, List.set_cons_succ, List.set_cons_zero] at hK ⊢
                  refine wpOp_at rfl rfl ?_
                  go_simp
                  exact hK _ _ _ rfl (Chg.refl _ _) rfl
                · have l8 := hdep 8 (by kernel_rfl)
                  replace l8 : us 8 = .int .i64 c := l8
                  simp only [List.getD_cons_succ, List.getD_cons_zero, List.setIfInBounds_toArray, List.set_cons_succ, List.set_cons_zero, l8] at hK ⊢
                  refine wpOp_at rfl rfl ?_
                  go_simp
                  exact hK _ _ _ rfl (Chg.refl _ _) rfl
                · have l9 := hdep 9 (by kernel_rfl)
                  replace l9 : us 9 = .int .i64 i1 := l9
                  simp only [List.getD_cons_succ, List.getD_cons_zero, List.setIfInBounds_toArray, List.set_cons_succ, List.set_cons_zero, l9] at hK ⊢
                  refine wpOp_at rfl rfl ?_
                  go_simp
                  refine (Call_fit W _ _ (by constructor <;> omega) (by decide)).mono ?_
                  rintro e wz ⟨r32, n32, c32, rfl, m32, f32, hz⟩
                  exact hK _ _ _ rfl hz ⟨r32, n32, c32, rfl, ⟨m32, f32⟩⟩
                · have l7 := hdep 7 (by kernel_rfl)
                  replace l7 : us 7 = .int .i64 kb := l7
                  have l10 := hdep 10 (by kernel_rfl)
                  obtain ⟨r32, n32, c32, l10, p10⟩ := l10
                  simp only [List.getD_cons_succ, List.getD_cons_zero, List.setIfInBounds_toArray, List.set_cons_succ, List.set_cons_zero, l7, l10] at hK ⊢
                  refine wpOp_at rfl rfl ?_
                  go_simp
                  refine (over12_any W kb hkb2 r32 n32 c32 p10.2 (by have := p10.1; omega)).mono ?_
                  rintro e wz ⟨r33, n33, c33, rfl, m33, f33, hz⟩
                  exact hK _ _ _ rfl hz ⟨r33, n33, c33, rfl, ⟨by have := p10.1; omega, f33⟩⟩
                · have l3 := hdep 3 (by kernel_rfl)
                  replace l3 : us 3 = .int .i64 ka := l3
                  have l11 := hdep 11 (by kernel_rfl)
                  obtain ⟨r33, n33, c33, l11, p11⟩ := l11
                  simp only [List.getD_cons_succ, List.getD_cons_zero, List.setIfInBounds_toArray, List.set_cons_succ, List.set_cons_zero, l3, l11] at hK ⊢
                  refine wpOp_at rfl rfl ?_
                  go_simp
                  refine (over12_any W ka hka2 r33 n33 c33 p11.2 (by have := p11.1; omega)).mono ?_
                  rintro e wz ⟨r34, n34, c34, rfl, m34, f34, hz⟩
                  exact hK _ _ _ rfl hz ⟨r34, n34, c34, rfl, ⟨by have := p11.1; omega, f34⟩⟩
                · have l12 := hdep 12 (by kernel_rfl)
                  obtain ⟨r34, n34, c34, l12, p12⟩ := l12
                  simp only [List.getD_cons_succ, List.getD_cons_zero, List.setIfInBounds_toArray, List.set_cons_succ, List.set_cons_zero, l12] at hK ⊢
                  refine wpOp_at rfl rfl ?_
                  go_simp
                  exact hK _ _ _ rfl (Chg.refl _ _) ⟨r34, n34, c34, rfl, p12⟩
              case hdone14 =>
                intro us W hC hall
                have l0 := hall 0 (by decide)
                replace l0 : us 0 = .slice (some ⟨w.heap.size, 0, none⟩) 8 8 := l0
                have l1 := hall 1 (by decide)
                replace l1 : us 1 = .int .i64 a := l1
                have l2 := hall 2 (by decide)
                replace l2 : us 2 = .pointer (some ⟨w.heap.size, a, none⟩) := l2
                have l3 := hall 3 (by decide)
                replace l3 : us 3 = .int .i64 ka := l3
                have l4 := hall 4 (by decide)
                replace l4 : us 4 = .slice (some ⟨w.heap.size, 0, none⟩) 8 8 := l4
                have l5 := hall 5 (by decide)
                replace l5 : us 5 = .int .i64 b := l5
                have l6 := hall 6 (by decide)
                replace l6 : us 6 = .pointer (some ⟨w.heap.size, b, none⟩) := l6
                have l7 := hall 7 (by decide)
                replace l7 : us 7 = .int .i64 kb := l7
                have l8 := hall 8 (by decide)
                replace l8 : us 8 = .int .i64 c := l8
                have l9 := hall 9 (by decide)
                replace l9 : us 9 = .int .i64 i1 := l9
                have l10 := hall 10 (by decide)
                obtain ⟨r32, n32, c32, l10, p10⟩ := l10
                have l11 := hall 11 (by decide)
                obtain ⟨r33, n33, c33, l11, p11⟩ := l11
                have l12 := hall 12 (by decide)
                obtain ⟨r34, n34, c34, l12, p12⟩ := l12
                have l13 := hall 13 (by decide)
                obtain ⟨r5, n5, c5, l13, p13⟩ := l13
                simp only [actU, Act.put, List.setIfInBounds_toArray, List.set_cons_succ, List.set_cons_zero, Nat.reduceAdd, l0, l1, l2, l3, l4, l5, l6, l7, l8, l9, l10, l11, l12, l13]
                clear hall l0 l1 l2 l3 l4 l5 l6 l7 l8 l9 l10 l11 l12 l13
                have HS := Lib.hid (And.intro (hinc.out.tr hC) p13)
                have hm5 : n5 ≤ 3 := p13.1
                clear p10 p11 p12 p13 hka hkb hka2 hkb2 hC
                obtain ⟨wt, rfl⟩ : ∃ wz, wz = W := ⟨_, rfl⟩
                go_wp2_with fail
                refine (Call_fit _ _ _ (by decide) (by decide)).mono ?_
                rintro e wa ⟨ra, na, ca, rfl, ma, fa, h1⟩
                have HA := Lib.hid (And.intro (HS.out.1.tr h1) (And.intro (HS.out.2.2.chg0 h1) fa))
                clear h1 fa
                go_wp2_with fail
                refine (Call_fit _ _ _ (by decide) (by decide)).mono ?_
                rintro e wb ⟨rb, nb, cb, rfl, mb, fb, h1⟩
                have HB := Lib.hid (And.intro (HA.out.1.tr h1) (And.intro (HA.out.2.1.chg0 h1) (And.intro (HA.out.2.2.chg0 h1) fb)))
                clear h1 fb
                go_wp2_with fail
                have hca := (Chg.refl [] wb).alloc (.cells #[.slice r5 n5 c5, .slice ra na ca, .slice rb nb cb] 23)
                have hbb := heap_alloc_same wb (.cells #[.slice r5 n5 c5, .slice ra na ca, .slice rb nb cb] 23)
                obtain ⟨wu, eu⟩ : ∃ wu, wu = wb.alloc (.cells #[.slice r5 n5 c5, .slice ra na ca, .slice rb nb cb] 23) := ⟨_, rfl⟩
                rw [← eu] at hca hbb ⊢
                obtain ⟨B6, hB6⟩ : ∃ B6, B6 = wb.heap.size := ⟨_, rfl⟩
                rw [← hB6] at hbb ⊢
                have hpk : ∀ t, t < 3 → ∃ a n c, wu.cell? ⟨B6, t, none⟩ = some (.slice a n c) ∧ n ≤ 3 ∧ FBody wu a n c := fun t ht => by
                  rcases (show t = 0 ∨ t = 1 ∨ t = 2 by omega) with rfl | rfl | rfl
                  · exact ⟨_, _, _, cell_of_cells hbb 0, hm5, HB.out.2.1.chg0 hca⟩
                  · exact ⟨_, _, _, cell_of_cells hbb 1, by omega, HB.out.2.2.1.chg0 hca⟩
                  · exact ⟨_, _, _, cell_of_cells hbb 2, by omega, HB.out.2.2.2.chg0 hca⟩
                obtain ⟨cq, hcq, hcq1⟩ : ∃ cq : Nat, (c : Int) / 3 = cq ∧ cq ≤ 1 ∧ cq = c / 3 := ⟨c / 3, by omega, by omega, rfl⟩
                obtain ⟨i2, hi2, hi2l⟩ : ∃ i2 : Nat, ((c : Int) + 1 + cq) % 3 = i2 ∧ i2 < 3 := ⟨(c + 1 + cq) % 3, by omega, by omega⟩
                obtain ⟨i3, hi3, hi3l⟩ : ∃ i3 : Nat, ((c : Int) + 2 - cq) % 3 = i3 ∧ i3 < 3 := ⟨(((c : Int) + 2 - cq) % 3).toNat, by omega, by omega⟩
                obtain ⟨ax, nx, cx, px, qx, fx⟩ := hpk i1 hi1l
                obtain ⟨ay, ny, cy, py, qy, fy⟩ := hpk i2 hi2l
                obtain ⟨az, nz, cz, pz, qz, fz⟩ := hpk i3 hi3l
                have HP := Lib.hid (And.intro px (And.intro py (And.intro pz (And.intro (And.intro qx fx) (And.intro (And.intro qy fy) (And.intro qz fz))))))
                have HU := Lib.hid (And.intro (HB.out.1.tr hca) (HB.out.2.1.chg0 hca))
                have hw1 : IntKind.i64.wrap ((c : Int) + 1) = (c : Int) + 1 := IntWalk.i64_in _ (by omega)
                have hw2 : IntKind.i64.wrap ((c : Int) + 1 + cq) = (c : Int) + 1 + cq := IntWalk.i64_in _ (by omega)
                have hw3 : IntKind.i64.wrap (cq : Int) = cq := IntWalk.i64_in _ (by omega)
                have hw4 : IntKind.i64.wrap ((c : Int) + 2) = (c : Int) + 2 := IntWalk.i64_in _ (by omega)
                have hw5 : IntKind.i64.wrap ((c : Int) + 2 - cq) = (c : Int) + 2 - cq := IntWalk.i64_in _ (by omega)
                have hw6 : IntKind.i64.wrap (i2 : Int) = i2 := IntWalk.i64_in _ (by omega)
                have hw7 : IntKind.i64.wrap (i3 : Int) = i3 := IntWalk.i64_in _ (by omega)
                have hl1 : (i1 : Int) < 3 := by omega
                have hi2t : ((c : Int) + 1 + cq).tmod 3 = i2 := by rw [Int.tmod_eq_emod_of_nonneg (by omega)]; exact hi2
                have hi3t : ((c : Int) + 2 - cq).tmod 3 = i3 := by rw [Int.tmod_eq_emod_of_nonneg (by omega)]; exact hi3
                have hl2 : (i2 : Int) < 3 := by omega
                have hl3 : (i3 : Int) < 3 := by omega
                clear px py pz qx qy qz fx fy fz hca hbb eu hB6 hpk hcq1
                go_wp2_with fail
                refine wp_region_st (by kernel_rfl) (by kernel_rfl) [39, 40, 41, 42, 43, 44, 45, 46, 47, 48, 49, 50, 51, 52, 53, 54, 55, 56, 57, 58, 59, 60, 61, 62, 63, 7] (by kernel_rfl) (fun rI rV rW => match rI with | 0 => rV = .slice (some ⟨B6, 0, none⟩) 3 3 | 1 => rV = .int .i64 c | 2 => rV = .int .i64 i1 | 3 => rV = .pointer (some ⟨B6, i1, none⟩) | 4 => rV = .slice ax nx cx | 5 => rV = .slice (some ⟨B6, 0, none⟩) 3 3 | 6 => rV = .int .i64 c | 7 => rV = .int .i64 ((c : Int) + 1) | 8 => rV = .int .i64 c | 9 => rV = .int .i64 cq | 10 => rV = .int .i64 ((c : Int) + 1 + cq) | 11 => rV = .int .i64 i2 | 12 => rV = .pointer (some ⟨B6, i2, none⟩) | 13 => rV = .slice ay ny cy | 14 => rV = .slice (some ⟨B6, 0, none⟩) 3 3 | 15 => rV = .int .i64 c | 16 => rV = .int .i64 ((c : Int) + 2) | 17 => rV = .int .i64 c | 18 => rV = .int .i64 cq | 19 => rV = .int .i64 ((c : Int) + 2 - cq) | 20 => rV = .int .i64 i3 | 21 => rV = .pointer (some ⟨B6, i3, none⟩) | 22 => rV = .slice az nz cz | 23 => ∃ b62, rV = .slice (some ⟨b62, 0, none⟩) 3 3 ∧ rW.heap[b62]? = some (.cells #[.slice ax nx cx, .slice ay ny cy, .slice az nz cz] 23 (0, 0)) | 24 => ∃ r63 n63 c63, rV = .slice r63 n63 c63 ∧ n63 ≤ 10 ∧ FBody rW r63 n63 c63 | 25 => ∃ r7 n7 c7, rV = .slice r7 n7 c7 ∧ n7 ≤ 10 ∧ FBody rW r7 n7 c7 | _ => True) ?hS16 ?hstep16 ?hdone16
                case hS16 =>
                  intro rI rV rW rW' hc rP
                  match rI, rP with
                  | 0, rP => exact rP
                  | 1, rP => exact rP
                  | 2, rP => exact rP
                  | 3, rP => exact rP
                  | 4, rP => exact rP
                  | 5, rP => exact rP
                  | 6, rP => exact rP
                  | 7, rP => exact rP
                  | 8, rP => exact rP
                  | 9, rP => exact rP
                  | 10, rP => exact rP
                  | 11, rP => exact rP
                  | 12, rP => exact rP
                  | 13, rP => exact rP
                  | 14, rP => exact rP
                  | 15, rP => exact rP
                  | 16, rP => exact rP
                  | 17, rP => exact rP
                  | 18, rP => exact rP
                  | 19, rP => exact rP
                  | 20, rP => exact rP
                  | 21, rP => exact rP
                  | 22, rP => exact rP
                  | 23, rP => exact (by obtain ⟨b62, e9, hp⟩ := rP; exact ⟨b62, e9, hc.heap hp (by simp)⟩)
                  | 24, rP => exact (by obtain ⟨r63, n63, c63, e9, hp⟩ := rP; exact ⟨r63, n63, c63, e9, ⟨hp.1, hp.2.chg0 hc⟩⟩)
                  | 25, rP => exact (by obtain ⟨r7, n7, c7, e9, hp⟩ := rP; exact ⟨r7, n7, c7, e9, ⟨hp.1, hp.2.chg0 hc⟩⟩)
                  | _ + 26, _ => trivial
                case hstep16 =>
                  intro rI rH us W hC hdep K hK
                  have hiN : rI < 26 := rH
                  simp only [actU, Act.put, List.setIfInBounds_toArray, List.set_cons_succ, List.set_cons_zero, Nat.reduceAdd] at hK ⊢
                  rcases (show rI = 0 ∨ rI = 1 ∨ rI = 2 ∨ rI = 3 ∨ rI = 4 ∨ rI = 5 ∨ rI = 6 ∨ rI = 7 ∨ rI = 8 ∨ rI = 9 ∨ rI = 10 ∨ rI = 11 ∨ rI = 12 ∨ rI = 13 ∨ rI = 14 ∨ rI = 15 ∨ rI = 16 ∨ rI = 17 ∨ rI = 18 ∨ rI = 19 ∨ rI = 20 ∨ rI = 21 ∨ rI = 22 ∨ rI = 23 ∨ rI = 24 ∨ rI = 25 by omega) with rfl | rfl | rfl | rfl | rfl | rfl | rfl | rfl | rfl | rfl | rfl | rfl | rfl | rfl | rfl | rfl | rfl | rfl | rfl | rfl | rfl | rfl | rfl | rfl | rfl | rfl
                  · simp only [List.getD_cons_succ, List.getD_cons_zero, List.setIfInBounds_toArray, List.set_cons_succ, List.set_cons_zero] at hK ⊢
                    refine wpOp_at rfl rfl ?_
                    go_simp
                    exact hK _ _ _ rfl (Chg.refl _ _) rfl
                  · simp only [List.getD_cons_succ, List.getD_cons_zero, List.setIfInBounds_toArray, List.set_cons_succ, List.set_cons_zero] at hK ⊢
                    refine wpOp_at rfl rfl ?_
                    go_simp
                    exact hK _ _ _ rfl (Chg.refl _ _) rfl
                  · have l1 := hdep 1 (by kernel_rfl)
                    replace l1 : us 1 = .int .i64 c := l1
                    simp only [List.getD_cons_succ, List.getD_cons_zero, List.setIfInBounds_toArray, List.set_cons_succ, List.set_cons_zero, l1] at hK ⊢
                    refine wpOp_at rfl rfl ?_
                    go_simp
                    exact hK _ _ _ rfl (Chg.refl _ _) rfl
                  · have l0 := hdep 0 (by kernel_rfl)
                    replace l0 : us 0 = .slice (some ⟨B6, 0, none⟩) 3 3 := l0
                    have l2 := hdep 2 (by kernel_rfl)
                    replace l2 : us 2 = .int .i64 i1 := l2
                    simp only [List.getD_cons_succ, List.getD_cons_zero, List.setIfInBounds_toArray, List.set_cons_succ, List.set_cons_zero, l0, l2] at hK ⊢
                    refine wpOp_at rfl rfl ?_
                    go_simp
                    exact hK _ _ _ rfl (Chg.refl _ _) rfl
                  · have l3 := hdep 3 (by kernel_rfl)
                    replace l3 : us 3 = .pointer (some ⟨B6, i1, none⟩) := l3
                    simp only [List.getD_cons_succ, List.getD_cons_zero, List.setIfInBounds_toArray, List.set_cons_succ, List.set_cons_zero, l3] at hK ⊢
                    refine wpOp_at rfl rfl ?_
                    have hce := hC.cell HP.out.1 (by simp)
                    go_simp
                    exact hK _ _ _ rfl (Chg.refl _ _) rfl
                  · simp only [List.getD_cons_succ, List.getD_cons_zero, List.setIfInBounds_toArray, List.set_cons_succ, List.set_cons_zero] at hK ⊢
                    refine wpOp_at rfl rfl ?_
                    go_simp
                    exact hK _ _ _ rfl (Chg.refl _ _) rfl
                  · simp only [List.getD_cons_succ, List.getD_cons_zero, List.setIfInBounds_toArray, List.set_cons_succ, List.set_cons_zero] at hK ⊢
                    refine wpOp_at rfl rfl ?_
                    go_simp
                    exact hK _ _ _ rfl (Chg.refl _ _) rfl
                  · have l6 := hdep 6 (by kernel_rfl)
                    replace l6 : us 6 = .int .i64 c := l6
                    simp only [List.getD_cons_succ, List.getD_cons_zero, List.setIfInBounds_toArray, List.set_cons_succ, List.set_cons_zero, l6] at hK ⊢
                    refine wpOp_at rfl rfl ?_
                    go_simp
                    exact hK _ _ _ rfl (Chg.refl _ _) rfl
                  · simp only [List.getD_cons_succ, List.getD_cons_zero, List.setIfInBounds_toArray, List.set_cons_succ, List.set_cons_zero] at hK ⊢
                    refine wpOp_at rfl rfl ?_
                    go_simp
                    exact hK _ _ _ rfl (Chg.refl _ _) rfl
                  · have l8 := hdep 8 (by kernel_rfl)
                    replace l8 : us 8 = .int .i64 c := l8
                    simp only [List.getD_cons_succ, List.getD_cons_zero, List.setIfInBounds_toArray, List.set_cons_succ, List.set_cons_zero, l8] at hK ⊢
                    refine wpOp_at rfl rfl ?_
                    go_simp
                    exact hK _ _ _ rfl (Chg.refl _ _) rfl
                  · have l7 := hdep 7 (by kernel_rfl)
                    replace l7 : us 7 = .int .i64 ((c : Int) + 1) := l7
                    have l9 := hdep 9 (by kernel_rfl)
                    replace l9 : us 9 = .int .i64 cq := l9
                    simp only [List.getD_cons_succ, List.getD_cons_zero, List.setIfInBounds_toArray, List.set_cons_succ, List.set_cons_zero, l7, l9] at hK ⊢
                    refine wpOp_at rfl rfl ?_
                    go_simp
                    exact hK _ _ _ rfl (Chg.refl _ _) rfl
                  · have l10 := hdep 10 (by kernel_rfl)
                    replace l10 : us 10 = .int .i64 ((c : Int) + 1 + cq) := l10
                    simp only [List.getD_cons_succ, List.getD_cons_zero, List.setIfInBounds_toArray, List.set_cons_succ, List.set_cons_zero, l10] at hK ⊢
                    refine wpOp_at rfl rfl ?_
                    go_simp
                    exact hK _ _ _ rfl (Chg.refl _ _) rfl
                  · have l5 := hdep 5 (by kernel_rfl)
                    replace l5 : us 5 = .slice (some ⟨B6, 0, none⟩) 3 3 := l5
                    have l11 := hdep 11 (by kernel_rfl)
                    replace l11 : us 11 = .int .i64 i2 := l11
                    simp only [List.getD_cons_succ, List.getD_cons_zero, List.setIfInBounds_toArray, List.set_cons_succ, List.set_cons_zero, l5, l11] at hK ⊢
                    refine wpOp_at rfl rfl ?_
                    go_simp
                    exact hK _ _ _ rfl (Chg.refl _ _) rfl
                  · have l12 := hdep 12 (by kernel_rfl)
                    replace l12 : us 12 = .pointer (some ⟨B6, i2, none⟩) := l12
                    simp only [List.getD_cons_succ, List.getD_cons_zero, List.setIfInBounds_toArray, List.set_cons_succ, List.set_cons_zero, l12] at hK ⊢
                    refine wpOp_at rfl rfl ?_
                    have hce := hC.cell HP.out.2.1 (by simp)
                    go_simp
                    exact hK _ _ _ rfl (Chg.refl _ _) rfl
                  · simp only [List.getD_cons_succ, List.getD_cons_zero, List.setIfInBounds_toArray, List.set_cons_succ, List.set_cons_zero] at hK ⊢
                    refine wpOp_at rfl rfl ?_
                    go_simp
                    exact hK _ _ _ rfl (Chg.refl _ _) rfl
                  · simp only [List.getD_cons_succ, List.getD_cons_zero, List.setIfInBounds_toArray, List.set_cons_succ, List.set_cons_zero] at hK ⊢
                    refine wpOp_at rfl rfl ?_
                    go_simp
                    exact hK _ _ _ rfl (Chg.refl _ _) rfl
                  · have l15 := hdep 15 (by kernel_rfl)
                    replace l15 : us 15 = .int .i64 c := l15
                    simp only [List.getD_cons_succ, List.getD_cons_zero, List.setIfInBounds_toArray, List.set_cons_succ, List.set_cons_zero, l15] at hK ⊢
                    refine wpOp_at rfl rfl ?_
                    go_simp
                    exact hK _ _ _ rfl (Chg.refl _ _) rfl
                  · simp only [List.getD_cons_succ, List.getD_cons_zero, List.setIfInBounds_toArray, List.set_cons_succ, List.set_cons_zero] at hK ⊢
                    refine wpOp_at rfl rfl ?_
                    go_simp
                    exact hK _ _ _ rfl (Chg.refl _ _) rfl
                  · have l17 := hdep 17 (by kernel_rfl)
                    replace l17 : us 17 = .int .i64 c := l17
                    simp only [List.getD_cons_succ, List.getD_cons_zero, List.setIfInBounds_toArray, List.set_cons_succ, List.set_cons_zero, l17] at hK ⊢
                    refine wpOp_at rfl rfl ?_
                    go_simp
                    exact hK _ _ _ rfl (Chg.refl _ _) rfl
                  · have l16 := hdep 16 (by kernel_rfl)
                    replace l16 : us 16 = .int .i64 ((c : Int) + 2) := l16
                    have l18 := hdep 18 (by kernel_rfl)
                    replace l18 : us 18 = .int .i64 cq := l18
                    simp only [List.getD_cons_succ, List.getD_cons_zero, List.setIfInBounds_toArray, List.set_cons_succ, List.set_cons_zero, l16, l18] at hK ⊢
                    refine wpOp_at rfl rfl ?_
                    go_simp
                    exact hK _ _ _ rfl (Chg.refl _ _) rfl
                  · have l19 := hdep 19 (by kernel_rfl)
                    replace l19 : us 19 = .int .i64 ((c : Int) + 2 - cq) := l19
                    simp only [List.getD_cons_succ, List.getD_cons_zero, List.setIfInBounds_toArray, List.set_cons_succ, List.set_cons_zero, l19] at hK ⊢
                    refine wpOp_at rfl rfl ?_
                    go_simp
                    exact hK _ _ _ rfl (Chg.refl _ _) rfl
                  · have l14 := hdep 14 (by kernel_rfl)
                    replace l14 : us 14 = .slice (some ⟨B6, 0, none⟩) 3 3 := l14
                    have l20 := hdep 20 (by kernel_rfl)
                    replace l20 : us 20 = .int .i64 i3 := l20
                    simp only [List.getD_cons_succ, List.getD_cons_zero, List.setIfInBounds_toArray, List.set_cons_succ, List.set_cons_zero, l14, l20] at hK ⊢
                    refine wpOp_at rfl rfl ?_
                    go_simp
                    exact hK _ _ _ rfl (Chg.refl _ _) rfl
                  · have l21 := hdep 21 (by kernel_rfl)
                    replace l21 : us 21 = .pointer (some ⟨B6, i3, none⟩) := l21
                    simp only [List.getD_cons_succ, List.getD_cons_zero, List.setIfInBounds_toArray, List.set_cons_succ, List.set_cons_zero, l21] at hK ⊢
                    refine wpOp_at rfl rfl ?_
                    have hce := hC.cell HP.out.2.2.1 (by simp)
                    go_simp
                    exact hK _ _ _ rfl (Chg.refl _ _) rfl
                  · have l4 := hdep 4 (by kernel_rfl)
                    replace l4 : us 4 = .slice ax nx cx := l4
                    have l13 := hdep 13 (by kernel_rfl)
                    replace l13 : us 13 = .slice ay ny cy := l13
                    have l22 := hdep 22 (by kernel_rfl)
                    replace l22 : us 22 = .slice az nz cz := l22
                    simp only [List.getD_cons_succ, List.getD_cons_zero, List.setIfInBounds_toArray, List.set_cons_succ, List.set_cons_zero, l4, l13, l22] at hK ⊢
                    refine wpOp_at rfl rfl ?_
                    go_simp
                    exact hK _ _ _ rfl ((Chg.refl _ _).alloc _) ⟨W.heap.size, rfl, heap_alloc_same _ _⟩
                  · have l23 := hdep 23 (by kernel_rfl)
                    obtain ⟨b62, l23, p23⟩ := l23
                    simp only [List.getD_cons_succ, List.getD_cons_zero, List.setIfInBounds_toArray, List.set_cons_succ, List.set_cons_zero, l23] at hK ⊢
                    refine wpOp_at rfl rfl ?_
                    go_simp
                    refine (Of3_fit W 6 (by decide) ax nx cx (HP.out.2.2.2.1.2.chg0 hC) ay ny cy (HP.out.2.2.2.2.1.2.chg0 hC) az nz cz (HP.out.2.2.2.2.2.2.chg0 hC) (by have := HP.out.2.2.2.1.1; have := HP.out.2.2.2.2.1.1; have := HP.out.2.2.2.2.2.1; omega) p23).mono ?_
                    rintro e wz ⟨r63, n63, c63, rfl, m63, f63, hz⟩
                    exact hK _ _ _ rfl hz ⟨r63, n63, c63, rfl, ⟨by have := HP.out.2.2.2.1.1; have := HP.out.2.2.2.2.1.1; have := HP.out.2.2.2.2.2.1; omega, f63⟩⟩
                  · have l24 := hdep 24 (by kernel_rfl)
                    obtain ⟨r63, n63, c63, l24, p24⟩ := l24
                    simp only [List.getD_cons_succ, List.getD_cons_zero, List.setIfInBounds_toArray, List.set_cons_succ, List.set_cons_zero, l24] at hK ⊢
                    refine wpOp_at rfl rfl ?_
                    go_simp
                    exact hK _ _ _ rfl (Chg.refl _ _) ⟨r63, n63, c63, rfl, p24⟩
                case hdone16 =>
                  intro us W hC hall
                  have l0 := hall 0 (by decide)
                  replace l0 : us 0 = .slice (some ⟨B6, 0, none⟩) 3 3 := l0
                  have l1 := hall 1 (by decide)
                  replace l1 : us 1 = .int .i64 c := l1
                  have l2 := hall 2 (by decide)
                  replace l2 : us 2 = .int .i64 i1 := l2
                  have l3 := hall 3 (by decide)
                  replace l3 : us 3 = .pointer (some ⟨B6, i1, none⟩) := l3
                  have l4 := hall 4 (by decide)
                  replace l4 : us 4 = .slice ax nx cx := l4
                  have l5 := hall 5 (by decide)
                  replace l5 : us 5 = .slice (some ⟨B6, 0, none⟩) 3 3 := l5
                  have l6 := hall 6 (by decide)
                  replace l6 : us 6 = .int .i64 c := l6
                  have l7 := hall 7 (by decide)
                  replace l7 : us 7 = .int .i64 ((c : Int) + 1) := l7
                  have l8 := hall 8 (by decide)
                  replace l8 : us 8 = .int .i64 c := l8
                  have l9 := hall 9 (by decide)
                  replace l9 : us 9 = .int .i64 cq := l9
                  have l10 := hall 10 (by decide)
                  replace l10 : us 10 = .int .i64 ((c : Int) + 1 + cq) := l10
                  have l11 := hall 11 (by decide)
                  replace l11 : us 11 = .int .i64 i2 := l11
                  have l12 := hall 12 (by decide)
                  replace l12 : us 12 = .pointer (some ⟨B6, i2, none⟩) := l12
                  have l13 := hall 13 (by decide)
                  replace l13 : us 13 = .slice ay ny cy := l13
                  have l14 := hall 14 (by decide)
                  replace l14 : us 14 = .slice (some ⟨B6, 0, none⟩) 3 3 := l14
                  have l15 := hall 15 (by decide)
                  replace l15 : us 15 = .int .i64 c := l15
                  have l16 := hall 16 (by decide)
                  replace l16 : us 16 = .int .i64 ((c : Int) + 2) := l16
                  have l17 := hall 17 (by decide)
                  replace l17 : us 17 = .int .i64 c := l17
                  have l18 := hall 18 (by decide)
                  replace l18 : us 18 = .int .i64 cq := l18
                  have l19 := hall 19 (by decide)
                  replace l19 : us 19 = .int .i64 ((c : Int) + 2 - cq) := l19
                  have l20 := hall 20 (by decide)
                  replace l20 : us 20 = .int .i64 i3 := l20
                  have l21 := hall 21 (by decide)
                  replace l21 : us 21 = .pointer (some ⟨B6, i3, none⟩) := l21
                  have l22 := hall 22 (by decide)
                  replace l22 : us 22 = .slice az nz cz := l22
                  have l23 := hall 23 (by decide)
                  obtain ⟨b62, l23, p23⟩ := l23
                  have l24 := hall 24 (by decide)
                  obtain ⟨r63, n63, c63, l24, p24⟩ := l24
                  have l25 := hall 25 (by decide)
                  obtain ⟨r7, n7, c7, l25, p25⟩ := l25
                  simp only [actU, Act.put, List.setIfInBounds_toArray, List.set_cons_succ, List.set_cons_zero, Nat.reduceAdd, l0, l1, l2, l3, l4, l5, l6, l7, l8, l9, l10, l11, l12, l13, l14, l15, l16, l17, l18, l19, l20, l21, l22, l23, l24, l25]
                  clear hall l0 l1 l2 l3 l4 l5 l6 l7 l8 l9 l10 l11 l12 l13 l14 l15 l16 l17 l18 l19 l20 l21 l22 l23 l24 l25
                  have HV := Lib.hid (And.intro (HU.out.1.tr hC) (And.intro (HU.out.2.chg0 hC) p25.2))
                  have hm7 : n7 ≤ 10 := p25.1
                  clear hi2t hi3t p23 p24 p25 hC hw1 hw2 hw3 hw4 hw5 hw6 hw7 hi2 hi3 hcq hi2l hi3l hl2 hl3
                  obtain ⟨wv, rfl⟩ : ∃ wz, wz = W := ⟨_, rfl⟩
                  go_wp2_with fail
                  refine (Call_fit _ _ _ (by decide) (by decide)).mono ?_
                  rintro e wd ⟨rd, nd, cd, rfl, md, fd, h1⟩
                  have HD := Lib.hid (And.intro (HV.out.1.tr h1) (And.intro (HV.out.2.1.chg0 h1) (And.intro (HV.out.2.2.chg0 h1) fd)))
                  clear h1 fd
                  go_wp2_with fail
                  refine (Chain_fit _ r5 n5 c5 HD.out.2.1 rd nd cd HD.out.2.2.2 (by omega)).mono ?_
                  rintro e we ⟨re, ne, ce, rfl, me, fe, h1⟩
                  have HE := Lib.hid (And.intro (HD.out.1.tr h1) (And.intro (HD.out.2.2.1.chg0 h1) fe))
                  clear h1 fe
                  go_wp2_with fail
                  refine (Leaf_fit _ 1 (by decide)).mono ?_
                  rintro e wf ⟨rf, nf, cf, rfl, mf, ff, h1⟩
                  have hca := (Chg.refl [] wf).alloc (.cells #[.slice r7 n7 c7, .slice re ne ce, .slice rf nf cf] 23)
                  have HF := Lib.hid (And.intro ((HE.out.1.tr h1).tr hca) (bodies3 (HE.out.2.1.chg0 (h1.tr hca)) (by omega) (HE.out.2.2.chg0 (h1.tr hca)) (by omega) (ff.chg0 hca) (by omega) (heap_alloc_same wf _)))
                  clear h1 ff hca
                  go_wp2_with fail
                  refine (Gram_fit _ _ 3 3 HF.out.2 (by decide)).mono ?_
                  rintro e wg ⟨b1, d1, b2, m2, d2, rs, L, rfl, fg, hz⟩
                  have hca := (Chg.refl [] wg).alloc (.cells #[.slice b1 3 d1, .slice b2 m2 d2] 25)
                  have HX := Lib.hid (And.intro ((HF.out.1.tr hz).tr hca) (And.intro (heap_alloc_same wg (.cells #[.slice b1 3 d1, .slice b2 m2 d2] 25)) (fg.chg0 hca)))
                  clear fg hz hca
                  obtain ⟨wx, ex⟩ : ∃ wx, wx = wg.alloc (.cells #[.slice b1 3 d1, .slice b2 m2 d2] 25) := ⟨_, rfl⟩
                  go_wp2_with fail
                  rw [← ex] at HX ⊢
                  clear ex
                  obtain ⟨T, hT⟩ : ∃ T, T = wg.heap.size := ⟨_, rfl⟩
                  rw [← hT] at HX ⊢
                  clear hT
                  obtain ⟨x0, x1⟩ := cells2 HX.out.2.1
                  have hTl := lt_of_block HX.out.2.1
                  refine (goes12_fit HX.out.2.2 _ _).mono ?_
                  rintro e wz ⟨rfl, h1⟩
                  have HF := Lib.hid (And.intro (HX.out.2.2.chg0 h1) (And.intro (h1.heap HX.out.2.1 (by simp)) (HX.out.1.tr h1)))
                  clear h1 x0 x1 hTl
                  obtain ⟨x0, x1⟩ := cells2 HF.out.2.1
                  have hTl := lt_of_block HF.out.2.1
                  go_wp2_with fail
                  refine (nodes12_fit HF.out.1 _).mono ?_
                  rintro e wz ⟨rfl, h1⟩
                  have HF := Lib.hid (And.intro (HF.out.1.chg0 h1) (And.intro (h1.heap HF.out.2.1 (by simp)) (HF.out.2.2.tr h1)))
                  clear h1 x0 x1 hTl
                  obtain ⟨x0, x1⟩ := cells2 HF.out.2.1
                  have hTl := lt_of_block HF.out.2.1
                  go_wp2_with fail
                  refine (nodes12_fit HF.out.1 _).mono ?_
                  rintro e wz ⟨rfl, h1⟩
                  have HF := Lib.hid (And.intro (HF.out.1.chg0 h1) (And.intro (h1.heap HF.out.2.1 (by simp)) (HF.out.2.2.tr h1)))
                  clear h1 x0 x1 hTl
                  obtain ⟨x0, x1⟩ := cells2 HF.out.2.1
                  have hTl := lt_of_block HF.out.2.1
                  go_wp2_with fail
                  go_roundg (6 - (c + 1))
                  case measure => omega
                  case rel => exact ⟨c + 1, rfl, by omega, by go_num, Lib.hid HF.out.2.2⟩
            · obtain rfl : c = 6 := by omega
              go_wp2_with fail
              go_roundg (8 - (b + 1))
              case measure => omega
              case rel => exact ⟨b + 1, rfl, by omega, by go_num, hinc⟩
        · obtain rfl : b = 8 := by omega
          go_wp2_with fail
          go_roundg (8 - (a + 1))
          case measure => omega
          case rel => exact ⟨a + 1, rfl, by omega, by go_num, hinb⟩
    · obtain rfl : a = 8 := by omega
      go_wp2_with fail
      refine (shapes12_any wq).mono ?_
      rintro e w2 ⟨rfl, h2⟩
      have H2 := Lib.hid (hina.out.tr h2)
      clear h2
      go_wp2_with fail
      refine (awake12_any w2).mono ?_
      rintro e w3 ⟨rfl, h3⟩
      have H3 := Lib.hid (H2.out.tr h3)
      clear h3
      go_wp2_with fail
      go_ret
      exact ⟨rfl, HC0.out.tr H3.out⟩
end Go.Proofs.YtibgfgfmljhimaaGreat

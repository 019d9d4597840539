/-
  The document's answer of layer 11: whether a node, a rule may match nothing; ranks; all such nodes and rules.
  Conditions: the grammar reads as data, within the reach.
-/
import Derived.Test.YtibgfgfmljhimaaGreatQRf2
import Derived.Test.YtibgfgfmljhimaaGreatQGRefR
import Derived.Test.YtibgfgfmljhimaaGreatQGAny
set_option linter.unusedVariables false
set_option linter.unusedSimpArgs false
set_option linter.unnecessarySimpa false
namespace Go.Proofs.YtibgfgfmljhimaaGreat
open Go.RowKit Go.MapKept Go.Shelf

theorem ranks_all {g : Gr} (hr : rightB g = true) : callsB (ranksL g g.rules.length) 1073741824 = callsR g g.rules.length := by
  funext q
  unfold callsB callsR
  by_cases hq : 0 ≤ q
  · rw [decide_eq_true hq, Bool.true_and, Bool.true_and]
    by_cases hl : q.toNat < g.rules.length
    · rw [ranksL_at g _ hl]
      have hle := rk_le g g.rules.length q.toNat
      have := (right_sizes hr).2.1
      rw [Bool.eq_iff_iff]
      simp only [Bool.and_eq_true, decide_eq_true_eq]
      omega
    · rw [rk_out g _ (by omega)]
      have : (ranksL g g.rules.length)[q.toNat]? = none := by rw [List.getElem?_eq_none_iff, ranksL_len]; omega
      rw [this]
      rfl
  · rw [decide_eq_false hq]; rfl
/-- A node's answer, by all ranks. -/
theorem refMay_all (w : World) (a1 : Option Addr) (n1 c1 : Nat) (a2 : Option Addr) (n2 c2 : Nat) (g : Gr) (hg : GramAt w a1 n1 c1 a2 n2 c2 g) (hr : rightB g = true) (az : Option Addr) (nz cz : Nat) (hnz : nz = g.rules.length) (hz : Ints w az (ranksL g g.rules.length)) (n : Nat) (hn : n < g.nodes.length) :
    Calls Tryz.prog 88 #[.agg #[.slice a1 n1 c1, .slice a2 n2 c2], .int .i64 (n : Int), .slice az nz cz, .int .i64 1073741824] w fun e w' => e = .returned (.bool (mayG g n)) ∧ Chg [] w w' := by
  have := refMay_any a1 n1 c1 a2 n2 c2 g hr az nz cz (ranksL g g.rules.length) (ranksL_len _ _) (by rw [ranksL_len, hnz]) 1073741824 g.nodes.length n (by omega) hn w hg hz
  rw [ranks_all hr] at this
  exact this

set_option maxRecDepth 100000 in
set_option maxHeartbeats 4000000 in
theorem refNode_of (w : World) (a1 : Option Addr) (n1 c1 : Nat) (a2 : Option Addr) (n2 c2 : Nat) (g : Gr) (hg : GramAt w a1 n1 c1 a2 n2 c2 g) (n : Nat) (hr : rightB g = true) (hn : n < g.nodes.length) :
    Calls Tryz.prog 43 #[.agg #[.slice a1 n1 c1, .slice a2 n2 c2], .int .i64 (n : Int)] w fun e w' => e = .returned (.bool (mayG g n)) ∧ Chg [] w w' := by
  obtain ⟨v, hv⟩ : ∃ v, v = mayG g n := ⟨_, rfl⟩
  rw [← hv]
  have hn2 : (n : Int) < n2 := by have := hg.e2; omega
  obtain ⟨w0, e0⟩ : ∃ w0, w0 = w.alloc (.cells #[.slice a1 n1 c1, .slice a2 n2 c2] 25) := ⟨_, rfl⟩
  have hc0 : Chg [] w w0 := by rw [e0]; exact (Chg.refl [] w).alloc _
  have hb0 : w0.heap[w.heap.size]? = some (.cells #[.slice a1 n1 c1, .slice a2 n2 c2] 25 (0, 0)) := by rw [e0]; exact heap_alloc_same _ _
  obtain ⟨rl, hrl⟩ : ∃ rl, rl = (ranksL g g.rules.length).length := ⟨_, rfl⟩
  have HR : Hid (∀ W, Chg [] w0 W → Calls Tryz.prog 87 #[.agg #[.slice a1 n1 c1, .slice a2 n2 c2]] W fun e W' => e = .returned (.bool true) ∧ Chg [] W W') := Lib.hid fun W hW => by
    have := refRight_any W a1 n1 c1 a2 n2 c2 g (hg.keep (hc0.tr hW).kp)
    rw [hr] at this
    exact this
  have HK : Hid (∀ W, Chg [] w0 W → Calls Tryz.prog 89 #[.agg #[.slice a1 n1 c1, .slice a2 n2 c2]] W fun e W' => ∃ a c, e = .returned (.slice a rl c) ∧ FreshInts W.heap.size W' a c (ranksL g g.rules.length) ∧ Chg [] W W') := Lib.hid fun W hW => by
    have := refRanks_any W a1 n1 c1 a2 n2 c2 g (hg.keep (hc0.tr hW).kp) hr
    rw [hrl]
    exact this
  have HM : Hid (∀ W, Chg [] w0 W → ∀ a c, FreshInts w0.heap.size W a c (ranksL g g.rules.length) → Calls Tryz.prog 88 #[.agg #[.slice a1 n1 c1, .slice a2 n2 c2], .int .i64 (n : Int), .slice a rl c, .int .i64 1073741824] W fun e W' => e = .returned (.bool v) ∧ Chg [] W W') := Lib.hid fun W hW a c hf => by
    rw [hv]
    exact refMay_all W a1 n1 c1 a2 n2 c2 g (hg.keep (hc0.tr hW).kp) hr a rl c (by rw [hrl, ranksL_len]) (ownInts_read hf.own).1 n hn
  have H0 := Lib.hid (And.intro hb0 hc0)
  have HE := Lib.hid e0
  clear hg hr hn hv hc0 hb0 hrl e0
  go_enter Tryz.func43, Tryz.ntmps43
  go_wp2_with fail
  rw [← HE.out]
  refine wp_region_st (by kernel_rfl) (by kernel_rfl) [5, 6, 7, 8, 9, 10, 11, 12, 13, 14, 15, 16, 17, 18, 19, 20, 21, 22, 23, 24, 4] (by kernel_rfl) (fun rI rV rW => match rI with | 0 => rV = .agg #[.slice a1 n1 c1, .slice a2 n2 c2] | 1 => rV = .bool true | 2 => rV = .bool true | 3 => rV = .int .i64 n | 4 => rV = .bool true | 5 => rV = .bool true | 6 => rV = .bool true | 7 => rV = .int .i64 n | 8 => rV = .pointer (some ⟨w.heap.size, 1, none⟩) | 9 => rV = .slice a2 n2 c2 | 10 => rV = .int .i64 n2 | 11 => rV = .bool true | 12 => rV = .bool true | 13 => rV = .bool true | 14 => rV = .agg #[.slice a1 n1 c1, .slice a2 n2 c2] | 15 => rV = .int .i64 n | 16 => rV = .agg #[.slice a1 n1 c1, .slice a2 n2 c2] | 17 => ∃ ra rc, rV = .slice ra rl rc ∧ FreshInts w0.heap.size rW ra rc (ranksL g g.rules.length) | 18 => rV = .bool v | 19 => rV = .bool v | 20 => rV = .bool v | _ => True) ?hS2 ?hstep2 ?hdone2
  case hS2 =>
    intro rI rV rW rW' hc rP
    match rI, rP with
    | 0, rP => exact rP
    | 1, rP => exact rP
    | 2, rP => exact rP
    | 3, rP => exact rP
    | 4, rP => exact rP
    | 5, rP => exact rP
    | 6, rP => exact rP
    | 7, rP => exact rP
    | 8, rP => exact rP
    | 9, rP => exact rP
    | 10, rP => exact rP
    | 11, rP => exact rP
    | 12, rP => exact rP
    | 13, rP => exact rP
    | 14, rP => exact rP
    | 15, rP => exact rP
    | 16, rP => exact rP
    | 17, rP => exact (by obtain ⟨ra, rc, e9, hp⟩ := rP; exact ⟨ra, rc, e9, hc.row hp (fun _ _ => by simp)⟩)
    | 18, rP => exact rP
    | 19, rP => exact rP
    | 20, rP => exact rP
    | _ + 21, _ => trivial
  case hstep2 =>
    intro rI rH us W hC hdep K hK
    have hiN : rI < 21 := rH
    simp only [actU, Act.put, List.setIfInBounds_toArray, List.set_cons_succ, List.set_cons_zero, Nat.reduceAdd] at hK ⊢
    obtain ⟨x0, x1⟩ := cells2 (hC.heap H0.out.1 (by simp))
    rcases (show rI = 0 ∨ rI = 1 ∨ rI = 2 ∨ rI = 3 ∨ rI = 4 ∨ rI = 5 ∨ rI = 6 ∨ rI = 7 ∨ rI = 8 ∨ rI = 9 ∨ rI = 10 ∨ rI = 11 ∨ rI = 12 ∨ rI = 13 ∨ rI = 14 ∨ rI = 15 ∨ rI = 16 ∨ rI = 17 ∨ rI = 18 ∨ rI = 19 ∨ rI = 20 by omega) with rfl | rfl | rfl | rfl | rfl | rfl | rfl | rfl | rfl | rfl | rfl | rfl | rfl | rfl | rfl | rfl | rfl | rfl | rfl | rfl | rfl
    · simp only [List.getD_cons_succ, List.getD_cons_zero, List.setIfInBounds_toArray, List.set_cons_succ, List.set_cons_zero] at hK ⊢
      refine wpOp_at rfl rfl ?_
      go_simp
      exact hK _ _ _ rfl (Chg.refl _ _) rfl
    · have l0 := hdep 0 (by kernel_rfl)
      replace l0 : us 0 = .agg #[.slice a1 n1 c1, .slice a2 n2 c2] := l0
      simp only [List.getD_cons_succ, List.getD_cons_zero, List.setIfInBounds_toArray, List.set_cons_succ, List.set_cons_zero, l0] at hK ⊢
      refine wpOp_at rfl rfl ?_
      go_simp
      refine (HR.out W hC).mono ?_
      rintro e wz ⟨rfl, hz⟩
      exact hK _ _ _ rfl hz rfl
    · have l1 := hdep 1 (by kernel_rfl)
      replace l1 : us 1 = .bool true := l1
      simp only [List.getD_cons_succ, List.getD_cons_zero, List.setIfInBounds_toArray, List.set_cons_succ, List.set_cons_zero, l1] at hK ⊢
      refine wpOp_at rfl rfl ?_
      go_simp
      exact hK _ _ _ rfl (Chg.refl _ _) rfl
    · have l2 := hdep 2 (by kernel_rfl)
      replace l2 : us 2 = .bool true := l2
      simp only [List.getD_cons_succ, List.getD_cons_zero, List.setIfInBounds_toArray, List.set_cons_succ, List.set_cons_zero, l2] at hK ⊢
      refine wpOp_want rfl (by rfl) ?_
      go_simp
      exact hK _ _ _ rfl (Chg.refl _ _) rfl
    · have l2 := hdep 2 (by kernel_rfl)
      replace l2 : us 2 = .bool true := l2
      have l3 := hdep 3 (by kernel_rfl)
      replace l3 : us 3 = .int .i64 n := l3
      simp only [List.getD_cons_succ, List.getD_cons_zero, List.setIfInBounds_toArray, List.set_cons_succ, List.set_cons_zero, l2, l3] at hK ⊢
      refine wpOp_want rfl (by rfl) ?_
      go_simp
      exact hK _ _ _ rfl (Chg.refl _ _) rfl
    · have l2 := hdep 2 (by kernel_rfl)
      replace l2 : us 2 = .bool true := l2
      have l4 := hdep 4 (by kernel_rfl)
      replace l4 : us 4 = .bool true := l4
      simp only [List.getD_cons_succ, List.getD_cons_zero, List.setIfInBounds_toArray, List.set_cons_succ, List.set_cons_zero, l2, l4] at hK ⊢
      refine wpOp_at rfl rfl ?_
      go_simp
      exact hK _ _ _ rfl (Chg.refl _ _) rfl
    · have l5 := hdep 5 (by kernel_rfl)
      replace l5 : us 5 = .bool true := l5
      simp only [List.getD_cons_succ, List.getD_cons_zero, List.setIfInBounds_toArray, List.set_cons_succ, List.set_cons_zero, l5] at hK ⊢
      refine wpOp_at rfl rfl ?_
      go_simp
      exact hK _ _ _ rfl (Chg.refl _ _) rfl
    · have l6 := hdep 6 (by kernel_rfl)
      replace l6 : us 6 = .bool true := l6
      simp only [List.getD_cons_succ, List.getD_cons_zero, List.setIfInBounds_toArray, List.set_cons_succ, List.set_cons_zero, l6] at hK ⊢
      refine wpOp_want rfl (by rfl) ?_
      go_simp
      exact hK _ _ _ rfl (Chg.refl _ _) rfl
    · have l6 := hdep 6 (by kernel_rfl)
      replace l6 : us 6 = .bool true := l6
      simp only [List.getD_cons_succ, List.getD_cons_zero, List.setIfInBounds_toArray, List.set_cons_succ, List.set_cons_zero, l6] at hK ⊢
      refine wpOp_want rfl (by rfl) ?_
      go_simp
      exact hK _ _ _ rfl (Chg.refl _ _) rfl
    · have l6 := hdep 6 (by kernel_rfl)
      replace l6 : us 6 = .bool true := l6
      have l8 := hdep 8 (by kernel_rfl)
      replace l8 : us 8 = .pointer (some ⟨w.heap.size, 1, none⟩) := l8
      simp only [List.getD_cons_succ, List.getD_cons_zero, List.setIfInBounds_toArray, List.set_cons_succ, List.set_cons_zero, l6, l8] at hK ⊢
      refine wpOp_want rfl (by rfl) ?_
      go_simp
      exact hK _ _ _ rfl (Chg.refl _ _) rfl
    · have l6 := hdep 6 (by kernel_rfl)
      replace l6 : us 6 = .bool true := l6
      have l9 := hdep 9 (by kernel_rfl)
      replace l9 : us 9 = .slice a2 n2 c2 := l9
      simp only [List.getD_cons_succ, List.getD_cons_zero, List.setIfInBounds_toArray, List.set_cons_succ, List.set_cons_zero, l6, l9] at hK ⊢
      refine wpOp_want rfl (by rfl) ?_
      go_simp
      exact hK _ _ _ rfl (Chg.refl _ _) rfl
    · have l6 := hdep 6 (by kernel_rfl)
      replace l6 : us 6 = .bool true := l6
      have l7 := hdep 7 (by kernel_rfl)
      replace l7 : us 7 = .int .i64 n := l7
      have l10 := hdep 10 (by kernel_rfl)
      replace l10 : us 10 = .int .i64 n2 := l10
      simp only [List.getD_cons_succ, List.getD_cons_zero, List.setIfInBounds_toArray, List.set_cons_succ, List.set_cons_zero, l6, l7, l10] at hK ⊢
      refine wpOp_want rfl (by rfl) ?_
      go_simp
      exact hK _ _ _ rfl (Chg.refl _ _) rfl
    · have l6 := hdep 6 (by kernel_rfl)
      replace l6 : us 6 = .bool true := l6
      have l11 := hdep 11 (by kernel_rfl)
      replace l11 : us 11 = .bool true := l11
      simp only [List.getD_cons_succ, List.getD_cons_zero, List.setIfInBounds_toArray, List.set_cons_succ, List.set_cons_zero, l6, l11] at hK ⊢
      refine wpOp_at rfl rfl ?_
      go_simp
      exact hK _ _ _ rfl (Chg.refl _ _) rfl
    · have l12 := hdep 12 (by kernel_rfl)
      replace l12 : us 12 = .bool true := l12
      simp only [List.getD_cons_succ, List.getD_cons_zero, List.setIfInBounds_toArray, List.set_cons_succ, List.set_cons_zero, l12] at hK ⊢
      refine wpOp_at rfl rfl ?_
      go_simp
      exact hK _ _ _ rfl (Chg.refl _ _) rfl
    · have l13 := hdep 13 (by kernel_rfl)
      replace l13 : us 13 = .bool true := l13
      simp only [List.getD_cons_succ, List.getD_cons_zero, List.setIfInBounds_toArray, List.set_cons_succ, List.set_cons_zero, l13] at hK ⊢
      refine wpOp_want rfl (by rfl) ?_
      go_simp
      exact hK _ _ _ rfl (Chg.refl _ _) rfl
    · have l13 := hdep 13 (by kernel_rfl)
      replace l13 : us 13 = .bool true := l13
      simp only [List.getD_cons_succ, List.getD_cons_zero, List.setIfInBounds_toArray, List.set_cons_succ, List.set_cons_zero, l13] at hK ⊢
      refine wpOp_want rfl (by rfl) ?_
      go_simp
      exact hK _ _ _ rfl (Chg.refl _ _) rfl
    · have l13 := hdep 13 (by kernel_rfl)
      replace l13 : us 13 = .bool true := l13
      simp only [List.getD_cons_succ, List.getD_cons_zero, List.setIfInBounds_toArray, List.set_cons_succ, List.set_cons_zero, l13] at hK ⊢
      refine wpOp_want rfl (by rfl) ?_
      go_simp
      exact hK _ _ _ rfl (Chg.refl _ _) rfl
    · have l13 := hdep 13 (by kernel_rfl)
      replace l13 : us 13 = .bool true := l13
      have l16 := hdep 16 (by kernel_rfl)
      replace l16 : us 16 = .agg #[.slice a1 n1 c1, .slice a2 n2 c2] := l16
      simp only [List.getD_cons_succ, List.getD_cons_zero, List.setIfInBounds_toArray, List.set_cons_succ, List.set_cons_zero, l13, l16] at hK ⊢
      refine wpOp_want rfl (by rfl) ?_
      go_simp
      refine (HK.out W hC).mono ?_
      rintro e wz ⟨ra, rc, rfl, hf, hz⟩
      exact hK _ _ _ rfl hz ⟨ra, rc, rfl, row_base hf hC.size⟩
    · have l13 := hdep 13 (by kernel_rfl)
      replace l13 : us 13 = .bool true := l13
      have l14 := hdep 14 (by kernel_rfl)
      replace l14 : us 14 = .agg #[.slice a1 n1 c1, .slice a2 n2 c2] := l14
      have l15 := hdep 15 (by kernel_rfl)
      replace l15 : us 15 = .int .i64 n := l15
      have l17 := hdep 17 (by kernel_rfl)
      obtain ⟨ra, rc, l17, p17⟩ := l17
      simp only [List.getD_cons_succ, List.getD_cons_zero, List.setIfInBounds_toArray, List.set_cons_succ, List.set_cons_zero, l13, l14, l15, l17] at hK ⊢
      refine wpOp_want rfl (by rfl) ?_
      go_simp
      refine (HM.out W hC ra rc p17).mono ?_
      rintro e wz ⟨rfl, hz⟩
      exact hK _ _ _ rfl hz rfl
    · have l13 := hdep 13 (by kernel_rfl)
      replace l13 : us 13 = .bool true := l13
      have l18 := hdep 18 (by kernel_rfl)
      replace l18 : us 18 = .bool v := l18
      simp only [List.getD_cons_succ, List.getD_cons_zero, List.setIfInBounds_toArray, List.set_cons_succ, List.set_cons_zero, l13, l18] at hK ⊢
      refine wpOp_at rfl rfl ?_
      go_simp
      exact hK _ _ _ rfl (Chg.refl _ _) rfl
    · have l19 := hdep 19 (by kernel_rfl)
      replace l19 : us 19 = .bool v := l19
      simp only [List.getD_cons_succ, List.getD_cons_zero, List.setIfInBounds_toArray, List.set_cons_succ, List.set_cons_zero, l19] at hK ⊢
      refine wpOp_at rfl rfl ?_
      go_simp
      exact hK _ _ _ rfl (Chg.refl _ _) rfl
  case hdone2 =>
    intro us W hC hall
    have l0 := hall 0 (by decide)
    replace l0 : us 0 = .agg #[.slice a1 n1 c1, .slice a2 n2 c2] := l0
    have l1 := hall 1 (by decide)
    replace l1 : us 1 = .bool true := l1
    have l2 := hall 2 (by decide)
    replace l2 : us 2 = .bool true := l2
    have l3 := hall 3 (by decide)
    replace l3 : us 3 = .int .i64 n := l3
    have l4 := hall 4 (by decide)
    replace l4 : us 4 = .bool true := l4
    have l5 := hall 5 (by decide)
    replace l5 : us 5 = .bool true := l5
    have l6 := hall 6 (by decide)
    replace l6 : us 6 = .bool true := l6
    have l7 := hall 7 (by decide)
    replace l7 : us 7 = .int .i64 n := l7
    have l8 := hall 8 (by decide)
    replace l8 : us 8 = .pointer (some ⟨w.heap.size, 1, none⟩) := l8
    have l9 := hall 9 (by decide)
    replace l9 : us 9 = .slice a2 n2 c2 := l9
    have l10 := hall 10 (by decide)
    replace l10 : us 10 = .int .i64 n2 := l10
    have l11 := hall 11 (by decide)
    replace l11 : us 11 = .bool true := l11
    have l12 := hall 12 (by decide)
    replace l12 : us 12 = .bool true := l12
    have l13 := hall 13 (by decide)
    replace l13 : us 13 = .bool true := l13
    have l14 := hall 14 (by decide)
    replace l14 : us 14 = .agg #[.slice a1 n1 c1, .slice a2 n2 c2] := l14
    have l15 := hall 15 (by decide)
    replace l15 : us 15 = .int .i64 n := l15
    have l16 := hall 16 (by decide)
    replace l16 : us 16 = .agg #[.slice a1 n1 c1, .slice a2 n2 c2] := l16
    have l17 := hall 17 (by decide)
    obtain ⟨ra, rc, l17, p17⟩ := l17
    have l18 := hall 18 (by decide)
    replace l18 : us 18 = .bool v := l18
    have l19 := hall 19 (by decide)
    replace l19 : us 19 = .bool v := l19
    have l20 := hall 20 (by decide)
    replace l20 : us 20 = .bool v := l20
    simp only [actU, Act.put, List.setIfInBounds_toArray, List.set_cons_succ, List.set_cons_zero, Nat.reduceAdd, l0, l1, l2, l3, l4, l5, l6, l7, l8, l9, l10, l11, l12, l13, l14, l15, l16, l17, l18, l19, l20]
    clear hall l0 l1 l2 l3 l4 l5 l6 l7 l8 l9 l10 l11 l12 l13 l14 l15 l16 l17 l18 l19 l20
    have HF := Lib.hid (H0.out.2.tr hC)
    clear hC p17
    go_wp2_with fail
    go_ret
    exact ⟨rfl, HF.out⟩
set_option maxRecDepth 100000 in
set_option maxHeartbeats 4000000 in
theorem ref11Node_any (w : World) (a1 : Option Addr) (n1 c1 : Nat) (a2 : Option Addr) (n2 c2 : Nat) (g : Gr) (hg : GramAt w a1 n1 c1 a2 n2 c2 g) (n : Int) :
    Calls Tryz.prog 43 #[.agg #[.slice a1 n1 c1, .slice a2 n2 c2], .int .i64 n] w fun e w' => e = .returned (.bool (nodeI g n)) ∧ Chg [] w w' := by
  by_cases hok : rightB g = true ∧ 0 ≤ n ∧ n < g.nodes.length
  · obtain ⟨h1, h2, h3⟩ := hok
    obtain ⟨m, rfl⟩ : ∃ m : Nat, n = (m : Int) := ⟨n.toNat, by omega⟩
    rw [show nodeI g m = mayG g m by simp only [nodeI, h1, Bool.true_and]; rw [decide_eq_true h2, decide_eq_true h3]; rfl]
    exact refNode_of w a1 n1 c1 a2 n2 c2 g hg m h1 (by omega)
  · have hv : nodeI g n = false := by
      unfold nodeI
      by_cases h1 : rightB g = true
      · by_cases h2 : 0 ≤ n
        · rw [decide_eq_false (fun h3 => hok ⟨h1, h2, h3⟩)]; simp
        · rw [decide_eq_false h2]; simp
      · simp [h1]
    rw [hv]
    have he2 := hg.e2
    have hcase : rightB g = false ∨ rightB g = true ∧ n < 0 ∨ rightB g = true ∧ 0 ≤ n ∧ (n2 : Int) ≤ n := by
      cases h1 : rightB g with
      | false => exact .inl rfl
      | true =>
        by_cases h2 : n < 0
        · exact .inr (.inl ⟨rfl, h2⟩)
        · exact .inr (.inr ⟨rfl, by omega, Classical.byContradiction fun h3 => hok ⟨h1, by omega, by omega⟩⟩)
    have HG := Lib.hid hg
    clear hg hv hok he2
    go_enter Tryz.func43, Tryz.ntmps43
    go_wp2_with fail
    have cA := calls_rg (w := w.alloc (.cells #[.slice a1 n1 c1, .slice a2 n2 c2] 25)) (fun w1 h1 => refRight_any w1 a1 n1 c1 a2 n2 c2 g (HG.out.keep (((Chg.refl [] w).alloc _).tr h1).kp))
    obtain ⟨x0, x1⟩ := cells2 (heap_alloc_same w (.cells #[.slice a1 n1 c1, .slice a2 n2 c2] 25))
    have kx0 := cell_rg x0
    have kx1 := cell_rg x1
    rcases hcase with h1 | ⟨h1, h2⟩ | ⟨h1, h2, h3⟩
    · rw [h1] at cA
      clear x0 x1 h1
      refine wp_region_quiet_below (by kernel_rfl) (by kernel_rfl) ?_
      repeat (go_big_quiet_step (with_reducible exact cA _ _))
      refine wpQuiet_nil ?_
      intro w7 hw7
      have HW := Lib.hid (((Chg.refl [] w).alloc _).tr (chg_of_rg hw7))
      clear hw7 cA kx0 kx1
      go_wp2_with fail
      go_ret
      exact ⟨rfl, HW.out⟩
    · rw [h1] at cA
      have hd : decide (0 ≤ n) = false := decide_eq_false (by omega)
      clear x0 x1 h1
      refine wp_region_quiet_below (by kernel_rfl) (by kernel_rfl) ?_
      repeat (go_big_quiet_step (with_reducible exact cA _ _))
      refine wpQuiet_nil ?_
      intro w7 hw7
      have HW := Lib.hid (((Chg.refl [] w).alloc _).tr (chg_of_rg hw7))
      clear hw7 cA kx0 kx1 hd
      go_wp2_with fail
      go_ret
      exact ⟨rfl, HW.out⟩
    · rw [h1] at cA
      have hd : decide (0 ≤ n) = true := decide_eq_true (by omega)
      have hd2 : decide (n < (n2 : Int)) = false := decide_eq_false (by omega)
      clear x0 x1 h1
      refine wp_region_quiet_below (by kernel_rfl) (by kernel_rfl) ?_
      repeat (go_big_quiet_step (with_reducible exact cA _ _))
      refine wpQuiet_nil ?_
      intro w7 hw7
      have HW := Lib.hid (((Chg.refl [] w).alloc _).tr (chg_of_rg hw7))
      clear hw7 cA kx0 kx1 hd hd2
      go_wp2_with fail
      go_ret
      exact ⟨rfl, HW.out⟩

set_option maxRecDepth 100000 in
set_option maxHeartbeats 4000000 in
theorem ref11Rank_any (w : World) (a1 : Option Addr) (n1 c1 : Nat) (a2 : Option Addr) (n2 c2 : Nat) (g : Gr) (hg : GramAt w a1 n1 c1 a2 n2 c2 g) (i : Int) :
    Calls Tryz.prog 45 #[.agg #[.slice a1 n1 c1, .slice a2 n2 c2], .int .i64 i] w fun e w' => e = .returned (.int .i64 (rankI g i)) ∧ Chg [] w w' := by
  obtain ⟨A, hA⟩ : ∃ A, A = rankI g i := ⟨_, rfl⟩
  rw [← hA]
  have hR := fun W (hW : Chg [] w W) => refRight_any W a1 n1 c1 a2 n2 c2 g (hg.keep hW.kp)
  have H := Lib.hid (And.intro hg (And.intro hg.e1 hA))
  clear hg hA
  go_enter Tryz.func45, Tryz.ntmps45
  cases hr : rightB g with
  | false =>
    rw [hr] at hR
    have hAv : A = 0 := by rw [H.out.2.2, rankI, hr]; simp
    subst hAv
    clear hr
    go_wp2_with fail
    refine (hR _ ((Chg.refl [] w).alloc _)).mono ?_
    rintro e w1 ⟨rfl, h1⟩
    have HC := Lib.hid (((Chg.refl [] w).alloc (.cells #[.slice a1 n1 c1, .slice a2 n2 c2] 25)).tr h1)
    clear h1 hR
    go_wp2_with fail
    go_ret
    exact ⟨rfl, HC.out⟩
  | true =>
    rw [hr] at hR
    have HR := Lib.hid hr
    clear hr
    go_wp2_with fail
    refine (hR _ ((Chg.refl [] w).alloc _)).mono ?_
    rintro e w1 ⟨rfl, h1⟩
    have hb := h1.heap (heap_alloc_same w (.cells #[.slice a1 n1 c1, .slice a2 n2 c2] 25)) (by simp)
    have HC := Lib.hid (And.intro (((Chg.refl [] w).alloc (.cells #[.slice a1 n1 c1, .slice a2 n2 c2] 25)).tr h1) hb)
    obtain ⟨x0, x1⟩ := cells2 hb
    clear h1 hR hb
    by_cases hi0 : i < 0
    · have hAv : A = 0 := by rw [H.out.2.2, rankI, if_neg (by omega)]
      subst hAv
      go_wp2_with fail
      go_ret
      exact ⟨rfl, HC.out.1⟩
    · by_cases hi1 : (n1 : Int) ≤ i
      · have hAv : A = 0 := by rw [H.out.2.2, rankI, if_neg (by have := H.out.2.1; omega)]
        subst hAv
        go_wp2_with fail
        go_ret
        exact ⟨rfl, HC.out.1⟩
      · obtain ⟨m, rfl⟩ : ∃ m : Nat, i = (m : Int) := ⟨i.toNat, by omega⟩
        have hml : m < g.rules.length := by have := H.out.2.1; omega
        have hAv : A = ((rankG g m : Nat) : Int) := by rw [H.out.2.2, rankI, if_pos ⟨HR.out, by omega, by omega⟩]; rfl
        have HA := Lib.hid (And.intro hAv hml)
        have hmn : m < n1 := by omega
        clear hAv hml
        go_wp2_with fail
        refine (refRanks_any w1 a1 n1 c1 a2 n2 c2 g (H.out.1.keep HC.out.1.kp) HR.out).mono ?_
        rintro e w2 ⟨ra, rc, rfl, hf, h2⟩
        obtain ⟨rl, hrl⟩ : ∃ rl, rl = (ranksL g g.rules.length).length := ⟨_, rfl⟩
        rw [← hrl]
        obtain ⟨q1, q2, q3, q4⟩ := ownInts_read hf.own
        obtain ⟨bz, oz, rfl, hc⟩ := q1 m (by rw [ranksL_len]; exact HA.out.2)
        have hcv : (ranksL g g.rules.length)[m]'(by rw [ranksL_len]; exact HA.out.2) = A := by
          refine Eq.trans ?_ HA.out.1.symm
          simp [ranksL, rankG]
        rw [hcv] at hc
        have hmr : m < rl := by rw [hrl, ranksL_len]; exact HA.out.2
        have hmi : (m : Int) < rl := by omega
        have HZ := Lib.hid (HC.out.1.tr h2)
        clear hcv hf h2 q1 q2 q3 q4 hrl x0 x1
        go_wp2_with fail
        go_ret
        exact ⟨rfl, HZ.out⟩

set_option maxRecDepth 100000 in
set_option maxHeartbeats 4000000 in
theorem ref11Rule_any (w : World) (a1 : Option Addr) (n1 c1 : Nat) (a2 : Option Addr) (n2 c2 : Nat) (g : Gr) (hg : GramAt w a1 n1 c1 a2 n2 c2 g) (i : Int) :
    Calls Tryz.prog 44 #[.agg #[.slice a1 n1 c1, .slice a2 n2 c2], .int .i64 i] w fun e w' => e = .returned (.bool (decide (0 < rankI g i))) ∧ Chg [] w w' := by
  have hR := fun W (hW : Chg [] w W) => ref11Rank_any W a1 n1 c1 a2 n2 c2 g (hg.keep hW.kp) i
  clear hg
  obtain ⟨A, hA⟩ : ∃ A, A = rankI g i := ⟨_, rfl⟩
  rw [← hA] at hR ⊢
  clear hA
  go_enter Tryz.func44, Tryz.ntmps44
  go_wp2_with fail
  refine (hR _ ((Chg.refl [] w).alloc _)).mono ?_
  rintro e w1 ⟨rfl, h1⟩
  have HC := Lib.hid (((Chg.refl [] w).alloc (.cells #[.slice a1 n1 c1, .slice a2 n2 c2] 25)).tr h1)
  clear h1 hR
  go_wp2_with fail
  go_ret
  exact ⟨rfl, HC.out⟩

set_option maxRecDepth 100000 in
set_option maxHeartbeats 8000000 in
theorem ref11Rules_any (w : World) (a1 : Option Addr) (n1 c1 : Nat) (a2 : Option Addr) (n2 c2 : Nat) (g : Gr) (hg : GramAt w a1 n1 c1 a2 n2 c2 g) :
    Calls Tryz.prog 47 #[.agg #[.slice a1 n1 c1, .slice a2 n2 c2]] w (ClonedInts w (rulesN g)) := by
  obtain ⟨i0, hi0, hz0, hz1, hz2⟩ := info_parts Tryz.infoInt
  obtain ⟨A, hA⟩ : ∃ A, A = rulesN g := ⟨_, rfl⟩
  rw [← hA]
  have hR := fun W (hW : Chg [] w W) => refRight_any W a1 n1 c1 a2 n2 c2 g (hg.keep hW.kp)
  have H := Lib.hid (And.intro hg (And.intro hg.e1 (And.intro hg.e2 hA)))
  clear hg hA
  go_enter Tryz.func47, Tryz.ntmps47
  cases hr : rightB g with
  | false =>
    rw [hr] at hR
    have hAv : A = [] := by rw [H.out.2.2.2, rulesN, hr]; rfl
    subst hAv
    clear hr
    go_wp2_with fail
    refine (hR _ ((Chg.refl [] w).alloc _)).mono ?_
    rintro e w1 ⟨rfl, h1⟩
    have HC := Lib.hid (((Chg.refl [] w).alloc (.cells #[.slice a1 n1 c1, .slice a2 n2 c2] 25)).tr h1)
    clear h1 hR
    go_wp2_with fail
    go_ret
    exact ⟨none, 0, rfl, World.ownsRow_nil _ _ _ _, HC.out⟩
  | true =>
    rw [hr] at hR
    have hAv : A = pickL g.rules.length (fun i => decide (0 < rankG g i)) := by rw [H.out.2.2.2, rulesN, hr]; rfl
    have HR := Lib.hid (And.intro hr hAv)
    have hs := right_sizes hr
    have hN : n1 ≤ 2048 := by have := H.out.2.1; omega
    clear hr hAv hs
    go_wp2_with fail
    refine (hR _ ((Chg.refl [] w).alloc _)).mono ?_
    rintro e w1 ⟨rfl, h1⟩
    have hb := h1.heap (heap_alloc_same w (.cells #[.slice a1 n1 c1, .slice a2 n2 c2] 25)) (by simp)
    have HC := Lib.hid (And.intro (((Chg.refl [] w).alloc (.cells #[.slice a1 n1 c1, .slice a2 n2 c2] 25)).tr h1) hb)
    obtain ⟨x0, x1⟩ := cells2 hb
    clear h1 hR hb
    go_wp2_with fail
    refine (refRanks_any w1 a1 n1 c1 a2 n2 c2 g (H.out.1.keep HC.out.1.kp) HR.out.1).mono ?_
    rintro e w2 ⟨ra, rc, rfl, hf, h2⟩
    obtain ⟨rl, hrl⟩ : ∃ rl, rl = (ranksL g g.rules.length).length := ⟨_, rfl⟩
    have hrl1 : rl = g.rules.length := by rw [hrl, ranksL_len]
    rw [← hrl]
    have HZ := Lib.hid (And.intro (ownInts_read hf.own).1 (And.intro (HC.out.1.tr h2) (And.intro (h2.heap HC.out.2 (by simp)) hrl1)))
    have hl1 : rl = n1 := by rw [hrl1, ← H.out.2.1]
    subst hl1
    clear hrl hrl1 hf h2 x0 x1
    go_wp2_with fail
    go_loopg [4, 5] rl (fun dd lv iv wr => ∃ (i : Nat) (b : Option Addr) (d q : Nat), dd = rl - i ∧ i ≤ rl ∧ iv = .int .i64 i ∧ lv = .slice b q d ∧ q ≤ i ∧ Hid (q = (pickL i (fun i => decide (0 < rankG g i))).length ∧ wr.ownsRow w2.heap.size 3 1 (.slice b q d) q ((pickL i (fun i => decide (0 < rankG g i))).map (Value.int .i64)) ∧ Chg [] w2 wr))
    case atStart => exact ⟨0, none, 0, 0, rfl, Nat.zero_le _, rfl, rfl, Nat.le_refl _, Lib.hid ⟨rfl, World.ownsRow_nil _ _ _ _, Chg.refl _ _⟩⟩
    case round =>
      obtain ⟨i, b, d, q, rfl, hi, rfl, rfl, hqi, hin⟩ := hrel
      obtain ⟨wq, rfl⟩ : ∃ wq, wq = wr := ⟨_, rfl⟩
      obtain ⟨x0, x1⟩ := cells2 (hin.out.2.2.heap HZ.out.2.2.1 (by simp))
      by_cases hil : i < rl
      · have hig : i < g.rules.length := by have := H.out.2.1; omega
        obtain ⟨fv, hfv⟩ : ∃ fv, fv = (fun i => decide (0 < rankG g i)) i := ⟨_, rfl⟩
        obtain ⟨bz, oz, rfl, hc⟩ := (HZ.out.1.keep hin.out.2.2.kp) i (by rw [ranksL_len]; exact hig)
        have hcv : (ranksL g g.rules.length)[i]'(by rw [ranksL_len]; exact hig) = ((rankG g i : Nat) : Int) := by simp [ranksL, rankG]
        rw [hcv] at hc
        obtain ⟨z, hz⟩ : ∃ z : Nat, z = rankG g i := ⟨_, rfl⟩
        rw [← hz] at hc
        have hfz : fv = decide ((0 : Int) < z) := by rw [hfv, hz]; exact decide_eq_decide.2 (by omega)
        have hzc : decide ((0 : Int) < z) = fv := hfz.symm
        have hzd : decide (0 < z) = fv := by rw [hfz]; exact decide_eq_decide.2 (by omega)
        clear hcv hz hfz
        have h2' : q + 1 ≤ maxLen ∧ (q + 1) * 8 ≤ 140737488355328 := by simp only [maxLen]; omega
        have hbs : w2.heap.size ≤ wq.heap.size := (hin.out.2.2).size
        have hrow := ((Chg.refl [] wq).alloc (.cells #[.int .i64 (i : Int)] 3)).row hin.out.2.1 (fun _ _ => by simp)
        have hnew := cells_at (w := wq.alloc (.cells #[.int .i64 (i : Int)] 3)) (heap_alloc_same _ _)
        have h1' : ∀ u ∈ [Value.int .i64 (i : Int)], u.oneCell' = true := by simp [Value.oneCell']
        have hbs2 : w2.heap.size ≤ (wq.alloc (.cells #[.int .i64 (i : Int)] 3)).heap.size := by rw [World.size_alloc]; omega
        have HA := Lib.hid (And.intro hrow (And.intro hnew (And.intro h1' (And.intro h2' (And.intro (hin.out.2.2.alloc (.cells #[.int .i64 (i : Int)] 3)) (And.intro hin.out.2.2 hfv))))))
        clear hrow hnew h1' h2' hfv hbs
        cases fv with
        | true =>
          go_wp2_with (at_builtin; refine wpList_append_own_at _ rfl _ _ 48 rfl w2.heap.size 3 i0 _ 1 8 Tryz.underlying48 hi0 hz0 hz1 hz2 rfl (by decide) (.slice b q d) q _ rfl HA.out.1 ⟨wq.heap.size, 0, none⟩ 1 1 [.int .i64 (i : Int)] rfl rfl HA.out.2.1 HA.out.2.2.1 HA.out.2.2.2.1.1 HA.out.2.2.2.1.2 hbs2 ?_; intro v' w5 hr5 hg5 hn5 hb5; obtain ⟨a5, c5, rfl⟩ := ownsRow_slice hr5; have HX := Lib.hid (And.intro hr5 hg5); clear hr5 hg5 hn5 hb5)
          go_roundg (rl - (i + 1))
          case measure => omega
          case rel =>
            have e1 : pickL (i + 1) (fun i => decide (0 < rankG g i)) = pickL i (fun i => decide (0 < rankG g i)) ++ [(i : Int)] := by rw [pickL_succ, if_pos HA.out.2.2.2.2.2.2.symm]
            refine ⟨i + 1, a5, c5, q + 1, rfl, by omega, by go_num, rfl, by omega, Lib.hid ⟨by rw [e1, List.length_append, ← hin.out.1]; rfl, ?_, ?_⟩⟩
            · rw [e1, List.map_append]
              exact HX.out.1
            · exact HA.out.2.2.2.2.1.grown HX.out.2 (fun y hy => .inr (row_beyond HA.out.1 hy).1)
        | false =>
          go_wp2_with fail
          go_roundg (rl - (i + 1))
          case measure => omega
          case rel =>
            have e1 : pickL (i + 1) (fun i => decide (0 < rankG g i)) = pickL i (fun i => decide (0 < rankG g i)) := by rw [pickL_succ, if_neg (by rw [← HA.out.2.2.2.2.2.2]; simp), List.append_nil]
            exact ⟨i + 1, b, d, q, rfl, by omega, by go_num, rfl, by omega, Lib.hid ⟨by rw [e1]; exact hin.out.1, by rw [e1]; exact (Chg.refl [] wq).row hin.out.2.1 (fun _ _ => by simp), HA.out.2.2.2.2.2.1⟩⟩
      · obtain rfl : i = rl := by omega
        go_wp2_with fail
        go_ret
        have e1 : pickL i (fun i => decide (0 < rankG g i)) = A := by rw [HR.out.2, H.out.2.1]
        obtain ⟨h1, h2, h3⟩ := hin.out
        rw [e1] at h1 h2
        refine ⟨b, d, congrArg (fun m => Ending.returned (.slice b m d)) h1, ?_, HZ.out.2.1.tr h3⟩
        unfold FreshInts
        rw [← h1]
        exact row_base h2 HZ.out.2.1.size

set_option maxRecDepth 100000 in
set_option maxHeartbeats 8000000 in
theorem ref11Nodes_any (w : World) (a1 : Option Addr) (n1 c1 : Nat) (a2 : Option Addr) (n2 c2 : Nat) (g : Gr) (hg : GramAt w a1 n1 c1 a2 n2 c2 g) :
    Calls Tryz.prog 48 #[.agg #[.slice a1 n1 c1, .slice a2 n2 c2]] w (ClonedInts w (nodesN g)) := by
  obtain ⟨i0, hi0, hz0, hz1, hz2⟩ := info_parts Tryz.infoInt
  obtain ⟨A, hA⟩ : ∃ A, A = nodesN g := ⟨_, rfl⟩
  rw [← hA]
  have hR := fun W (hW : Chg [] w W) => refRight_any W a1 n1 c1 a2 n2 c2 g (hg.keep hW.kp)
  have H := Lib.hid (And.intro hg (And.intro hg.e1 (And.intro hg.e2 hA)))
  clear hg hA
  go_enter Tryz.func48, Tryz.ntmps48
  cases hr : rightB g with
  | false =>
    rw [hr] at hR
    have hAv : A = [] := by rw [H.out.2.2.2, nodesN, hr]; rfl
    subst hAv
    clear hr
    go_wp2_with fail
    refine (hR _ ((Chg.refl [] w).alloc _)).mono ?_
    rintro e w1 ⟨rfl, h1⟩
    have HC := Lib.hid (((Chg.refl [] w).alloc (.cells #[.slice a1 n1 c1, .slice a2 n2 c2] 25)).tr h1)
    clear h1 hR
    go_wp2_with fail
    go_ret
    exact ⟨none, 0, rfl, World.ownsRow_nil _ _ _ _, HC.out⟩
  | true =>
    rw [hr] at hR
    have hAv : A = pickL g.nodes.length (fun n => mayG g n) := by rw [H.out.2.2.2, nodesN, hr]; rfl
    have HR := Lib.hid (And.intro hr hAv)
    have hs := right_sizes hr
    have hN : n2 ≤ 2048 := by have := H.out.2.2.1; omega
    clear hr hAv hs
    go_wp2_with fail
    refine (hR _ ((Chg.refl [] w).alloc _)).mono ?_
    rintro e w1 ⟨rfl, h1⟩
    have hb := h1.heap (heap_alloc_same w (.cells #[.slice a1 n1 c1, .slice a2 n2 c2] 25)) (by simp)
    have HC := Lib.hid (And.intro (((Chg.refl [] w).alloc (.cells #[.slice a1 n1 c1, .slice a2 n2 c2] 25)).tr h1) hb)
    obtain ⟨x0, x1⟩ := cells2 hb
    clear h1 hR hb
    go_wp2_with fail
    refine (refRanks_any w1 a1 n1 c1 a2 n2 c2 g (H.out.1.keep HC.out.1.kp) HR.out.1).mono ?_
    rintro e w2 ⟨ra, rc, rfl, hf, h2⟩
    obtain ⟨rl, hrl⟩ : ∃ rl, rl = (ranksL g g.rules.length).length := ⟨_, rfl⟩
    have hrl1 : rl = g.rules.length := by rw [hrl, ranksL_len]
    rw [← hrl]
    have HZ := Lib.hid (And.intro (ownInts_read hf.own).1 (And.intro (HC.out.1.tr h2) (And.intro (h2.heap HC.out.2 (by simp)) hrl1)))
    have hl1 : rl = n1 := by rw [hrl1, ← H.out.2.1]
    subst hl1
    clear hrl hrl1 hf h2 x0 x1
    go_wp2_with fail
    go_loopg [4, 5] n2 (fun dd lv iv wr => ∃ (i : Nat) (b : Option Addr) (d q : Nat), dd = n2 - i ∧ i ≤ n2 ∧ iv = .int .i64 i ∧ lv = .slice b q d ∧ q ≤ i ∧ Hid (q = (pickL i (fun n => mayG g n)).length ∧ wr.ownsRow w2.heap.size 3 1 (.slice b q d) q ((pickL i (fun n => mayG g n)).map (Value.int .i64)) ∧ Chg [] w2 wr))
    case atStart => exact ⟨0, none, 0, 0, rfl, Nat.zero_le _, rfl, rfl, Nat.le_refl _, Lib.hid ⟨rfl, World.ownsRow_nil _ _ _ _, Chg.refl _ _⟩⟩
    case round =>
      obtain ⟨i, b, d, q, rfl, hi, rfl, rfl, hqi, hin⟩ := hrel
      obtain ⟨wq, rfl⟩ : ∃ wq, wq = wr := ⟨_, rfl⟩
      obtain ⟨x0, x1⟩ := cells2 (hin.out.2.2.heap HZ.out.2.2.1 (by simp))
      by_cases hil : i < n2
      · have hig : i < g.nodes.length := by have := H.out.2.2.1; omega
        obtain ⟨fv, hfv⟩ : ∃ fv, fv = (fun n => mayG g n) i := ⟨_, rfl⟩
        have hcall := refMay_all wq a1 rl c1 a2 n2 c2 g (H.out.1.keep (HZ.out.2.1.tr hin.out.2.2).kp) HR.out.1 ra rl rc HZ.out.2.2.2 (HZ.out.1.keep hin.out.2.2.kp) i hig
        rw [show mayG g i = fv from hfv.symm] at hcall
        go_wp2_with fail
        refine hcall.mono ?_
        clear hcall
        rintro e w3 ⟨rfl, h3⟩
        have HW3 := Lib.hid h3
        clear h3 x0 x1
        have h2' : q + 1 ≤ maxLen ∧ (q + 1) * 8 ≤ 140737488355328 := by simp only [maxLen]; omega
        have hbs : w2.heap.size ≤ w3.heap.size := ((hin.out.2.2.tr HW3.out)).size
        have hrow := (HW3.out.alloc (.cells #[.int .i64 (i : Int)] 3)).row hin.out.2.1 (fun _ _ => by simp)
        have hnew := cells_at (w := w3.alloc (.cells #[.int .i64 (i : Int)] 3)) (heap_alloc_same _ _)
        have h1' : ∀ u ∈ [Value.int .i64 (i : Int)], u.oneCell' = true := by simp [Value.oneCell']
        have hbs2 : w2.heap.size ≤ (w3.alloc (.cells #[.int .i64 (i : Int)] 3)).heap.size := by rw [World.size_alloc]; omega
        have HA := Lib.hid (And.intro hrow (And.intro hnew (And.intro h1' (And.intro h2' (And.intro ((hin.out.2.2.tr HW3.out).alloc (.cells #[.int .i64 (i : Int)] 3)) (And.intro (hin.out.2.2.tr HW3.out) hfv))))))
        clear hrow hnew h1' h2' hfv hbs
        cases fv with
        | true =>
          go_wp2_with (at_builtin; refine wpList_append_own_at _ rfl _ _ 48 rfl w2.heap.size 3 i0 _ 1 8 Tryz.underlying48 hi0 hz0 hz1 hz2 rfl (by decide) (.slice b q d) q _ rfl HA.out.1 ⟨w3.heap.size, 0, none⟩ 1 1 [.int .i64 (i : Int)] rfl rfl HA.out.2.1 HA.out.2.2.1 HA.out.2.2.2.1.1 HA.out.2.2.2.1.2 hbs2 ?_; intro v' w5 hr5 hg5 hn5 hb5; obtain ⟨a5, c5, rfl⟩ := ownsRow_slice hr5; have HX := Lib.hid (And.intro hr5 hg5); clear hr5 hg5 hn5 hb5)
          go_roundg (n2 - (i + 1))
          case measure => omega
          case rel =>
            have e1 : pickL (i + 1) (fun n => mayG g n) = pickL i (fun n => mayG g n) ++ [(i : Int)] := by rw [pickL_succ, if_pos HA.out.2.2.2.2.2.2.symm]
            refine ⟨i + 1, a5, c5, q + 1, rfl, by omega, by go_num, rfl, by omega, Lib.hid ⟨by rw [e1, List.length_append, ← hin.out.1]; rfl, ?_, ?_⟩⟩
            · rw [e1, List.map_append]
              exact HX.out.1
            · exact HA.out.2.2.2.2.1.grown HX.out.2 (fun y hy => .inr (row_beyond HA.out.1 hy).1)
        | false =>
          go_wp2_with fail
          go_roundg (n2 - (i + 1))
          case measure => omega
          case rel =>
            have e1 : pickL (i + 1) (fun n => mayG g n) = pickL i (fun n => mayG g n) := by rw [pickL_succ, if_neg (by rw [← HA.out.2.2.2.2.2.2]; simp), List.append_nil]
            exact ⟨i + 1, b, d, q, rfl, by omega, by go_num, rfl, by omega, Lib.hid ⟨by rw [e1]; exact hin.out.1, by rw [e1]; exact HW3.out.row hin.out.2.1 (fun _ _ => by simp), HA.out.2.2.2.2.2.1⟩⟩
      · obtain rfl : i = n2 := by omega
        go_wp2_with fail
        go_ret
        have e1 : pickL i (fun n => mayG g n) = A := by rw [HR.out.2, H.out.2.2.1]
        obtain ⟨h1, h2, h3⟩ := hin.out
        rw [e1] at h1 h2
        refine ⟨b, d, congrArg (fun m => Ending.returned (.slice b m d)) h1, ?_, HZ.out.2.1.tr h3⟩
        unfold FreshInts
        rw [← h1]
        exact row_base h2 HZ.out.2.1.size
end Go.Proofs.YtibgfgfmljhimaaGreat

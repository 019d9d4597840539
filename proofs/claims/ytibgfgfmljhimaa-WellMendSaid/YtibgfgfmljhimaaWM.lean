/-
  WellMend: what the law computes.
  Conditions: the grammar reads as data, within the reach.
-/
import Derived.Test.YtibgfgfmljhimaaWeQ
import Derived.Test.YtibgfgfmljhimaaWeR
import Derived.Test.YtibgfgfmljhimaaGAny
set_option linter.unusedVariables false
set_option linter.unusedSimpArgs false
set_option linter.unnecessarySimpa false
namespace Go.Proofs.Ytibgfgfmljhimaa
open Go.RowKit Go.MapKept Go.Shelf

theorem mend_from {g : Gr} {x : Nd} (hx : x ∈ (mendG g).nodes) : ∃ y ∈ g.nodes, x.kids = y.kids := by
  obtain ⟨j, hj, rfl⟩ := List.getElem_of_mem hx
  have hj' : j < g.nodes.length := by rw [show (mendG g).nodes.length = g.nodes.length from mendL_len _ _] at hj; exact hj
  have hat : (mendG g).nodes[j] = if (j : Int) ∈ idleL g then g.nodes[j].setK 10 else g.nodes[j] := mendL_at hj'
  refine ⟨g.nodes[j], List.getElem_mem _, ?_⟩
  rw [hat]
  split <;> rfl
theorem mend_reach {g : Gr} (h : Reach g) : Reach (mendG g) := ⟨h.1, by rw [show (mendG g).nodes.length = g.nodes.length from mendL_len _ _]; exact h.2.1, fun x hx => by obtain ⟨y, hy, e⟩ := mend_from hx; rw [e]; exact h.2.2 y hy⟩
theorem mend_sameG {g : Gr} (hr : rightB g = true) : sameG (mendG g) g = wellB g := by
  cases hw : wellB g with
  | true => rw [(mend_same hr).2 hw]; exact sameG_refl g
  | false =>
    rw [← Bool.not_eq_true, sameG_iff]
    rintro ⟨_, _, h⟩
    have hne : idleL g ≠ [] := fun h0 => by rw [wellB, hr, h0] at hw; cases hw
    obtain ⟨x, l, hl⟩ := List.exists_cons_of_ne_nil hne
    have hx : x ∈ idleL g := by rw [hl]; simp
    have hx' := hx
    rw [idleL, if_pos hr] at hx'
    obtain ⟨j, rfl, hj, hi⟩ := pickW_mem.1 hx'
    have h1 := h j (by rw [show (mendG g).nodes.length = g.nodes.length from mendL_len _ _]; exact hj) hj
    have hat : (mendG g).nodes[j]'(by rw [show (mendG g).nodes.length = g.nodes.length from mendL_len _ _]; exact hj) = if (j : Int) ∈ idleL g then g.nodes[j].setK 10 else g.nodes[j] := mendL_at hj
    rw [hat, if_pos hx, sameN, decide_eq_true_eq] at h1
    have h2 := idle_node hj hi
    have h3 : (10 : Int) = g.nodes[j].k := h1.1
    omega
theorem small_parts {g : Gr} (h : smallG g) : g.rules.length ≤ 300 ∧ g.nodes.length ≤ 300 ∧ ∀ x ∈ g.nodes, x.kids.length ≤ 300 := by
  unfold smallG at h
  refine ⟨by omega, by omega, fun x hx => ?_⟩
  obtain ⟨k, hk, rfl⟩ := List.getElem_of_mem hx
  have := kids_le_sum g.nodes k hk
  omega

set_option maxRecDepth 100000 in
set_option maxHeartbeats 16000000 in
theorem wellMendLaw_any (w : World) (a1 : Option Addr) (n1 c1 : Nat) (a2 : Option Addr) (n2 c2 : Nat) (g : Gr) (hg : GramAt w a1 n1 c1 a2 n2 c2 g) (hre : Reach g) :
    Calls Try.prog 15 #[.agg #[.slice a1 n1 c1, .slice a2 n2 c2]] w fun e w' => e = .returned (.bool true) ∧ Chg [] w w' := by
  have H := Lib.hid (And.intro hg (And.intro hre (And.intro hg.e1 hg.e2)))
  clear hg hre
  go_enter Try.func15, Try.ntmps15
  go_wp2_with fail
  refine (awake15_any _).mono ?_
  rintro e w1 ⟨rfl, hc1⟩
  have hb1 := hc1.heap (heap_alloc_same _ _) (by simp)
  have H1 := Lib.hid (And.intro hb1 (((Chg.refl [] w).alloc _).tr0 hc1))
  clear hc1 hb1
  obtain ⟨x0, x1⟩ := cells2 H1.out.1
  go_wp2_with fail
  refine (size15_any _ a1 n1 c1 a2 n2 c2 g (H.out.1.keep H1.out.2.kp) H.out.2.1).mono ?_
  rintro e w2 ⟨m, rfl, hm1, hm2, hc2⟩
  have H2 := Lib.hid (And.intro (hc2.heap H1.out.1 (by simp)) (H1.out.2.tr hc2))
  clear hc2 x0 x1
  by_cases hm : (300 : Int) < m
  · go_wp2_with fail
    go_ret
    exact ⟨rfl, H2.out.2⟩
  · have hsm : smallG g := Classical.byContradiction fun h => hm (hm2 h)
    have hsp := small_parts hsm
    have hs1 : n1 ≤ 300 := by rw [H.out.2.2.1]; exact hsp.1
    have hs2 : n2 ≤ 300 := by rw [H.out.2.2.2]; exact hsp.2.1
    have HS := Lib.hid hsp.2.2
    clear hm1 hm2 hsm hsp
    obtain ⟨x0, x1⟩ := cells2 H2.out.1
    go_wp2_with fail
    refine (wellMend_any _ a1 n1 c1 a2 n2 c2 g (H.out.1.keep H2.out.2.kp) H.out.2.1 hs1 hs2 HS.out).mono ?_
    rintro e w3 ⟨hif, h3⟩
    clear x0 x1
    cases hr : rightB g with
    | false =>
      rw [hr, if_neg (by simp)] at hif
      subst hif
      have hid : idleL g = [] := by rw [idleL, if_neg (by rw [hr]; simp)]
      have hwl : wellB g = false := by rw [wellB, hr]; rfl
      have hca := (Chg.refl [] w3).alloc (.cells #[.slice none 0 0, .slice none 0 0] 25)
      have hbx := hca.heap (h3.heap H2.out.1 (by simp)) (by simp)
      have hby := heap_alloc_same w3 (.cells #[.slice none 0 0, .slice none 0 0] 25)
      have hcw := (H2.out.2.tr h3).tr hca
      obtain ⟨x0, x1⟩ := cells2 hbx
      have hR := Right_any _ a1 n1 c1 a2 n2 c2 g (H.out.1.keep hcw.kp)
      rw [hr] at hR
      have H3 := Lib.hid (And.intro hbx (And.intro hby (And.intro hcw (And.intro hid hwl))))
      clear h3 hca hbx hby hcw hid hwl hr
      go_wp2_with fail
      refine hR.mono ?_
      clear hR x0 x1
      rintro e w4 ⟨rfl, hc4⟩
      have H4 := Lib.hid (And.intro (hc4.heap H3.out.1 (by simp)) (And.intro (hc4.heap H3.out.2.1 (by simp)) (H3.out.2.2.1.tr hc4)))
      clear hc4
      have HA : Hid (∀ W, Chg [] w4 W → Calls Try.prog 72 #[.agg #[.slice a1 n1 c1, .slice a2 n2 c2]] W fun e W' => ∃ a c, e = .returned (.slice a 0 c) ∧ Chg [] W W') := Lib.hid fun W hW => by
        refine (wellAll_any W a1 n1 c1 a2 n2 c2 g (H.out.1.keep (H4.out.2.2.tr hW).kp) H.out.2.1).mono ?_
        rintro e W' ⟨a, c, rfl, _, hc⟩
        rw [H3.out.2.2.2.1]
        exact ⟨a, c, rfl, hc⟩
      have HW : Hid (∀ W, Chg [] w4 W → Calls Try.prog 73 #[.agg #[.slice a1 n1 c1, .slice a2 n2 c2]] W fun e W' => e = .returned (.bool false) ∧ Chg [] W W') := Lib.hid fun W hW => by
        have := wellWell_any W a1 n1 c1 a2 n2 c2 g (H.out.1.keep (H4.out.2.2.tr hW).kp) H.out.2.1
        rw [H3.out.2.2.2.2] at this
        exact this
      go_wp2_with fail
      refine wp_region_st (by kernel_rfl) (by kernel_rfl) [21, 22, 23, 24, 25, 26, 27, 28, 29, 30, 31, 32, 33, 34, 35, 36, 37, 38, 39, 40, 41, 2] (by kernel_rfl) (fun rI rV rW => match rI with | 0 => rV = .bool false | 1 => rV = .bool true | 2 => rV = .bool true | 3 => rV = .pointer (some ⟨w3.heap.size, 0, none⟩) | 4 => rV = .slice none 0 0 | 5 => rV = .int .i64 0 | 6 => rV = .pointer (some ⟨w3.heap.size, 1, none⟩) | 7 => rV = .slice none 0 0 | 8 => rV = .int .i64 0 | 9 => rV = .int .i64 0 | 10 => rV = .agg #[.slice a1 n1 c1, .slice a2 n2 c2] | 11 => ∃ ta9 tc9, rV = .slice ta9 0 tc9 ∧ True | 12 => rV = .int .i64 0 | 13 => rV = .int .i64 0 | 14 => rV = .bool true | 15 => rV = .bool true | 16 => rV = .bool true | 17 => rV = .agg #[.slice a1 n1 c1, .slice a2 n2 c2] | 18 => rV = .bool false | 19 => rV = .bool true | 20 => rV = .bool true | 21 => rV = .bool true | _ => True) ?hS6 ?hstep6 ?hdone6
      case hS6 =>
        intro rI rV rW rW' hc rP
        match rI, rP with
        | 0, rP => exact rP
        | 1, rP => exact rP
        | 2, rP => exact rP
        | 3, rP => exact rP
        | 4, rP => exact rP
        | 5, rP => exact rP
        | 6, rP => exact rP
        | 7, rP => exact rP
        | 8, rP => exact rP
        | 9, rP => exact rP
        | 10, rP => exact rP
        | 11, rP => exact (by obtain ⟨ta9, tc9, e9, hp⟩ := rP; exact ⟨ta9, tc9, e9, trivial⟩)
        | 12, rP => exact rP
        | 13, rP => exact rP
        | 14, rP => exact rP
        | 15, rP => exact rP
        | 16, rP => exact rP
        | 17, rP => exact rP
        | 18, rP => exact rP
        | 19, rP => exact rP
        | 20, rP => exact rP
        | 21, rP => exact rP
        | _ + 22, _ => trivial
      case hstep6 =>
        intro rI rH us W hC hdep K hK
        have hiN : rI < 22 := rH
        simp only [actU, Act.put, List.setIfInBounds_toArray, List.set_cons_succ, List.set_cons_zero, Nat.reduceAdd] at hK ⊢
        obtain ⟨x0, x1⟩ := cells2 (hC.heap H4.out.1 (by simp))
        obtain ⟨y0, y1⟩ := cells2 (hC.heap H4.out.2.1 (by simp))
        rcases (show rI = 0 ∨ rI = 1 ∨ rI = 2 ∨ rI = 3 ∨ rI = 4 ∨ rI = 5 ∨ rI = 6 ∨ rI = 7 ∨ rI = 8 ∨ rI = 9 ∨ rI = 10 ∨ rI = 11 ∨ rI = 12 ∨ rI = 13 ∨ rI = 14 ∨ rI = 15 ∨ rI = 16 ∨ rI = 17 ∨ rI = 18 ∨ rI = 19 ∨ rI = 20 ∨ rI = 21 by omega) with rfl | rfl | rfl | rfl | rfl | rfl | rfl | rfl | rfl | rfl | rfl | rfl | rfl | rfl | rfl | rfl | rfl | rfl | rfl | rfl | rfl | rfl
        · simp only [List.getD_cons_succ, List.getD_cons_zero, List.setIfInBounds_toArray, List.set_cons_succ, List.set_cons_zero] at hK ⊢
          refine wpOp_at rfl rfl ?_
          go_simp
          exact hK _ _ _ rfl (Chg.refl _ _) rfl
        · have l0 := hdep 0 (by kernel_rfl)
          replace l0 : us 0 = .bool false := l0
          simp only [List.getD_cons_succ, List.getD_cons_zero, List.setIfInBounds_toArray, List.set_cons_succ, List.set_cons_zero, l0] at hK ⊢
          refine wpOp_at rfl rfl ?_
          go_simp
          exact hK _ _ _ rfl (Chg.refl _ _) rfl
        · have l1 := hdep 1 (by kernel_rfl)
          replace l1 : us 1 = .bool true := l1
          simp only [List.getD_cons_succ, List.getD_cons_zero, List.setIfInBounds_toArray, List.set_cons_succ, List.set_cons_zero, l1] at hK ⊢
          refine wpOp_at rfl rfl ?_
          go_simp
          exact hK _ _ _ rfl (Chg.refl _ _) rfl
        · have l2 := hdep 2 (by kernel_rfl)
          replace l2 : us 2 = .bool true := l2
          simp only [List.getD_cons_succ, List.getD_cons_zero, List.setIfInBounds_toArray, List.set_cons_succ, List.set_cons_zero, l2] at hK ⊢
          refine wpOp_want rfl (by rfl) ?_
          go_simp
          exact hK _ _ _ rfl (Chg.refl _ _) rfl
        · have l2 := hdep 2 (by kernel_rfl)
          replace l2 : us 2 = .bool true := l2
          have l3 := hdep 3 (by kernel_rfl)
          replace l3 : us 3 = .pointer (some ⟨w3.heap.size, 0, none⟩) := l3
          simp only [List.getD_cons_succ, List.getD_cons_zero, List.setIfInBounds_toArray, List.set_cons_succ, List.set_cons_zero, l2, l3] at hK ⊢
          refine wpOp_want rfl (by rfl) ?_
          go_simp
          exact hK _ _ _ rfl (Chg.refl _ _) rfl
        · have l2 := hdep 2 (by kernel_rfl)
          replace l2 : us 2 = .bool true := l2
          have l4 := hdep 4 (by kernel_rfl)
          replace l4 : us 4 = .slice none 0 0 := l4
          simp only [List.getD_cons_succ, List.getD_cons_zero, List.setIfInBounds_toArray, List.set_cons_succ, List.set_cons_zero, l2, l4] at hK ⊢
          refine wpOp_want rfl (by rfl) ?_
          go_simp
          exact hK _ _ _ rfl (Chg.refl _ _) rfl
        · have l2 := hdep 2 (by kernel_rfl)
          replace l2 : us 2 = .bool true := l2
          simp only [List.getD_cons_succ, List.getD_cons_zero, List.setIfInBounds_toArray, List.set_cons_succ, List.set_cons_zero, l2] at hK ⊢
          refine wpOp_want rfl (by rfl) ?_
          go_simp
          exact hK _ _ _ rfl (Chg.refl _ _) rfl
        · have l2 := hdep 2 (by kernel_rfl)
          replace l2 : us 2 = .bool true := l2
          have l6 := hdep 6 (by kernel_rfl)
          replace l6 : us 6 = .pointer (some ⟨w3.heap.size, 1, none⟩) := l6
          simp only [List.getD_cons_succ, List.getD_cons_zero, List.setIfInBounds_toArray, List.set_cons_succ, List.set_cons_zero, l2, l6] at hK ⊢
          refine wpOp_want rfl (by rfl) ?_
          go_simp
          exact hK _ _ _ rfl (Chg.refl _ _) rfl
        · have l2 := hdep 2 (by kernel_rfl)
          replace l2 : us 2 = .bool true := l2
          have l7 := hdep 7 (by kernel_rfl)
          replace l7 : us 7 = .slice none 0 0 := l7
          simp only [List.getD_cons_succ, List.getD_cons_zero, List.setIfInBounds_toArray, List.set_cons_succ, List.set_cons_zero, l2, l7] at hK ⊢
          refine wpOp_want rfl (by rfl) ?_
          go_simp
          exact hK _ _ _ rfl (Chg.refl _ _) rfl
        · have l2 := hdep 2 (by kernel_rfl)
          replace l2 : us 2 = .bool true := l2
          have l5 := hdep 5 (by kernel_rfl)
          replace l5 : us 5 = .int .i64 0 := l5
          have l8 := hdep 8 (by kernel_rfl)
          replace l8 : us 8 = .int .i64 0 := l8
          simp only [List.getD_cons_succ, List.getD_cons_zero, List.setIfInBounds_toArray, List.set_cons_succ, List.set_cons_zero, l2, l5, l8] at hK ⊢
          refine wpOp_want rfl (by rfl) ?_
          go_simp
          exact hK _ _ _ rfl (Chg.refl _ _) rfl
        · have l2 := hdep 2 (by kernel_rfl)
          replace l2 : us 2 = .bool true := l2
          simp only [List.getD_cons_succ, List.getD_cons_zero, List.setIfInBounds_toArray, List.set_cons_succ, List.set_cons_zero, l2] at hK ⊢
          refine wpOp_want rfl (by rfl) ?_
          go_simp
          exact hK _ _ _ rfl (Chg.refl _ _) rfl
        · have l2 := hdep 2 (by kernel_rfl)
          replace l2 : us 2 = .bool true := l2
          have l10 := hdep 10 (by kernel_rfl)
          replace l10 : us 10 = .agg #[.slice a1 n1 c1, .slice a2 n2 c2] := l10
          simp only [List.getD_cons_succ, List.getD_cons_zero, List.setIfInBounds_toArray, List.set_cons_succ, List.set_cons_zero, l2, l10] at hK ⊢
          refine wpOp_want rfl (by rfl) ?_
          go_simp
          refine (HA.out W hC).mono ?_
          rintro e wz ⟨ta9, tc9, rfl, hz⟩
          exact hK _ _ _ rfl hz ⟨ta9, tc9, rfl, trivial⟩
        · have l2 := hdep 2 (by kernel_rfl)
          replace l2 : us 2 = .bool true := l2
          have l11 := hdep 11 (by kernel_rfl)
          obtain ⟨ta9, tc9, l11, p11⟩ := l11
          simp only [List.getD_cons_succ, List.getD_cons_zero, List.setIfInBounds_toArray, List.set_cons_succ, List.set_cons_zero, l2, l11] at hK ⊢
          refine wpOp_want rfl (by rfl) ?_
          go_simp
          exact hK _ _ _ rfl (Chg.refl _ _) rfl
        · have l2 := hdep 2 (by kernel_rfl)
          replace l2 : us 2 = .bool true := l2
          have l9 := hdep 9 (by kernel_rfl)
          replace l9 : us 9 = .int .i64 0 := l9
          have l12 := hdep 12 (by kernel_rfl)
          replace l12 : us 12 = .int .i64 0 := l12
          simp only [List.getD_cons_succ, List.getD_cons_zero, List.setIfInBounds_toArray, List.set_cons_succ, List.set_cons_zero, l2, l9, l12] at hK ⊢
          refine wpOp_want rfl (by rfl) ?_
          go_simp
          exact hK _ _ _ rfl (Chg.refl _ _) rfl
        · have l2 := hdep 2 (by kernel_rfl)
          replace l2 : us 2 = .bool true := l2
          have l13 := hdep 13 (by kernel_rfl)
          replace l13 : us 13 = .int .i64 0 := l13
          simp only [List.getD_cons_succ, List.getD_cons_zero, List.setIfInBounds_toArray, List.set_cons_succ, List.set_cons_zero, l2, l13] at hK ⊢
          refine wpOp_want rfl (by rfl) ?_
          go_simp
          exact hK _ _ _ rfl (Chg.refl _ _) rfl
        · have l2 := hdep 2 (by kernel_rfl)
          replace l2 : us 2 = .bool true := l2
          have l14 := hdep 14 (by kernel_rfl)
          replace l14 : us 14 = .bool true := l14
          simp only [List.getD_cons_succ, List.getD_cons_zero, List.setIfInBounds_toArray, List.set_cons_succ, List.set_cons_zero, l2, l14] at hK ⊢
          refine wpOp_at rfl rfl ?_
          go_simp
          exact hK _ _ _ rfl (Chg.refl _ _) rfl
        · have l15 := hdep 15 (by kernel_rfl)
          replace l15 : us 15 = .bool true := l15
          simp only [List.getD_cons_succ, List.getD_cons_zero, List.setIfInBounds_toArray, List.set_cons_succ, List.set_cons_zero, l15] at hK ⊢
          refine wpOp_at rfl rfl ?_
          go_simp
          exact hK _ _ _ rfl (Chg.refl _ _) rfl
        · have l16 := hdep 16 (by kernel_rfl)
          replace l16 : us 16 = .bool true := l16
          simp only [List.getD_cons_succ, List.getD_cons_zero, List.setIfInBounds_toArray, List.set_cons_succ, List.set_cons_zero, l16] at hK ⊢
          refine wpOp_want rfl (by rfl) ?_
          go_simp
          exact hK _ _ _ rfl (Chg.refl _ _) rfl
        · have l16 := hdep 16 (by kernel_rfl)
          replace l16 : us 16 = .bool true := l16
          have l17 := hdep 17 (by kernel_rfl)
          replace l17 : us 17 = .agg #[.slice a1 n1 c1, .slice a2 n2 c2] := l17
          simp only [List.getD_cons_succ, List.getD_cons_zero, List.setIfInBounds_toArray, List.set_cons_succ, List.set_cons_zero, l16, l17] at hK ⊢
          refine wpOp_want rfl (by rfl) ?_
          go_simp
          refine (HW.out W hC).mono ?_
          rintro e wz ⟨rfl, hz⟩
          exact hK _ _ _ rfl hz rfl
        · have l16 := hdep 16 (by kernel_rfl)
          replace l16 : us 16 = .bool true := l16
          have l18 := hdep 18 (by kernel_rfl)
          replace l18 : us 18 = .bool false := l18
          simp only [List.getD_cons_succ, List.getD_cons_zero, List.setIfInBounds_toArray, List.set_cons_succ, List.set_cons_zero, l16, l18] at hK ⊢
          refine wpOp_want rfl (by rfl) ?_
          go_simp
          exact hK _ _ _ rfl (Chg.refl _ _) rfl
        · have l16 := hdep 16 (by kernel_rfl)
          replace l16 : us 16 = .bool true := l16
          have l19 := hdep 19 (by kernel_rfl)
          replace l19 : us 19 = .bool true := l19
          simp only [List.getD_cons_succ, List.getD_cons_zero, List.setIfInBounds_toArray, List.set_cons_succ, List.set_cons_zero, l16, l19] at hK ⊢
          refine wpOp_at rfl rfl ?_
          go_simp
          exact hK _ _ _ rfl (Chg.refl _ _) rfl
        · have l20 := hdep 20 (by kernel_rfl)
          replace l20 : us 20 = .bool true := l20
          simp only [List.getD_cons_succ, List.getD_cons_zero, List.setIfInBounds_toArray, List.set_cons_succ, List.set_cons_zero, l20] at hK ⊢
          refine wpOp_at rfl rfl ?_
          go_simp
          exact hK _ _ _ rfl (Chg.refl _ _) rfl
      case hdone6 =>
        intro us W hC hall
        have l0 := hall 0 (by decide)
        replace l0 : us 0 = .bool false := l0
        have l1 := hall 1 (by decide)
        replace l1 : us 1 = .bool true := l1
        have l2 := hall 2 (by decide)
        replace l2 : us 2 = .bool true := l2
        have l3 := hall 3 (by decide)
        replace l3 : us 3 = .pointer (some ⟨w3.heap.size, 0, none⟩) := l3
        have l4 := hall 4 (by decide)
        replace l4 : us 4 = .slice none 0 0 := l4
        have l5 := hall 5 (by decide)
        replace l5 : us 5 = .int .i64 0 := l5
        have l6 := hall 6 (by decide)
        replace l6 : us 6 = .pointer (some ⟨w3.heap.size, 1, none⟩) := l6
        have l7 := hall 7 (by decide)
        replace l7 : us 7 = .slice none 0 0 := l7
        have l8 := hall 8 (by decide)
        replace l8 : us 8 = .int .i64 0 := l8
        have l9 := hall 9 (by decide)
        replace l9 : us 9 = .int .i64 0 := l9
        have l10 := hall 10 (by decide)
        replace l10 : us 10 = .agg #[.slice a1 n1 c1, .slice a2 n2 c2] := l10
        have l11 := hall 11 (by decide)
        obtain ⟨ta9, tc9, l11, p11⟩ := l11
        have l12 := hall 12 (by decide)
        replace l12 : us 12 = .int .i64 0 := l12
        have l13 := hall 13 (by decide)
        replace l13 : us 13 = .int .i64 0 := l13
        have l14 := hall 14 (by decide)
        replace l14 : us 14 = .bool true := l14
        have l15 := hall 15 (by decide)
        replace l15 : us 15 = .bool true := l15
        have l16 := hall 16 (by decide)
        replace l16 : us 16 = .bool true := l16
        have l17 := hall 17 (by decide)
        replace l17 : us 17 = .agg #[.slice a1 n1 c1, .slice a2 n2 c2] := l17
        have l18 := hall 18 (by decide)
        replace l18 : us 18 = .bool false := l18
        have l19 := hall 19 (by decide)
        replace l19 : us 19 = .bool true := l19
        have l20 := hall 20 (by decide)
        replace l20 : us 20 = .bool true := l20
        have l21 := hall 21 (by decide)
        replace l21 : us 21 = .bool true := l21
        simp only [actU, Act.put, List.setIfInBounds_toArray, List.set_cons_succ, List.set_cons_zero, Nat.reduceAdd, l0, l1, l2, l3, l4, l5, l6, l7, l8, l9, l10, l11, l12, l13, l14, l15, l16, l17, l18, l19, l20, l21]
        clear hall l0 l1 l2 l3 l4 l5 l6 l7 l8 l9 l10 l11 l12 l13 l14 l15 l16 l17 l18 l19 l20 l21
        have HE := Lib.hid hC
        clear hC
        go_wp2_with fail
        go_ret
        exact ⟨rfl, H4.out.2.2.tr HE.out⟩
    | true =>
      rw [hr, if_pos rfl] at hif
      obtain ⟨b1, d1, b2, d2, L, rfl, hL, hO⟩ := hif
      rw [← H.out.2.2.1, ← H.out.2.2.2]
      have hgm : GramAt w3 b1 n1 d1 b2 n2 d2 (mendG g) := OwnG.at_ (g := mendG g) hO hL H.out.2.2.1 (by rw [H.out.2.2.2]; exact (mendL_len _ _).symm) (mend_wf H.out.1.wf)
      have hLl : L.length = n2 := by have h1 := congrArg List.length hL; rw [List.length_map, mendL_len] at h1; rw [h1, H.out.2.2.2]
      have hn0 : 0 < L.length := by have := right_posW hr; have := H.out.2.2.2; omega
      obtain ⟨G, hG⟩ : ∃ G, b2 = some ⟨G, 0, none⟩ := by
        rcases hO.nodes.2 with ⟨h0, h1⟩ | ⟨G, cap, cur, h0, _⟩
        · omega
        · cases h0; exact ⟨G, rfl⟩
      obtain ⟨hGB, -, -, ⟨cur, hcur⟩, -⟩ := hO.kindPut hn0 hG
      have hlG := lt_of_block hcur
      have hlw := lt_of_block H2.out.1
      subst hG
      have hca := (Chg.refl [] w3).alloc (.cells #[.slice b1 n1 d1, .slice (some ⟨G, 0, none⟩) n2 d2] 25)
      have hbx := hca.heap (h3.heap H2.out.1 (by simp)) (by simp)
      have hby := heap_alloc_same w3 (.cells #[.slice b1 n1 d1, .slice (some ⟨G, 0, none⟩) n2 d2] 25)
      have hcw := (H2.out.2.tr h3).tr hca
      obtain ⟨x0, x1⟩ := cells2 hbx
      have hR := Right_any _ a1 n1 c1 a2 n2 c2 g (H.out.1.keep hcw.kp)
      rw [hr] at hR
      have H3 := Lib.hid (And.intro hbx (And.intro hby (And.intro hcw (And.intro (hgm.keep hca.kp) (And.intro (hO.chg0 hca) (And.intro hL hLl))))))
      have HR := Lib.hid hr
      have HG := Lib.hid (And.intro hGB (And.intro hlG hlw))
      clear h3 hca hbx hby hcw hr hgm hO hL hLl hn0 hcur hGB hlG hlw
      go_wp2_with fail
      refine hR.mono ?_
      clear hR x0 x1
      rintro e w4 ⟨rfl, hc4⟩
      have H4 := Lib.hid (And.intro (hc4.heap H3.out.1 (by simp)) (And.intro (hc4.heap H3.out.2.1 (by simp)) (And.intro (H3.out.2.2.1.tr hc4) (And.intro (H3.out.2.2.2.1.keep hc4.kp) (H3.out.2.2.2.2.1.chg0 hc4)))))
      clear hc4
      obtain ⟨kl, hkl⟩ : ∃ kl, kl = (nodesN g).length := ⟨_, rfl⟩
      have hkl3 : kl ≤ 2048 := by rw [hkl]; exact nodesN_few
      have HW : Hid (∀ W, Chg [] w4 W → Calls Try.prog 73 #[.agg #[.slice b1 n1 d1, .slice (some ⟨G, 0, none⟩) n2 d2]] W fun e W' => e = .returned (.bool true) ∧ Chg [] W W') := Lib.hid fun W hW => by
        have := wellWell_any W b1 n1 d1 _ n2 d2 (mendG g) (H4.out.2.2.2.1.keep hW.kp) (mend_reach H.out.2.1)
        rw [mend_well HR.out] at this
        exact this
      have HA : Hid (∀ W, Chg [] w4 W → Calls Try.prog 43 #[.agg #[.slice b1 n1 d1, .slice (some ⟨G, 0, none⟩) n2 d2]] W fun e W' => ∃ a c, e = .returned (.slice a kl c) ∧ FreshInts W.heap.size W' a c (nodesN g) ∧ Chg [] W W') := Lib.hid fun W hW => by
        have h := nullNodes_any W b1 n1 d1 _ n2 d2 (mendG g) (H4.out.2.2.2.1.keep hW.kp) (mend_reach H.out.2.1)
        rw [mend_nodes HR.out] at h
        rw [hkl]
        exact h
      have HB : Hid (∀ W, Chg [] w4 W → Calls Try.prog 43 #[.agg #[.slice a1 n1 c1, .slice a2 n2 c2]] W fun e W' => ∃ a c, e = .returned (.slice a kl c) ∧ FreshInts W.heap.size W' a c (nodesN g) ∧ Chg [] W W') := Lib.hid fun W hW => by
        have h := nullNodes_any W a1 n1 c1 a2 n2 c2 g (H.out.1.keep (H4.out.2.2.1.tr hW).kp) H.out.2.1
        rw [hkl]
        exact h
      have HC : Hid (∀ W a c b d, FreshInts w4.heap.size W a c (nodesN g) → FreshInts w4.heap.size W b d (nodesN g) → Calls Try.prog 49 #[.slice a kl c, .slice b kl d] W fun e W' => e = .returned (.bool true) ∧ Chg [] W W') := Lib.hid fun W a c b d h1 h2 => by
        have h := sameInts_any W a b kl c kl d (nodesN g) (nodesN g) hkl hkl (by omega) (ownInts_read h1.own).1 (ownInts_read h2.own).1
        rw [decide_eq_true rfl] at h
        exact h
      clear hkl
      go_wp2_with fail
      refine wp_region_st (by kernel_rfl) (by kernel_rfl) [42, 43, 44, 45, 46, 47, 48, 49, 50, 51, 52, 53, 54, 55, 56, 57, 58, 59, 60, 61, 62, 63, 64, 65] (by kernel_rfl) (fun rI rV rW => match rI with | 0 => rV = .bool true | 1 => rV = .bool false | 2 => rV = .bool false | 3 => rV = .agg #[.slice b1 n1 d1, .slice (some ⟨G, 0, none⟩) n2 d2] | 4 => rV = .bool true | 5 => rV = .bool false | 6 => rV = .bool false | 7 => rV = .bool false | 8 => rV = .agg #[.slice b1 n1 d1, .slice (some ⟨G, 0, none⟩) n2 d2] | 9 => ∃ ta9 tc9, rV = .slice ta9 kl tc9 ∧ FreshInts w4.heap.size rW ta9 tc9 (nodesN g) | 10 => rV = .agg #[.slice a1 n1 c1, .slice a2 n2 c2] | 11 => ∃ tb9 td9, rV = .slice tb9 kl td9 ∧ FreshInts w4.heap.size rW tb9 td9 (nodesN g) | 12 => rV = .bool true | 13 => rV = .bool false | 14 => rV = .bool false | 15 => rV = .bool false | 16 => rV = .pointer (some ⟨w3.heap.size, 1, none⟩) | 17 => rV = .slice (some ⟨G, 0, none⟩) n2 d2 | 18 => rV = .int .i64 n2 | 19 => rV = .pointer (some ⟨w.heap.size, 1, none⟩) | 20 => rV = .slice a2 n2 c2 | 21 => rV = .int .i64 n2 | 22 => rV = .bool false | 23 => rV = .bool false | _ => True) ?hS6 ?hstep6 ?hdone6
      case hS6 =>
        intro rI rV rW rW' hc rP
        match rI, rP with
        | 0, rP => exact rP
        | 1, rP => exact rP
        | 2, rP => exact rP
        | 3, rP => exact rP
        | 4, rP => exact rP
        | 5, rP => exact rP
        | 6, rP => exact rP
        | 7, rP => exact rP
        | 8, rP => exact rP
        | 9, rP => exact (by obtain ⟨ta9, tc9, e9, hp⟩ := rP; exact ⟨ta9, tc9, e9, hc.row hp (fun _ _ => by simp)⟩)
        | 10, rP => exact rP
        | 11, rP => exact (by obtain ⟨tb9, td9, e9, hp⟩ := rP; exact ⟨tb9, td9, e9, hc.row hp (fun _ _ => by simp)⟩)
        | 12, rP => exact rP
        | 13, rP => exact rP
        | 14, rP => exact rP
        | 15, rP => exact rP
        | 16, rP => exact rP
        | 17, rP => exact rP
        | 18, rP => exact rP
        | 19, rP => exact rP
        | 20, rP => exact rP
        | 21, rP => exact rP
        | 22, rP => exact rP
        | 23, rP => exact rP
        | _ + 24, _ => trivial
      case hstep6 =>
        intro rI rH us W hC hdep K hK
        have hiN : rI < 24 := rH
        simp only [actU, Act.put, List.setIfInBounds_toArray, List.set_cons_succ, List.set_cons_zero, Nat.reduceAdd] at hK ⊢
        obtain ⟨x0, x1⟩ := cells2 (hC.heap H4.out.1 (by simp))
        obtain ⟨y0, y1⟩ := cells2 (hC.heap H4.out.2.1 (by simp))
        rcases (show rI = 0 ∨ rI = 1 ∨ rI = 2 ∨ rI = 3 ∨ rI = 4 ∨ rI = 5 ∨ rI = 6 ∨ rI = 7 ∨ rI = 8 ∨ rI = 9 ∨ rI = 10 ∨ rI = 11 ∨ rI = 12 ∨ rI = 13 ∨ rI = 14 ∨ rI = 15 ∨ rI = 16 ∨ rI = 17 ∨ rI = 18 ∨ rI = 19 ∨ rI = 20 ∨ rI = 21 ∨ rI = 22 ∨ rI = 23 by omega) with rfl | rfl | rfl | rfl | rfl | rfl | rfl | rfl | rfl | rfl | rfl | rfl | rfl | rfl | rfl | rfl | rfl | rfl | rfl | rfl | rfl | rfl | rfl | rfl
        · simp only [List.getD_cons_succ, List.getD_cons_zero, List.setIfInBounds_toArray, List.set_cons_succ, List.set_cons_zero] at hK ⊢
          refine wpOp_at rfl rfl ?_
          go_simp
          exact hK _ _ _ rfl (Chg.refl _ _) rfl
        · have l0 := hdep 0 (by kernel_rfl)
          replace l0 : us 0 = .bool true := l0
          simp only [List.getD_cons_succ, List.getD_cons_zero, List.setIfInBounds_toArray, List.set_cons_succ, List.set_cons_zero, l0] at hK ⊢
          refine wpOp_at rfl rfl ?_
          go_simp
          exact hK _ _ _ rfl (Chg.refl _ _) rfl
        · have l1 := hdep 1 (by kernel_rfl)
          replace l1 : us 1 = .bool false := l1
          simp only [List.getD_cons_succ, List.getD_cons_zero, List.setIfInBounds_toArray, List.set_cons_succ, List.set_cons_zero, l1] at hK ⊢
          refine wpOp_at rfl rfl ?_
          go_simp
          exact hK _ _ _ rfl (Chg.refl _ _) rfl
        · have l2 := hdep 2 (by kernel_rfl)
          replace l2 : us 2 = .bool false := l2
          simp only [List.getD_cons_succ, List.getD_cons_zero, List.setIfInBounds_toArray, List.set_cons_succ, List.set_cons_zero, l2] at hK ⊢
          refine wpOp_want rfl (by rfl) ?_
          go_simp
          exact hK _ _ _ rfl (Chg.refl _ _) rfl
        · have l2 := hdep 2 (by kernel_rfl)
          replace l2 : us 2 = .bool false := l2
          have l3 := hdep 3 (by kernel_rfl)
          replace l3 : us 3 = .agg #[.slice b1 n1 d1, .slice (some ⟨G, 0, none⟩) n2 d2] := l3
          simp only [List.getD_cons_succ, List.getD_cons_zero, List.setIfInBounds_toArray, List.set_cons_succ, List.set_cons_zero, l2, l3] at hK ⊢
          refine wpOp_want rfl (by rfl) ?_
          go_simp
          refine (HW.out W hC).mono ?_
          rintro e wz ⟨rfl, hz⟩
          exact hK _ _ _ rfl hz rfl
        · have l2 := hdep 2 (by kernel_rfl)
          replace l2 : us 2 = .bool false := l2
          have l4 := hdep 4 (by kernel_rfl)
          replace l4 : us 4 = .bool true := l4
          simp only [List.getD_cons_succ, List.getD_cons_zero, List.setIfInBounds_toArray, List.set_cons_succ, List.set_cons_zero, l2, l4] at hK ⊢
          refine wpOp_want rfl (by rfl) ?_
          go_simp
          exact hK _ _ _ rfl (Chg.refl _ _) rfl
        · have l2 := hdep 2 (by kernel_rfl)
          replace l2 : us 2 = .bool false := l2
          have l5 := hdep 5 (by kernel_rfl)
          replace l5 : us 5 = .bool false := l5
          simp only [List.getD_cons_succ, List.getD_cons_zero, List.setIfInBounds_toArray, List.set_cons_succ, List.set_cons_zero, l2, l5] at hK ⊢
          refine wpOp_at rfl rfl ?_
          go_simp
          exact hK _ _ _ rfl (Chg.refl _ _) rfl
        · have l6 := hdep 6 (by kernel_rfl)
          replace l6 : us 6 = .bool false := l6
          simp only [List.getD_cons_succ, List.getD_cons_zero, List.setIfInBounds_toArray, List.set_cons_succ, List.set_cons_zero, l6] at hK ⊢
          refine wpOp_at rfl rfl ?_
          go_simp
          exact hK _ _ _ rfl (Chg.refl _ _) rfl
        · have l7 := hdep 7 (by kernel_rfl)
          replace l7 : us 7 = .bool false := l7
          simp only [List.getD_cons_succ, List.getD_cons_zero, List.setIfInBounds_toArray, List.set_cons_succ, List.set_cons_zero, l7] at hK ⊢
          refine wpOp_want rfl (by rfl) ?_
          go_simp
          exact hK _ _ _ rfl (Chg.refl _ _) rfl
        · have l7 := hdep 7 (by kernel_rfl)
          replace l7 : us 7 = .bool false := l7
          have l8 := hdep 8 (by kernel_rfl)
          replace l8 : us 8 = .agg #[.slice b1 n1 d1, .slice (some ⟨G, 0, none⟩) n2 d2] := l8
          simp only [List.getD_cons_succ, List.getD_cons_zero, List.setIfInBounds_toArray, List.set_cons_succ, List.set_cons_zero, l7, l8] at hK ⊢
          refine wpOp_want rfl (by rfl) ?_
          go_simp
          refine (HA.out W hC).mono ?_
          rintro e wz ⟨ta9, tc9, rfl, hf, hz⟩
          exact hK _ _ _ rfl hz ⟨ta9, tc9, rfl, row_base hf hC.size⟩
        · have l7 := hdep 7 (by kernel_rfl)
          replace l7 : us 7 = .bool false := l7
          simp only [List.getD_cons_succ, List.getD_cons_zero, List.setIfInBounds_toArray, List.set_cons_succ, List.set_cons_zero, l7] at hK ⊢
          refine wpOp_want rfl (by rfl) ?_
          go_simp
          exact hK _ _ _ rfl (Chg.refl _ _) rfl
        · have l7 := hdep 7 (by kernel_rfl)
          replace l7 : us 7 = .bool false := l7
          have l10 := hdep 10 (by kernel_rfl)
          replace l10 : us 10 = .agg #[.slice a1 n1 c1, .slice a2 n2 c2] := l10
          simp only [List.getD_cons_succ, List.getD_cons_zero, List.setIfInBounds_toArray, List.set_cons_succ, List.set_cons_zero, l7, l10] at hK ⊢
          refine wpOp_want rfl (by rfl) ?_
          go_simp
          refine (HB.out W hC).mono ?_
          rintro e wz ⟨tb9, td9, rfl, hf, hz⟩
          exact hK _ _ _ rfl hz ⟨tb9, td9, rfl, row_base hf hC.size⟩
        · have l7 := hdep 7 (by kernel_rfl)
          replace l7 : us 7 = .bool false := l7
          have l9 := hdep 9 (by kernel_rfl)
          obtain ⟨ta9, tc9, l9, p9⟩ := l9
          have l11 := hdep 11 (by kernel_rfl)
          obtain ⟨tb9, td9, l11, p11⟩ := l11
          simp only [List.getD_cons_succ, List.getD_cons_zero, List.setIfInBounds_toArray, List.set_cons_succ, List.set_cons_zero, l7, l9, l11] at hK ⊢
          refine wpOp_want rfl (by rfl) ?_
          go_simp
          refine (HC.out W ta9 tc9 tb9 td9 p9 p11).mono ?_
          rintro e wz ⟨rfl, hz⟩
          exact hK _ _ _ rfl hz rfl
        · have l7 := hdep 7 (by kernel_rfl)
          replace l7 : us 7 = .bool false := l7
          have l12 := hdep 12 (by kernel_rfl)
          replace l12 : us 12 = .bool true := l12
          simp only [List.getD_cons_succ, List.getD_cons_zero, List.setIfInBounds_toArray, List.set_cons_succ, List.set_cons_zero, l7, l12] at hK ⊢
          refine wpOp_want rfl (by rfl) ?_
          go_simp
          exact hK _ _ _ rfl (Chg.refl _ _) rfl
        · have l7 := hdep 7 (by kernel_rfl)
          replace l7 : us 7 = .bool false := l7
          have l13 := hdep 13 (by kernel_rfl)
          replace l13 : us 13 = .bool false := l13
          simp only [List.getD_cons_succ, List.getD_cons_zero, List.setIfInBounds_toArray, List.set_cons_succ, List.set_cons_zero, l7, l13] at hK ⊢
          refine wpOp_at rfl rfl ?_
          go_simp
          exact hK _ _ _ rfl (Chg.refl _ _) rfl
        · have l14 := hdep 14 (by kernel_rfl)
          replace l14 : us 14 = .bool false := l14
          simp only [List.getD_cons_succ, List.getD_cons_zero, List.setIfInBounds_toArray, List.set_cons_succ, List.set_cons_zero, l14] at hK ⊢
          refine wpOp_at rfl rfl ?_
          go_simp
          exact hK _ _ _ rfl (Chg.refl _ _) rfl
        · have l15 := hdep 15 (by kernel_rfl)
          replace l15 : us 15 = .bool false := l15
          simp only [List.getD_cons_succ, List.getD_cons_zero, List.setIfInBounds_toArray, List.set_cons_succ, List.set_cons_zero, l15] at hK ⊢
          refine wpOp_want rfl (by rfl) ?_
          go_simp
          exact hK _ _ _ rfl (Chg.refl _ _) rfl
        · have l15 := hdep 15 (by kernel_rfl)
          replace l15 : us 15 = .bool false := l15
          have l16 := hdep 16 (by kernel_rfl)
          replace l16 : us 16 = .pointer (some ⟨w3.heap.size, 1, none⟩) := l16
          simp only [List.getD_cons_succ, List.getD_cons_zero, List.setIfInBounds_toArray, List.set_cons_succ, List.set_cons_zero, l15, l16] at hK ⊢
          refine wpOp_want rfl (by rfl) ?_
          go_simp
          exact hK _ _ _ rfl (Chg.refl _ _) rfl
        · have l15 := hdep 15 (by kernel_rfl)
          replace l15 : us 15 = .bool false := l15
          have l17 := hdep 17 (by kernel_rfl)
          replace l17 : us 17 = .slice (some ⟨G, 0, none⟩) n2 d2 := l17
          simp only [List.getD_cons_succ, List.getD_cons_zero, List.setIfInBounds_toArray, List.set_cons_succ, List.set_cons_zero, l15, l17] at hK ⊢
          refine wpOp_want rfl (by rfl) ?_
          go_simp
          exact hK _ _ _ rfl (Chg.refl _ _) rfl
        · have l15 := hdep 15 (by kernel_rfl)
          replace l15 : us 15 = .bool false := l15
          simp only [List.getD_cons_succ, List.getD_cons_zero, List.setIfInBounds_toArray, List.set_cons_succ, List.set_cons_zero, l15] at hK ⊢
          refine wpOp_want rfl (by rfl) ?_
          go_simp
          exact hK _ _ _ rfl (Chg.refl _ _) rfl
        · have l15 := hdep 15 (by kernel_rfl)
          replace l15 : us 15 = .bool false := l15
          have l19 := hdep 19 (by kernel_rfl)
          replace l19 : us 19 = .pointer (some ⟨w.heap.size, 1, none⟩) := l19
          simp only [List.getD_cons_succ, List.getD_cons_zero, List.setIfInBounds_toArray, List.set_cons_succ, List.set_cons_zero, l15, l19] at hK ⊢
          refine wpOp_want rfl (by rfl) ?_
          go_simp
          exact hK _ _ _ rfl (Chg.refl _ _) rfl
        · have l15 := hdep 15 (by kernel_rfl)
          replace l15 : us 15 = .bool false := l15
          have l20 := hdep 20 (by kernel_rfl)
          replace l20 : us 20 = .slice a2 n2 c2 := l20
          simp only [List.getD_cons_succ, List.getD_cons_zero, List.setIfInBounds_toArray, List.set_cons_succ, List.set_cons_zero, l15, l20] at hK ⊢
          refine wpOp_want rfl (by rfl) ?_
          go_simp
          exact hK _ _ _ rfl (Chg.refl _ _) rfl
        · have l15 := hdep 15 (by kernel_rfl)
          replace l15 : us 15 = .bool false := l15
          have l18 := hdep 18 (by kernel_rfl)
          replace l18 : us 18 = .int .i64 n2 := l18
          have l21 := hdep 21 (by kernel_rfl)
          replace l21 : us 21 = .int .i64 n2 := l21
          simp only [List.getD_cons_succ, List.getD_cons_zero, List.setIfInBounds_toArray, List.set_cons_succ, List.set_cons_zero, l15, l18, l21] at hK ⊢
          refine wpOp_want rfl (by rfl) ?_
          go_simp
          exact hK _ _ _ rfl (Chg.refl _ _) rfl
        · have l15 := hdep 15 (by kernel_rfl)
          replace l15 : us 15 = .bool false := l15
          have l22 := hdep 22 (by kernel_rfl)
          replace l22 : us 22 = .bool false := l22
          simp only [List.getD_cons_succ, List.getD_cons_zero, List.setIfInBounds_toArray, List.set_cons_succ, List.set_cons_zero, l15, l22] at hK ⊢
          refine wpOp_at rfl rfl ?_
          go_simp
          exact hK _ _ _ rfl (Chg.refl _ _) rfl
      case hdone6 =>
        intro us W hC hall
        have l0 := hall 0 (by decide)
        replace l0 : us 0 = .bool true := l0
        have l1 := hall 1 (by decide)
        replace l1 : us 1 = .bool false := l1
        have l2 := hall 2 (by decide)
        replace l2 : us 2 = .bool false := l2
        have l3 := hall 3 (by decide)
        replace l3 : us 3 = .agg #[.slice b1 n1 d1, .slice (some ⟨G, 0, none⟩) n2 d2] := l3
        have l4 := hall 4 (by decide)
        replace l4 : us 4 = .bool true := l4
        have l5 := hall 5 (by decide)
        replace l5 : us 5 = .bool false := l5
        have l6 := hall 6 (by decide)
        replace l6 : us 6 = .bool false := l6
        have l7 := hall 7 (by decide)
        replace l7 : us 7 = .bool false := l7
        have l8 := hall 8 (by decide)
        replace l8 : us 8 = .agg #[.slice b1 n1 d1, .slice (some ⟨G, 0, none⟩) n2 d2] := l8
        have l9 := hall 9 (by decide)
        obtain ⟨ta9, tc9, l9, p9⟩ := l9
        have l10 := hall 10 (by decide)
        replace l10 : us 10 = .agg #[.slice a1 n1 c1, .slice a2 n2 c2] := l10
        have l11 := hall 11 (by decide)
        obtain ⟨tb9, td9, l11, p11⟩ := l11
        have l12 := hall 12 (by decide)
        replace l12 : us 12 = .bool true := l12
        have l13 := hall 13 (by decide)
        replace l13 : us 13 = .bool false := l13
        have l14 := hall 14 (by decide)
        replace l14 : us 14 = .bool false := l14
        have l15 := hall 15 (by decide)
        replace l15 : us 15 = .bool false := l15
        have l16 := hall 16 (by decide)
        replace l16 : us 16 = .pointer (some ⟨w3.heap.size, 1, none⟩) := l16
        have l17 := hall 17 (by decide)
        replace l17 : us 17 = .slice (some ⟨G, 0, none⟩) n2 d2 := l17
        have l18 := hall 18 (by decide)
        replace l18 : us 18 = .int .i64 n2 := l18
        have l19 := hall 19 (by decide)
        replace l19 : us 19 = .pointer (some ⟨w.heap.size, 1, none⟩) := l19
        have l20 := hall 20 (by decide)
        replace l20 : us 20 = .slice a2 n2 c2 := l20
        have l21 := hall 21 (by decide)
        replace l21 : us 21 = .int .i64 n2 := l21
        have l22 := hall 22 (by decide)
        replace l22 : us 22 = .bool false := l22
        have l23 := hall 23 (by decide)
        replace l23 : us 23 = .bool false := l23
        simp only [actU, Act.put, List.setIfInBounds_toArray, List.set_cons_succ, List.set_cons_zero, Nat.reduceAdd, l0, l1, l2, l3, l4, l5, l6, l7, l8, l9, l10, l11, l12, l13, l14, l15, l16, l17, l18, l19, l20, l21, l22, l23]
        clear hall l0 l1 l2 l3 l4 l5 l6 l7 l8 l9 l10 l11 l12 l13 l14 l15 l16 l17 l18 l19 l20 l21 l22 l23
        obtain ⟨w5, rfl⟩ : ∃ w5, w5 = W := ⟨_, rfl⟩
        have H5 := Lib.hid (And.intro (hC.heap H4.out.1 (by simp)) (And.intro (hC.heap H4.out.2.1 (by simp)) (And.intro (H4.out.2.2.1.tr hC) (And.intro (H4.out.2.2.2.1.keep hC.kp) (H4.out.2.2.2.2.chg0 hC)))))
        clear hC p9 p11 HW HA HB HC
        obtain ⟨x0, x1⟩ := cells2 H5.out.1
        obtain ⟨y0, y1⟩ := cells2 H5.out.2.1
        go_wp2_with fail
        have hmk : ∀ x ∈ (mendG g).nodes, x.kids.length ≤ 300 := fun x hx => by obtain ⟨y, hy, e⟩ := mend_from hx; rw [e]; exact HS.out y hy
        refine (wellMend_any _ b1 n1 d1 _ n2 d2 (mendG g) H5.out.2.2.2.1 (mend_reach H.out.2.1) hs1 hs2 hmk).mono ?_
        rintro e w6 ⟨hif, h6⟩
        rw [mend_right HR.out, if_pos rfl] at hif
        obtain ⟨e1, f1, e2, f2, M, rfl, hM, hO2⟩ := hif
        rw [mend_idle HR.out, mendL_nil] at hM
        have hl1 : (mendG g).rules.length = n1 := H.out.2.2.1.symm
        have hl2 : (mendG g).nodes.length = n2 := by rw [H.out.2.2.2]; exact mendL_len _ _
        rw [hl1, hl2]
        have hgy : GramAt w6 e1 n1 f1 e2 n2 f2 (mendG g) := OwnG.at_ (g := mendG g) hO2 hM hl1.symm hl2.symm (mend_wf H.out.1.wf)
        have hca := (Chg.refl [] w6).alloc (.cells #[.slice e1 n1 f1, .slice e2 n2 f2] 25)
        have hcb := h6.tr hca
        have H6 := Lib.hid (And.intro (hcb.heap H5.out.1 (by simp)) (And.intro (hcb.heap H5.out.2.1 (by simp)) (And.intro (H5.out.2.2.1.tr hcb) (And.intro (H5.out.2.2.2.1.keep hcb.kp) (And.intro (H5.out.2.2.2.2.chg0 hcb) (And.intro (heap_alloc_same w6 (.cells #[.slice e1 n1 f1, .slice e2 n2 f2] 25)) (hgy.keep hca.kp)))))))
        clear hmk h6 hM hO2 hl1 hl2 hgy hca hcb x0 x1 y0 y1
        go_wp2_with fail
        obtain ⟨wa, ea⟩ : ∃ wa, wa = w6.alloc (.cells #[.slice e1 n1 f1, .slice e2 n2 f2] 25) := ⟨_, rfl⟩
        rw [← ea] at H6 ⊢
        clear ea
        obtain ⟨x0, x1⟩ := cells2 H6.out.1
        obtain ⟨y0, y1⟩ := cells2 H6.out.2.1
        obtain ⟨z0, z1⟩ := cells2 H6.out.2.2.2.2.2.1
        obtain ⟨v, hv⟩ : ∃ v, v = wellB g := ⟨_, rfl⟩
        have cA := calls_rg (w := wa) (fun w1 h1 => kitSameGram_any w1 _ _ _ _ _ _ _ _ _ _ _ _ _ _ (H6.out.2.2.2.2.2.2.keep h1.kp) (H6.out.2.2.2.1.keep h1.kp))
        rw [sameG_refl] at cA
        have cB := calls_rg (w := wa) (fun w1 h1 => wellWell_any w1 _ _ _ _ _ _ g (H.out.1.keep (H6.out.2.2.1.tr h1).kp) H.out.2.1)
        rw [← hv] at cB
        have cC := calls_rg (w := wa) (fun w1 h1 => kitSameGram_any w1 _ _ _ _ _ _ _ _ _ _ _ _ _ _ (H6.out.2.2.2.1.keep h1.kp) (H.out.1.keep (H6.out.2.2.1.tr h1).kp))
        rw [mend_sameG HR.out, ← hv] at cC
        have kx0 := cell_rg x0
        have kx1 := cell_rg x1
        have ky0 := cell_rg y0
        have ky1 := cell_rg y1
        have kz0 := cell_rg z0
        have kz1 := cell_rg z1
        clear hv x0 x1 y0 y1 z0 z1
        refine wp_region_quiet_below (by kernel_rfl) (by kernel_rfl) ?_
        repeat (go_big_quiet_step (first | (with_reducible exact cA _ _) | (with_reducible exact cB _ _) | (with_reducible exact cC _ _)))
        refine wpQuiet_nil ?_
        intro w7 hw7
        have hc7 := chg_of_rg hw7
        have H7 := Lib.hid (And.intro (hc7.heap H6.out.1 (by simp)) (And.intro (hc7.heap H6.out.2.1 (by simp)) (And.intro (H6.out.2.2.1.tr hc7) (H6.out.2.2.2.2.1.chg0 hc7))))
        clear hw7 hc7 cA cB cC kx0 kx1 ky0 ky1 kz0 kz1
        go_wp2_with fail
        go_loopg [7] n2 (fun d iv wr => ∃ n : Nat, d = n2 - n ∧ n ≤ n2 ∧ iv = .int .i64 n ∧ Hid (Chg [G] w7 wr ∧ ∃ M : List Cp, M.map (·.1) = backL g n ∧ OwnG w2.heap.size wr b1 d1 (some ⟨G, 0, none⟩) d2 M g.rules))
        case atStart => exact ⟨0, rfl, Nat.zero_le _, rfl, Lib.hid ⟨Chg.refl _ _, L, by rw [backL_zero]; exact H3.out.2.2.2.2.2.1, H7.out.2.2.2⟩⟩
        case round =>
          obtain ⟨n, rfl, hn, rfl, hin⟩ := hrel
          obtain ⟨wq, rfl⟩ : ∃ wz, wz = wr := ⟨_, rfl⟩
          have hGs := HG.out.1
          have hGl := HG.out.2.1
          have hwl := HG.out.2.2
          have hcq : Chg [] w wq := H7.out.2.2.1.trans hin.out.1 (fun j hj => .inr (by simp at hj; omega))
          have hbx := hin.out.1.heap H7.out.1 (by simp; omega)
          have hby := hin.out.1.heap H7.out.2.1 (by simp; omega)
          obtain ⟨x0, x1⟩ := cells2 hbx
          obtain ⟨y0, y1⟩ := cells2 hby
          by_cases hlt : n < n2
          · have hnl : n < g.nodes.length := by have := H.out.2.2.2; omega
            have hI := wellIdle_any wq _ _ _ _ _ _ g (H.out.1.keep hcq.kp) H.out.2.1 (n : Int)
            have HQ := Lib.hid (And.intro hcq (And.intro hbx (And.intro hby hnl)))
            clear hcq hbx hby hnl hGs hGl hwl
            by_cases hid : (n : Int) ∈ idleL g
            · rw [decide_eq_true hid] at hI
              go_wp2_with fail
              refine hI.mono ?_
              clear hI
              rintro e ws ⟨rfl, hcs⟩
              obtain ⟨M, hM, hown⟩ := hin.out.2
              have hown2 := hown.chg0 hcs
              have hMl : M.length = g.nodes.length := by have h1 := congrArg List.length hM; rwa [List.length_map, backL_len] at h1
              have hnM : n < M.length := by have := HQ.out.2.2.2; omega
              obtain ⟨-, kc, kf, -, kput⟩ := hown2.kindPut hnM rfl
              clear x0 x1 y0 y1
              obtain ⟨x0, x1⟩ := cells2 (hcs.heap HQ.out.2.1 (by simp))
              obtain ⟨y0, y1⟩ := cells2 (hcs.heap HQ.out.2.2.1 (by simp))
              obtain ⟨bn, on, ak, nk, ck, rfl, hx⟩ := (H.out.1.keep (HQ.out.1.tr hcs).kp).nodes n HQ.out.2.2.2
              have k0 := hx.k
              obtain ⟨kk, hkk⟩ : ∃ kk, kk = (g.nodes[n]'HQ.out.2.2.2).k := ⟨_, rfl⟩
              rw [← hkk] at k0
              have hput := backL_put (g := g) HQ.out.2.2.2
              have hqe : (M[n]).1 = (backL g n)[n]'(by rw [backL_len]; exact HQ.out.2.2.2) := by
                have : (M.map (·.1))[n]? = (backL g n)[n]? := by rw [hM]
                rw [List.getElem?_map, List.getElem?_eq_getElem hnM, List.getElem?_eq_getElem (by rw [backL_len]; exact HQ.out.2.2.2)] at this
                exact Option.some.inj this
              rw [← hqe, ← hkk, ← hM] at hput
              have HP := Lib.hid (And.intro (kput kk) (And.intro hput (hin.out.1.tr0 hcs)))
              clear hcs hM hown hown2 hMl kput hx hkk hput hqe
              go_wp2_with fail
              go_region
              all_goals go_wp2_with fail
              all_goals go_roundg (n2 - (n + 1))
              all_goals first
                | omega
                | exact ⟨n + 1, rfl, by omega, by go_num, Lib.hid ⟨(HP.out.2.2.drewN _).setCell (p := ⟨G, n * 9, none⟩) (.inl (by simp)) _, _, by rw [List.map_set]; exact HP.out.2.1, HP.out.1.chg0 ((Chg.refl _ _).drewN _)⟩⟩
            · rw [decide_eq_false hid] at hI
              have HI := Lib.hid hid
              go_wp2_with fail
              refine hI.mono ?_
              clear hI
              rintro e ws ⟨rfl, hcs⟩
              have HP := Lib.hid hcs
              clear hcs x0 x1 y0 y1
              go_wp2_with fail
              go_roundg (n2 - (n + 1))
              case measure => omega
              case rel =>
                obtain ⟨M, hM, hown⟩ := hin.out.2
                exact ⟨n + 1, rfl, by omega, by go_num, Lib.hid ⟨hin.out.1.tr0 HP.out, M, by rw [hM, backL_skip HQ.out.2.2.2 HI.out], hown.chg0 HP.out⟩⟩
          · obtain rfl : n = n2 := by omega
            obtain ⟨M, hM, hown⟩ := hin.out.2
            rw [H.out.2.2.2, backL_end] at hM
            have hgx : GramAt wq b1 n1 d1 (some ⟨G, 0, none⟩) n d2 g := OwnG.at_ hown hM H.out.2.2.1 H.out.2.2.2 H.out.1.wf
            have hS := kitSameGram_any wq _ _ _ _ _ _ _ _ _ _ _ _ _ _ hgx (H.out.1.keep hcq.kp)
            rw [sameG_refl] at hS
            have HQ := Lib.hid hcq
            clear hM hown hgx hcq hbx hby hin hGs hGl hwl
            go_wp2_with fail
            refine hS.mono ?_
            clear hS
            rintro e w9 ⟨rfl, h9⟩
            have H9 := Lib.hid (HQ.out.tr h9)
            clear h9 x0 x1 y0 y1
            go_wp2_with fail
            go_ret
            exact ⟨rfl, H9.out⟩
end Go.Proofs.Ytibgfgfmljhimaa

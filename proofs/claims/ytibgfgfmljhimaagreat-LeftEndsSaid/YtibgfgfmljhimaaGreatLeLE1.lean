/-
  LeftEnds: a node of a kind; rows, rings, stars, ladders of rules.
  Conditions: none.
-/
import Derived.Test.YtibgfgfmljhimaaGreatLeNEk
import Derived.Test.YtibgfgfmljhimaaGreatLeLG1
import Derived.Test.YtibgfgfmljhimaaGreatLeLT1
import Derived.Laws.IdiomStrings
set_option linter.unusedVariables false
set_option linter.unusedSimpArgs false
set_option linter.unnecessarySimpa false
namespace Go.Proofs.YtibgfgfmljhimaaGreat
open Go.RowKit Go.MapKept Go.Shelf

theorem goes12_fit {B : Nat} {w : World} {b1 : Option Addr} {n d1 : Nat} {b2 : Option Addr} {m d2 : Nat} {rs : List Rl} {L : List Cp} (h : FG B w b1 n d1 b2 m d2 rs L) (x y : Int) :
    Calls Tryz.prog 25 #[.agg #[.slice b1 n d1, .slice b2 m d2], .int .i64 x, .int .i64 y] w fun e w' => e = .returned (.bool true) ∧ Chg [] w w' := by
  obtain ⟨g1, g2⟩ := h.gram
  exact goes12_any w b1 n d1 b2 m d2 _ g1 g2 (by have := h.fn; omega) (by have := h.fm; omega) (fun z hz => by have := h.fk z hz; omega) x y
theorem nodes12_fit {B : Nat} {w : World} {b1 : Option Addr} {n d1 : Nat} {b2 : Option Addr} {m d2 : Nat} {rs : List Rl} {L : List Cp} (h : FG B w b1 n d1 b2 m d2 rs L) (x : Int) :
    Calls Tryz.prog 26 #[.agg #[.slice b1 n d1, .slice b2 m d2], .int .i64 x] w fun e w' => e = .returned (.bool true) ∧ Chg [] w w' := by
  obtain ⟨g1, g2⟩ := h.gram
  exact nodes12_any w b1 n d1 b2 m d2 _ g1 g2 (by have := h.fn; omega) (by have := h.fm; omega) (fun z hz => by have := h.fk z hz; omega) x

set_option maxRecDepth 100000 in
set_option maxHeartbeats 4000000 in
theorem over12_any (w : World) (k : Int) (hk : k = 1 ∨ k = 2 ∨ k = 4 ∨ k = 8 ∨ k = 9 ∨ k = 10 ∨ k = 11 ∨ k = 12) (a : Option Addr) (n c : Nat) (hx : FBody w a n c) (hl : n ≤ 100) :
    Calls Tryz.prog 27 #[.int .i64 k, .slice a n c] w (FitBody (n + 1) w) := by
  have H := Lib.hid hx
  clear hx
  rcases hk with rfl | rfl | rfl | rfl | rfl | rfl | rfl | rfl
  · go_enter Tryz.func27, Tryz.ntmps27
    go_wp2_with fail
    refine (Leaf_fit _ _ (by decide)).mono ?_
    rintro e w1 ⟨a3, n3, c3, rfl, h1, h2, h3⟩
    go_wp2_with fail
    go_ret
    exact ⟨a3, n3, c3, rfl, by omega, h2, h3⟩
  · go_enter Tryz.func27, Tryz.ntmps27
    go_wp2_with fail
    refine (Leaf_fit _ _ (by decide)).mono ?_
    rintro e w1 ⟨a3, n3, c3, rfl, h1, h2, h3⟩
    go_wp2_with fail
    go_ret
    exact ⟨a3, n3, c3, rfl, by omega, h2, h3⟩
  · go_enter Tryz.func27, Tryz.ntmps27
    go_wp2_with fail
    refine (Word_fit _ _ (by decide)).mono ?_
    rintro e w1 ⟨a3, n3, c3, rfl, h1, h2, h3⟩
    go_wp2_with fail
    go_ret
    exact ⟨a3, n3, c3, rfl, by omega, h2, h3⟩
  · go_enter Tryz.func27, Tryz.ntmps27
    go_wp2_with fail
    refine (In_fit w 8 (by decide) a n c H.out (by omega)).mono ?_
    rintro e w1 ⟨a3, n3, c3, rfl, h1, h2, h3⟩
    go_wp2_with fail
    go_ret
    exact ⟨a3, n3, c3, rfl, by omega, h2, h3⟩
  · go_enter Tryz.func27, Tryz.ntmps27
    go_wp2_with fail
    refine (In_fit w 9 (by decide) a n c H.out (by omega)).mono ?_
    rintro e w1 ⟨a3, n3, c3, rfl, h1, h2, h3⟩
    go_wp2_with fail
    go_ret
    exact ⟨a3, n3, c3, rfl, by omega, h2, h3⟩
  · go_enter Tryz.func27, Tryz.ntmps27
    go_wp2_with fail
    refine (In_fit w 10 (by decide) a n c H.out (by omega)).mono ?_
    rintro e w1 ⟨a3, n3, c3, rfl, h1, h2, h3⟩
    go_wp2_with fail
    go_ret
    exact ⟨a3, n3, c3, rfl, by omega, h2, h3⟩
  · go_enter Tryz.func27, Tryz.ntmps27
    go_wp2_with fail
    refine (In_fit w 11 (by decide) a n c H.out (by omega)).mono ?_
    rintro e w1 ⟨a3, n3, c3, rfl, h1, h2, h3⟩
    go_wp2_with fail
    go_ret
    exact ⟨a3, n3, c3, rfl, by omega, h2, h3⟩
  · go_enter Tryz.func27, Tryz.ntmps27
    go_wp2_with fail
    refine (In_fit w 12 (by decide) a n c H.out (by omega)).mono ?_
    rintro e w1 ⟨a3, n3, c3, rfl, h1, h2, h3⟩
    go_wp2_with fail
    go_ret
    exact ⟨a3, n3, c3, rfl, by omega, h2, h3⟩

set_option maxRecDepth 100000 in
set_option maxHeartbeats 64000000 in
theorem shapes12_any (w : World) : Calls Tryz.prog 29 #[] w fun e w' => e = .returned (.bool true) ∧ Chg [] w w' := by
  obtain ⟨j0, hj0, hy0, hy1, hy2⟩ := info_parts Tryz.infoBody9
  go_enter Tryz.func29, Tryz.ntmps29
  go_wp2_with fail
  go_loopg [1] 33 (fun dd iv wr => ∃ n : Nat, dd = 34 - n ∧ 1 ≤ n ∧ n ≤ 40 ∧ iv = .int .i64 n ∧ Hid (Chg [] w wr))
  case atStart => exact ⟨1, rfl, Nat.le_refl _, by decide, rfl, Lib.hid (Chg.refl _ _)⟩
  case round =>
    obtain ⟨n, rfl, hn1, hn, rfl, hin⟩ := hrel
    obtain ⟨wq, rfl⟩ : ∃ wz, wz = wr := ⟨_, rfl⟩
    by_cases hln : n < 34
    · go_wp2_with fail
      rw [show decide ((n : Int) < 34) = true from decide_eq_true (by omega)]
      go_loopg [2] 4 (fun dd iv wr => ∃ k : Nat, dd = 4 - k ∧ k ≤ 4 ∧ iv = .int .i64 k ∧ Hid (Chg [] w wr))
      case atStart => exact ⟨0, rfl, Nat.zero_le _, rfl, hin⟩
      case round =>
        obtain ⟨k, rfl, hk, rfl, hin2⟩ := hrel
        obtain ⟨wp, rfl⟩ : ∃ wz, wz = wr := ⟨_, rfl⟩
        by_cases hlk : k < 4
        · go_wp2_with fail
          rw [show decide ((k : Int) < 4) = true from decide_eq_true (by omega)]
          go_loopg [4, 3] n (fun dd iv bv wr => ∃ (i : Nat) (ba : Option Addr) (bc : Nat), dd = n - i ∧ i ≤ n ∧ iv = .int .i64 i ∧ bv = .slice ba i bc ∧ Hid (∃ VS, BRow wp.heap.size wr ba i bc VS ∧ Chg [] wp wr))
          case atStart => exact ⟨0, none, 0, rfl, Nat.zero_le _, rfl, rfl, Lib.hid ⟨[], BRow.nil _ _, Chg.refl _ _⟩⟩
          case round =>
            obtain ⟨i, ba, bc, rfl, hi, rfl, rfl, hin3⟩ := hrel
            obtain ⟨ws, rfl⟩ : ∃ wz, wz = wr := ⟨_, rfl⟩
            by_cases hli : i < n
            · rcases (show k = 0 ∨ k = 1 ∨ k = 2 ∨ k = 3 by omega) with rfl | rfl | rfl | rfl
              · have hz0 : 0 ≤ ((i : Int) + 1) % n ∧ ((i : Int) + 1) % n < n := ⟨Int.emod_nonneg _ (by omega), Int.emod_lt_of_pos _ (by omega)⟩
                have hz1 : True := trivial
                have HZ9 := Lib.hid (And.intro hz0 hz1)
                clear hz0 hz1
                go_wp2_with fail
                refine (Call_fit _ _ _ (by have := HZ9.out; constructor <;> omega) (by decide)).mono ?_
                rintro e wa ⟨ra, na, ca, rfl, ma, fa, ha⟩
                have HF := Lib.hid (And.intro ha fa)
                clear ha fa
                obtain ⟨VS, hV, hcV⟩ := hin3.out
                have hca := (Chg.refl [] wa).alloc (.cells #[.slice ra na ca] 23)
                have hCd := HF.out.1
                have hV2 := hV.chg0 (hCd.tr hca)
                have hnew := cells_at (w := wa.alloc (.cells #[.slice ra na ca] 23)) (heap_alloc_same _ _)
                have h1' : ∀ u ∈ [Value.slice ra na ca], u.oneCell' = true := by simp [Value.oneCell']
                have h2' : i + 1 ≤ maxLen ∧ (i + 1) * 24 ≤ 140737488355328 := by simp only [maxLen]; omega
                have hb' : wp.heap.size ≤ (wa.alloc (.cells #[.slice ra na ca] 23)).heap.size := ((hcV.tr hCd).tr hca).size
                have HA := Lib.hid (And.intro hV2.row (And.intro hnew (And.intro h1' (And.intro h2' (And.intro hb' hV2)))))
                have HD := Lib.hid (And.intro ((hcV.tr hCd).tr hca) (HF.out.2.chg0 hca))
                clear hnew h1' h2' hb' hca hCd hV2 hV hcV
                go_wp2_with (at_builtin; refine wpList_append_own_at _ rfl _ _ 37 rfl wp.heap.size 23 j0 _ 1 24 Tryz.underlying37 hj0 hy0 hy1 hy2 rfl (by decide) (.slice ba i bc) i (VS.map fun v => .slice v.1 v.2.1 v.2.2) rfl HA.out.1 ⟨wa.heap.size, 0, none⟩ 1 1 [.slice ra na ca] rfl rfl HA.out.2.1 HA.out.2.2.1 HA.out.2.2.2.1.1 HA.out.2.2.2.1.2 HA.out.2.2.2.2.1 ?_; intro v' w7 hr7 hg7 hn7 hb7; obtain ⟨a7, c7, rfl⟩ := ownsRow_slice hr7; have HW := Lib.hid (And.intro hr7 (And.intro hg7 hb7)); clear hr7 hg7 hn7 hb7)
                obtain ⟨s1, s2⟩ := HA.out.2.2.2.2.2.snoc HD.out.2 (by omega) HW.out.1 HW.out.2.1
                have HE := Lib.hid (And.intro s1 (s2 wp HD.out.1 (Nat.le_refl _)))
                clear s1 s2
                go_roundg (n - (i + 1))
                case measure => omega
                case rel => exact ⟨i + 1, a7, c7, rfl, by omega, by go_num, rfl, Lib.hid ⟨_, HE.out.1, HE.out.2⟩⟩
              · have hz0 : 0 ≤ ((i : Int) + 1) % n ∧ ((i : Int) + 1) % n < n := ⟨Int.emod_nonneg _ (by omega), Int.emod_lt_of_pos _ (by omega)⟩
                have hz1 : 0 ≤ ((i : Int) + 2) % n ∧ ((i : Int) + 2) % n < n := ⟨Int.emod_nonneg _ (by omega), Int.emod_lt_of_pos _ (by omega)⟩
                have HZ9 := Lib.hid (And.intro hz0 hz1)
                clear hz0 hz1
                go_wp2_with fail
                refine (Call_fit _ _ _ (by have := HZ9.out; constructor <;> omega) (by decide)).mono ?_
                rintro e wa ⟨ra, na, ca, rfl, ma, fa, ha⟩
                have HF := Lib.hid (And.intro ha fa)
                clear ha fa
                have hw9 : IntKind.i64.wrap ((i : Int) + 2) = (i : Int) + 2 := IntWalk.i64_in _ (by omega)
                have hw8 : IntKind.i64.wrap ((i : Int) + 1) = (i : Int) + 1 := IntWalk.i64_in _ (by omega)
                have hn0 : ¬ n = 0 := by omega
                have htm1 : ((i : Int) + 2).tmod n = ((i : Int) + 2) % n := Int.tmod_eq_emod_of_nonneg (by omega)
                have htm2 : ((i : Int) + 1).tmod n = ((i : Int) + 1) % n := Int.tmod_eq_emod_of_nonneg (by omega)
                have hrm1 : IntKind.i64.wrap (((i : Int) + 2) % n) = ((i : Int) + 2) % n := IntWalk.i64_in _ (by have := HZ9.out; omega)
                have hrm2 : IntKind.i64.wrap (((i : Int) + 1) % n) = ((i : Int) + 1) % n := IntWalk.i64_in _ (by have := HZ9.out; omega)
                go_wp2_with fail
                refine wp_region_st (by kernel_rfl) (by kernel_rfl) [33, 34, 35, 36, 37, 38, 39, 40, 41, 42, 43, 5] (by kernel_rfl) (fun rI rV rW => match rI with | 0 => rV = .int .i64 i | 1 => rV = .int .i64 ((i : Int) + 2) | 2 => rV = .int .i64 n | 3 => rV = .int .i64 (((i : Int) + 2) % n) | 4 => ∃ r37 n37 c37, rV = .slice r37 n37 c37 ∧ n37 ≤ 1 ∧ FBody rW r37 n37 c37 | 5 => rV = .int .i64 i | 6 => rV = .int .i64 ((i : Int) + 1) | 7 => rV = .int .i64 n | 8 => rV = .int .i64 (((i : Int) + 1) % n) | 9 => ∃ r42 n42 c42, rV = .slice r42 n42 c42 ∧ n42 ≤ 1 ∧ FBody rW r42 n42 c42 | 10 => ∃ r43 n43 c43, rV = .slice r43 n43 c43 ∧ n43 ≤ 3 ∧ FBody rW r43 n43 c43 | 11 => ∃ r5 n5 c5, rV = .slice r5 n5 c5 ∧ n5 ≤ 3 ∧ FBody rW r5 n5 c5 | _ => True) ?hS0 ?hstep0 ?hdone0
                case hS0 =>
                  intro rI rV rW rW' hc rP
                  match rI, rP with
                  | 0, rP => exact rP
                  | 1, rP => exact rP
                  | 2, rP => exact rP
                  | 3, rP => exact rP
                  | 4, rP => exact (by obtain ⟨r37, n37, c37, e9, hp⟩ := rP; exact ⟨r37, n37, c37, e9, ⟨hp.1, hp.2.chg0 hc⟩⟩)
                  | 5, rP => exact rP
                  | 6, rP => exact rP
                  | 7, rP => exact rP
                  | 8, rP => exact rP
                  | 9, rP => exact (by obtain ⟨r42, n42, c42, e9, hp⟩ := rP; exact ⟨r42, n42, c42, e9, ⟨hp.1, hp.2.chg0 hc⟩⟩)
                  | 10, rP => exact (by obtain ⟨r43, n43, c43, e9, hp⟩ := rP; exact ⟨r43, n43, c43, e9, ⟨hp.1, hp.2.chg0 hc⟩⟩)
                  | 11, rP => exact (by obtain ⟨r5, n5, c5, e9, hp⟩ := rP; exact ⟨r5, n5, c5, e9, ⟨hp.1, hp.2.chg0 hc⟩⟩)
                  | _ + 12, _ => trivial
                case hstep0 =>
                  intro rI rH us W hC hdep K hK
                  have hiN : rI < 12 := rH
                  simp only [actU, Act.put, List.setIfInBounds_toArray, List.set_cons_succ, List.set_cons_zero, Nat.reduceAdd] at hK ⊢
                  rcases (show rI = 0 ∨ rI = 1 ∨ rI = 2 ∨ rI = 3 ∨ rI = 4 ∨ rI = 5 ∨ rI = 6 ∨ rI = 7 ∨ rI = 8 ∨ rI = 9 ∨ rI = 10 ∨ rI = 11 by omega) with rfl | rfl | rfl | rfl | rfl | rfl | rfl | rfl | rfl | rfl | rfl | rfl
                  · simp only [List.getD_cons_succ, List.getD_cons_zero, List.setIfInBounds_toArray, List.set_cons_succ, List.set_cons_zero] at hK ⊢
                    refine wpOp_at rfl rfl ?_
                    go_simp
                    exact hK _ _ _ rfl (Chg.refl _ _) rfl
                  · have l0 := hdep 0 (by kernel_rfl)
                    replace l0 : us 0 = .int .i64 i := l0
                    simp only [List.getD_cons_succ, List.getD_cons_zero, List.setIfInBounds_toArray, List.set_cons_succ, List.set_cons_zero, l0] at hK ⊢
                    refine wpOp_at rfl rfl ?_
                    go_simp
                    exact hK _ _ _ rfl (Chg.refl _ _) rfl
                  · simp only [List.getD_cons_succ, List.getD_cons_zero, List.setIfInBounds_toArray, List.set_cons_succ, List.set_cons_zero] at hK ⊢
                    refine wpOp_at rfl rfl ?_
                    go_simp
                    exact hK _ _ _ rfl (Chg.refl _ _) rfl
                  · have l1 := hdep 1 (by kernel_rfl)
                    replace l1 : us 1 = .int .i64 ((i : Int) + 2) := l1
                    have l2 := hdep 2 (by kernel_rfl)
                    replace l2 : us 2 = .int .i64 n := l2
                    simp only [List.getD_cons_succ, List.getD_cons_zero, List.setIfInBounds_toArray, List.set_cons_succ, List.set_cons_zero, l1, l2] at hK ⊢
                    refine wpOp_at rfl rfl ?_
                    go_simp
                    exact hK _ _ _ rfl (Chg.refl _ _) rfl
                  · have l3 := hdep 3 (by kernel_rfl)
                    replace l3 : us 3 = .int .i64 (((i : Int) + 2) % n) := l3
                    simp only [List.getD_cons_succ, List.getD_cons_zero, List.setIfInBounds_toArray, List.set_cons_succ, List.set_cons_zero, l3] at hK ⊢
                    refine wpOp_at rfl rfl ?_
                    go_simp
                    refine (Call_fit W _ _ (by have := HZ9.out; constructor <;> omega) (by decide)).mono ?_
                    rintro e wz ⟨r37, n37, c37, rfl, m37, f37, hz⟩
                    exact hK _ _ _ rfl hz ⟨r37, n37, c37, rfl, ⟨m37, f37⟩⟩
                  · simp only [List.getD_cons_succ, List.getD_cons_zero, List.setIfInBounds_toArray, List.set_cons_succ, List.set_cons_zero] at hK ⊢
                    refine wpOp_at rfl rfl ?_
                    go_simp
                    exact hK _ _ _ rfl (Chg.refl _ _) rfl
                  · have l5 := hdep 5 (by kernel_rfl)
                    replace l5 : us 5 = .int .i64 i := l5
                    simp only [List.getD_cons_succ, List.getD_cons_zero, List.setIfInBounds_toArray, List.set_cons_succ, List.set_cons_zero, l5] at hK ⊢
                    refine wpOp_at rfl rfl ?_
                    go_simp
                    exact hK _ _ _ rfl (Chg.refl _ _) rfl
                  · simp only [List.getD_cons_succ, List.getD_cons_zero, List.setIfInBounds_toArray, List.set_cons_succ, List.set_cons_zero] at hK ⊢
                    refine wpOp_at rfl rfl ?_
                    go_simp
                    exact hK _ _ _ rfl (Chg.refl _ _) rfl
                  · have l6 := hdep 6 (by kernel_rfl)
                    replace l6 : us 6 = .int .i64 ((i : Int) + 1) := l6
                    have l7 := hdep 7 (by kernel_rfl)
                    replace l7 : us 7 = .int .i64 n := l7
                    simp only [List.getD_cons_succ, List.getD_cons_zero, List.setIfInBounds_toArray, List.set_cons_succ, List.set_cons_zero, l6, l7] at hK ⊢
                    refine wpOp_at rfl rfl ?_
                    go_simp
                    exact hK _ _ _ rfl (Chg.refl _ _) rfl
                  · have l8 := hdep 8 (by kernel_rfl)
                    replace l8 : us 8 = .int .i64 (((i : Int) + 1) % n) := l8
                    simp only [List.getD_cons_succ, List.getD_cons_zero, List.setIfInBounds_toArray, List.set_cons_succ, List.set_cons_zero, l8] at hK ⊢
                    refine wpOp_at rfl rfl ?_
                    go_simp
                    refine (Call_fit W _ _ (by have := HZ9.out; constructor <;> omega) (by decide)).mono ?_
                    rintro e wz ⟨r42, n42, c42, rfl, m42, f42, hz⟩
                    exact hK _ _ _ rfl hz ⟨r42, n42, c42, rfl, ⟨m42, f42⟩⟩
                  · have l4 := hdep 4 (by kernel_rfl)
                    obtain ⟨r37, n37, c37, l4, p4⟩ := l4
                    have l9 := hdep 9 (by kernel_rfl)
                    obtain ⟨r42, n42, c42, l9, p9⟩ := l9
                    simp only [List.getD_cons_succ, List.getD_cons_zero, List.setIfInBounds_toArray, List.set_cons_succ, List.set_cons_zero, l4, l9] at hK ⊢
                    refine wpOp_at rfl rfl ?_
                    go_simp
                    refine (First_fit W r37 n37 c37 p4.2 r42 n42 c42 p9.2 (by have := p4.1; have := p9.1; omega)).mono ?_
                    rintro e wz ⟨r43, n43, c43, rfl, m43, f43, hz⟩
                    exact hK _ _ _ rfl hz ⟨r43, n43, c43, rfl, ⟨by have := p4.1; have := p9.1; omega, f43⟩⟩
                  · have l10 := hdep 10 (by kernel_rfl)
                    obtain ⟨r43, n43, c43, l10, p10⟩ := l10
                    simp only [List.getD_cons_succ, List.getD_cons_zero, List.setIfInBounds_toArray, List.set_cons_succ, List.set_cons_zero, l10] at hK ⊢
                    refine wpOp_at rfl rfl ?_
                    go_simp
                    exact hK _ _ _ rfl (Chg.refl _ _) ⟨r43, n43, c43, rfl, p10⟩
                case hdone0 =>
                  intro us W hC hall
                  have l0 := hall 0 (by decide)
                  replace l0 : us 0 = .int .i64 i := l0
                  have l1 := hall 1 (by decide)
                  replace l1 : us 1 = .int .i64 ((i : Int) + 2) := l1
                  have l2 := hall 2 (by decide)
                  replace l2 : us 2 = .int .i64 n := l2
                  have l3 := hall 3 (by decide)
                  replace l3 : us 3 = .int .i64 (((i : Int) + 2) % n) := l3
                  have l4 := hall 4 (by decide)
                  obtain ⟨r37, n37, c37, l4, p4⟩ := l4
                  have l5 := hall 5 (by decide)
                  replace l5 : us 5 = .int .i64 i := l5
                  have l6 := hall 6 (by decide)
                  replace l6 : us 6 = .int .i64 ((i : Int) + 1) := l6
                  have l7 := hall 7 (by decide)
                  replace l7 : us 7 = .int .i64 n := l7
                  have l8 := hall 8 (by decide)
                  replace l8 : us 8 = .int .i64 (((i : Int) + 1) % n) := l8
                  have l9 := hall 9 (by decide)
                  obtain ⟨r42, n42, c42, l9, p9⟩ := l9
                  have l10 := hall 10 (by decide)
                  obtain ⟨r43, n43, c43, l10, p10⟩ := l10
                  have l11 := hall 11 (by decide)
                  obtain ⟨r5, n5, c5, l11, p11⟩ := l11
                  simp only [actU, Act.put, List.setIfInBounds_toArray, List.set_cons_succ, List.set_cons_zero, Nat.reduceAdd, l0, l1, l2, l3, l4, l5, l6, l7, l8, l9, l10, l11]
                  clear hall l0 l1 l2 l3 l4 l5 l6 l7 l8 l9 l10 l11
                  have HF2 := Lib.hid (HF.out.1.tr hC)
                  have HF := Lib.hid (And.intro hC p11)
                  have HF := Lib.hid (And.intro HF2.out HF.out.2.2)
                  have hm5 : n5 ≤ 3 := p11.1
                  clear p4 p9 p10 p11 hC hw9 hw8 hrm1 hrm2 htm2 hn0 htm1
                  obtain ⟨wd, rfl⟩ : ∃ wz, wz = W := ⟨_, rfl⟩
                  obtain ⟨VS, hV, hcV⟩ := hin3.out
                  have hca := (Chg.refl [] wd).alloc (.cells #[.slice r5 n5 c5] 23)
                  have hCd := HF.out.1
                  have hV2 := hV.chg0 (hCd.tr hca)
                  have hnew := cells_at (w := wd.alloc (.cells #[.slice r5 n5 c5] 23)) (heap_alloc_same _ _)
                  have h1' : ∀ u ∈ [Value.slice r5 n5 c5], u.oneCell' = true := by simp [Value.oneCell']
                  have h2' : i + 1 ≤ maxLen ∧ (i + 1) * 24 ≤ 140737488355328 := by simp only [maxLen]; omega
                  have hb' : wp.heap.size ≤ (wd.alloc (.cells #[.slice r5 n5 c5] 23)).heap.size := ((hcV.tr hCd).tr hca).size
                  have HA := Lib.hid (And.intro hV2.row (And.intro hnew (And.intro h1' (And.intro h2' (And.intro hb' hV2)))))
                  have HD := Lib.hid (And.intro ((hcV.tr hCd).tr hca) (HF.out.2.chg0 hca))
                  clear hnew h1' h2' hb' hca hCd hV2 hV hcV
                  go_wp2_with (at_builtin; refine wpList_append_own_at _ rfl _ _ 37 rfl wp.heap.size 23 j0 _ 1 24 Tryz.underlying37 hj0 hy0 hy1 hy2 rfl (by decide) (.slice ba i bc) i (VS.map fun v => .slice v.1 v.2.1 v.2.2) rfl HA.out.1 ⟨wd.heap.size, 0, none⟩ 1 1 [.slice r5 n5 c5] rfl rfl HA.out.2.1 HA.out.2.2.1 HA.out.2.2.2.1.1 HA.out.2.2.2.1.2 HA.out.2.2.2.2.1 ?_; intro v' w7 hr7 hg7 hn7 hb7; obtain ⟨a7, c7, rfl⟩ := ownsRow_slice hr7; have HW := Lib.hid (And.intro hr7 (And.intro hg7 hb7)); clear hr7 hg7 hn7 hb7)
                  obtain ⟨s1, s2⟩ := HA.out.2.2.2.2.2.snoc HD.out.2 (by omega) HW.out.1 HW.out.2.1
                  have HE := Lib.hid (And.intro s1 (s2 wp HD.out.1 (Nat.le_refl _)))
                  clear s1 s2
                  go_roundg (n - (i + 1))
                  case measure => omega
                  case rel => exact ⟨i + 1, a7, c7, rfl, by omega, by go_num, rfl, Lib.hid ⟨_, HE.out.1, HE.out.2⟩⟩
              · have hz0 : 0 ≤ ((i : Int) + 1) % n ∧ ((i : Int) + 1) % n < n := ⟨Int.emod_nonneg _ (by omega), Int.emod_lt_of_pos _ (by omega)⟩
                have hz1 : True := trivial
                have HZ9 := Lib.hid (And.intro hz0 hz1)
                clear hz0 hz1
                go_wp2_with fail
                refine (Call_fit _ _ _ (by have := HZ9.out; constructor <;> omega) (by decide)).mono ?_
                rintro e wa ⟨ra, na, ca, rfl, ma, fa, ha⟩
                have HF := Lib.hid (And.intro ha fa)
                clear ha fa
                go_wp2_with fail
                refine (Call_fit _ _ _ (by constructor <;> omega) (by decide)).mono ?_
                rintro e wb ⟨rb, nb, cb, rfl, mb, fb, hb⟩
                have HF2 := Lib.hid (And.intro (HF.out.1.tr hb) fb)
                clear hb fb
                go_wp2_with fail
                refine (Call_fit _ _ _ (by constructor <;> omega) (by decide)).mono ?_
                rintro e wc ⟨rc, nc, cc, rfl, mc, fc, hc⟩
                have HF3 := Lib.hid (And.intro (HF2.out.1.tr hc) (And.intro (HF2.out.2.chg0 hc) fc))
                clear hc fc
                go_wp2_with fail
                refine (First_fit _ rb nb cb HF3.out.2.1 rc nc cc HF3.out.2.2 (by omega)).mono ?_
                rintro e wd ⟨rd, nd, cd, rfl, md, fd, hd⟩
                have HF := Lib.hid (And.intro (HF3.out.1.tr hd) fd)
                clear hd fd
                obtain ⟨VS, hV, hcV⟩ := hin3.out
                have hca := (Chg.refl [] wd).alloc (.cells #[.slice rd nd cd] 23)
                have hCd := HF.out.1
                have hV2 := hV.chg0 (hCd.tr hca)
                have hnew := cells_at (w := wd.alloc (.cells #[.slice rd nd cd] 23)) (heap_alloc_same _ _)
                have h1' : ∀ u ∈ [Value.slice rd nd cd], u.oneCell' = true := by simp [Value.oneCell']
                have h2' : i + 1 ≤ maxLen ∧ (i + 1) * 24 ≤ 140737488355328 := by simp only [maxLen]; omega
                have hb' : wp.heap.size ≤ (wd.alloc (.cells #[.slice rd nd cd] 23)).heap.size := ((hcV.tr hCd).tr hca).size
                have HA := Lib.hid (And.intro hV2.row (And.intro hnew (And.intro h1' (And.intro h2' (And.intro hb' hV2)))))
                have HD := Lib.hid (And.intro ((hcV.tr hCd).tr hca) (HF.out.2.chg0 hca))
                clear hnew h1' h2' hb' hca hCd hV2 hV hcV
                go_wp2_with (at_builtin; refine wpList_append_own_at _ rfl _ _ 37 rfl wp.heap.size 23 j0 _ 1 24 Tryz.underlying37 hj0 hy0 hy1 hy2 rfl (by decide) (.slice ba i bc) i (VS.map fun v => .slice v.1 v.2.1 v.2.2) rfl HA.out.1 ⟨wd.heap.size, 0, none⟩ 1 1 [.slice rd nd cd] rfl rfl HA.out.2.1 HA.out.2.2.1 HA.out.2.2.2.1.1 HA.out.2.2.2.1.2 HA.out.2.2.2.2.1 ?_; intro v' w7 hr7 hg7 hn7 hb7; obtain ⟨a7, c7, rfl⟩ := ownsRow_slice hr7; have HW := Lib.hid (And.intro hr7 (And.intro hg7 hb7)); clear hr7 hg7 hn7 hb7)
                obtain ⟨s1, s2⟩ := HA.out.2.2.2.2.2.snoc HD.out.2 (by omega) HW.out.1 HW.out.2.1
                have HE := Lib.hid (And.intro s1 (s2 wp HD.out.1 (Nat.le_refl _)))
                clear s1 s2
                go_roundg (n - (i + 1))
                case measure => omega
                case rel => exact ⟨i + 1, a7, c7, rfl, by omega, by go_num, rfl, Lib.hid ⟨_, HE.out.1, HE.out.2⟩⟩
              · have hz0 : 0 ≤ ((i : Int) + 1) % n ∧ ((i : Int) + 1) % n < n := ⟨Int.emod_nonneg _ (by omega), Int.emod_lt_of_pos _ (by omega)⟩
                have hz1 : 0 ≤ ((i : Int) * 2) % n ∧ ((i : Int) * 2) % n < n := ⟨Int.emod_nonneg _ (by omega), Int.emod_lt_of_pos _ (by omega)⟩
                have HZ9 := Lib.hid (And.intro hz0 hz1)
                clear hz0 hz1
                go_wp2_with fail
                refine (Call_fit _ _ _ (by have := HZ9.out; constructor <;> omega) (by decide)).mono ?_
                rintro e wa ⟨ra, na, ca, rfl, ma, fa, ha⟩
                have HF := Lib.hid (And.intro ha fa)
                clear ha fa
                have hw9 : IntKind.i64.wrap ((i : Int) + 3) = (i : Int) + 3 := IntWalk.i64_in _ (by omega)
                have hw8 : IntKind.i64.wrap ((i : Int) * 2) = (i : Int) * 2 := IntWalk.i64_in _ (by omega)
                have hw7 : IntKind.i64.wrap ((n : Int) - 1) = (n : Int) - 1 := IntWalk.i64_in _ (by omega)
                obtain ⟨mn, hmn, hmn2⟩ : ∃ mn : Int, min ((i : Int) + 3) ((n : Int) - 1) = mn ∧ 0 ≤ mn ∧ mn ≤ 100 := ⟨_, rfl, by omega, by omega⟩
                have hn0 : ¬ n = 0 := by omega
                have htm1 : ((i : Int) * 2).tmod n = ((i : Int) * 2) % n := Int.tmod_eq_emod_of_nonneg (by omega)
                have hrm1 : IntKind.i64.wrap (((i : Int) * 2) % n) = ((i : Int) * 2) % n := IntWalk.i64_in _ (by have := HZ9.out; omega)
                go_wp2_with fail
                refine wp_region_st (by kernel_rfl) (by kernel_rfl) [55, 56, 57, 58, 59, 60, 61, 62, 63, 64, 65, 66, 5] (by kernel_rfl) (fun rI rV rW => match rI with | 0 => rV = .int .i64 i | 1 => rV = .int .i64 ((i : Int) + 3) | 2 => rV = .int .i64 n | 3 => rV = .int .i64 ((n : Int) - 1) | 4 => rV = .int .i64 mn | 5 => ∃ r60 n60 c60, rV = .slice r60 n60 c60 ∧ n60 ≤ 1 ∧ FBody rW r60 n60 c60 | 6 => rV = .int .i64 i | 7 => rV = .int .i64 ((i : Int) * 2) | 8 => rV = .int .i64 n | 9 => rV = .int .i64 (((i : Int) * 2) % n) | 10 => ∃ r65 n65 c65, rV = .slice r65 n65 c65 ∧ n65 ≤ 1 ∧ FBody rW r65 n65 c65 | 11 => ∃ r66 n66 c66, rV = .slice r66 n66 c66 ∧ n66 ≤ 3 ∧ FBody rW r66 n66 c66 | 12 => ∃ r5 n5 c5, rV = .slice r5 n5 c5 ∧ n5 ≤ 3 ∧ FBody rW r5 n5 c5 | _ => True) ?hS0 ?hstep0 ?hdone0
                case hS0 =>
                  intro rI rV rW rW' hc rP
                  match rI, rP with
                  | 0, rP => exact rP
                  | 1, rP => exact rP
                  | 2, rP => exact rP
                  | 3, rP => exact rP
                  | 4, rP => exact rP
                  | 5, rP => exact (by obtain ⟨r60, n60, c60, e9, hp⟩ := rP; exact ⟨r60, n60, c60, e9, ⟨hp.1, hp.2.chg0 hc⟩⟩)
                  | 6, rP => exact rP
                  | 7, rP => exact rP
                  | 8, rP => exact rP
                  | 9, rP => exact rP
                  | 10, rP => exact (by obtain ⟨r65, n65, c65, e9, hp⟩ := rP; exact ⟨r65, n65, c65, e9, ⟨hp.1, hp.2.chg0 hc⟩⟩)
                  | 11, rP => exact (by obtain ⟨r66, n66, c66, e9, hp⟩ := rP; exact ⟨r66, n66, c66, e9, ⟨hp.1, hp.2.chg0 hc⟩⟩)
                  | 12, rP => exact (by obtain ⟨r5, n5, c5, e9, hp⟩ := rP; exact ⟨r5, n5, c5, e9, ⟨hp.1, hp.2.chg0 hc⟩⟩)
                  | _ + 13, _ => trivial
                case hstep0 =>
                  intro rI rH us W hC hdep K hK
                  have hiN : rI < 13 := rH
                  simp only [actU, Act.put, List.setIfInBounds_toArray, List.set_cons_succ, List.set_cons_zero, Nat.reduceAdd] at hK ⊢
                  rcases (show rI = 0 ∨ rI = 1 ∨ rI = 2 ∨ rI = 3 ∨ rI = 4 ∨ rI = 5 ∨ rI = 6 ∨ rI = 7 ∨ rI = 8 ∨ rI = 9 ∨ rI = 10 ∨ rI = 11 ∨ rI = 12 by omega) with rfl | rfl | rfl | rfl | rfl | rfl | rfl | rfl | rfl | rfl | rfl | rfl | rfl
                  · simp only [List.getD_cons_succ, List.getD_cons_zero, List.setIfInBounds_toArray, List.set_cons_succ, List.set_cons_zero] at hK ⊢
                    refine wpOp_at rfl rfl ?_
                    go_simp
                    exact hK _ _ _ rfl (Chg.refl _ _) rfl
                  · have l0 := hdep 0 (by kernel_rfl)
                    replace l0 : us 0 = .int .i64 i := l0
                    simp only [List.getD_cons_succ, List.getD_cons_zero, List.setIfInBounds_toArray, List.set_cons_succ, List.set_cons_zero, l0] at hK ⊢
                    refine wpOp_at rfl rfl ?_
                    go_simp
                    exact hK _ _ _ rfl (Chg.refl _ _) rfl
                  · simp only [List.getD_cons_succ, List.getD_cons_zero, List.setIfInBounds_toArray, List.set_cons_succ, List.set_cons_zero] at hK ⊢
                    refine wpOp_at rfl rfl ?_
                    go_simp
                    exact hK _ _ _ rfl (Chg.refl _ _) rfl
                  · have l2 := hdep 2 (by kernel_rfl)
                    replace l2 : us 2 = .int .i64 n := l2
                    simp only [List.getD_cons_succ, List.getD_cons_zero, List.setIfInBounds_toArray, List.set_cons_succ, List.set_cons_zero, l2] at hK ⊢
                    refine wpOp_at rfl rfl ?_
                    go_simp
                    exact hK _ _ _ rfl (Chg.refl _ _) rfl
                  · have l1 := hdep 1 (by kernel_rfl)
                    replace l1 : us 1 = .int .i64 ((i : Int) + 3) := l1
                    have l3 := hdep 3 (by kernel_rfl)
                    replace l3 : us 3 = .int .i64 ((n : Int) - 1) := l3
                    simp only [List.getD_cons_succ, List.getD_cons_zero, List.setIfInBounds_toArray, List.set_cons_succ, List.set_cons_zero, l1, l3] at hK ⊢
                    refine wpOp_at rfl rfl ?_
                    go_simp
                    exact hK _ _ _ rfl (Chg.refl _ _) rfl
                  · have l4 := hdep 4 (by kernel_rfl)
                    replace l4 : us 4 = .int .i64 mn := l4
                    simp only [List.getD_cons_succ, List.getD_cons_zero, List.setIfInBounds_toArray, List.set_cons_succ, List.set_cons_zero, l4] at hK ⊢
                    refine wpOp_at rfl rfl ?_
                    go_simp
                    refine (Call_fit W _ _ (by constructor <;> omega) (by decide)).mono ?_
                    rintro e wz ⟨r60, n60, c60, rfl, m60, f60, hz⟩
                    exact hK _ _ _ rfl hz ⟨r60, n60, c60, rfl, ⟨m60, f60⟩⟩
                  · simp only [List.getD_cons_succ, List.getD_cons_zero, List.setIfInBounds_toArray, List.set_cons_succ, List.set_cons_zero] at hK ⊢
                    refine wpOp_at rfl rfl ?_
                    go_simp
                    exact hK _ _ _ rfl (Chg.refl _ _) rfl
                  · have l6 := hdep 6 (by kernel_rfl)
                    replace l6 : us 6 = .int .i64 i := l6
                    simp only [List.getD_cons_succ, List.getD_cons_zero, List.setIfInBounds_toArray, List.set_cons_succ, List.set_cons_zero, l6] at hK ⊢
                    refine wpOp_at rfl rfl ?_
                    go_simp
                    exact hK _ _ _ rfl (Chg.refl _ _) rfl
                  · simp only [List.getD_cons_succ, List.getD_cons_zero, List.setIfInBounds_toArray, List.set_cons_succ, List.set_cons_zero] at hK ⊢
                    refine wpOp_at rfl rfl ?_
                    go_simp
                    exact hK _ _ _ rfl (Chg.refl _ _) rfl
                  · have l7 := hdep 7 (by kernel_rfl)
                    replace l7 : us 7 = .int .i64 ((i : Int) * 2) := l7
                    have l8 := hdep 8 (by kernel_rfl)
                    replace l8 : us 8 = .int .i64 n := l8
                    simp only [List.getD_cons_succ, List.getD_cons_zero, List.setIfInBounds_toArray, List.set_cons_succ, List.set_cons_zero, l7, l8] at hK ⊢
                    refine wpOp_at rfl rfl ?_
                    go_simp
                    exact hK _ _ _ rfl (Chg.refl _ _) rfl
                  · have l9 := hdep 9 (by kernel_rfl)
                    replace l9 : us 9 = .int .i64 (((i : Int) * 2) % n) := l9
                    simp only [List.getD_cons_succ, List.getD_cons_zero, List.setIfInBounds_toArray, List.set_cons_succ, List.set_cons_zero, l9] at hK ⊢
                    refine wpOp_at rfl rfl ?_
                    go_simp
                    refine (Call_fit W _ _ (by have := HZ9.out; constructor <;> omega) (by decide)).mono ?_
                    rintro e wz ⟨r65, n65, c65, rfl, m65, f65, hz⟩
                    exact hK _ _ _ rfl hz ⟨r65, n65, c65, rfl, ⟨m65, f65⟩⟩
                  · have l5 := hdep 5 (by kernel_rfl)
                    obtain ⟨r60, n60, c60, l5, p5⟩ := l5
                    have l10 := hdep 10 (by kernel_rfl)
                    obtain ⟨r65, n65, c65, l10, p10⟩ := l10
                    simp only [List.getD_cons_succ, List.getD_cons_zero, List.setIfInBounds_toArray, List.set_cons_succ, List.set_cons_zero, l5, l10] at hK ⊢
                    refine wpOp_at rfl rfl ?_
                    go_simp
                    refine (First_fit W r60 n60 c60 p5.2 r65 n65 c65 p10.2 (by have := p5.1; have := p10.1; omega)).mono ?_
                    rintro e wz ⟨r66, n66, c66, rfl, m66, f66, hz⟩
                    exact hK _ _ _ rfl hz ⟨r66, n66, c66, rfl, ⟨by have := p5.1; have := p10.1; omega, f66⟩⟩
                  · have l11 := hdep 11 (by kernel_rfl)
                    obtain ⟨r66, n66, c66, l11, p11⟩ := l11
                    simp only [List.getD_cons_succ, List.getD_cons_zero, List.setIfInBounds_toArray, List.set_cons_succ, List.set_cons_zero, l11] at hK ⊢
                    refine wpOp_at rfl rfl ?_
                    go_simp
                    exact hK _ _ _ rfl (Chg.refl _ _) ⟨r66, n66, c66, rfl, p11⟩
                case hdone0 =>
                  intro us W hC hall
                  have l0 := hall 0 (by decide)
                  replace l0 : us 0 = .int .i64 i := l0
                  have l1 := hall 1 (by decide)
                  replace l1 : us 1 = .int .i64 ((i : Int) + 3) := l1
                  have l2 := hall 2 (by decide)
                  replace l2 : us 2 = .int .i64 n := l2
                  have l3 := hall 3 (by decide)
                  replace l3 : us 3 = .int .i64 ((n : Int) - 1) := l3
                  have l4 := hall 4 (by decide)
                  replace l4 : us 4 = .int .i64 mn := l4
                  have l5 := hall 5 (by decide)
                  obtain ⟨r60, n60, c60, l5, p5⟩ := l5
                  have l6 := hall 6 (by decide)
                  replace l6 : us 6 = .int .i64 i := l6
                  have l7 := hall 7 (by decide)
                  replace l7 : us 7 = .int .i64 ((i : Int) * 2) := l7
                  have l8 := hall 8 (by decide)
                  replace l8 : us 8 = .int .i64 n := l8
                  have l9 := hall 9 (by decide)
                  replace l9 : us 9 = .int .i64 (((i : Int) * 2) % n) := l9
                  have l10 := hall 10 (by decide)
                  obtain ⟨r65, n65, c65, l10, p10⟩ := l10
                  have l11 := hall 11 (by decide)
                  obtain ⟨r66, n66, c66, l11, p11⟩ := l11
                  have l12 := hall 12 (by decide)
                  obtain ⟨r5, n5, c5, l12, p12⟩ := l12
                  simp only [actU, Act.put, List.setIfInBounds_toArray, List.set_cons_succ, List.set_cons_zero, Nat.reduceAdd, l0, l1, l2, l3, l4, l5, l6, l7, l8, l9, l10, l11, l12]
                  clear hall l0 l1 l2 l3 l4 l5 l6 l7 l8 l9 l10 l11 l12
                  have HF2 := Lib.hid (HF.out.1.tr hC)
                  have HF := Lib.hid (And.intro hC p12)
                  have HF := Lib.hid (And.intro HF2.out HF.out.2.2)
                  have hm5 : n5 ≤ 3 := p12.1
                  clear p5 p10 p11 p12 hC hw9 hw8 hw7 hmn hmn2 hrm1 hn0 htm1
                  obtain ⟨wd, rfl⟩ : ∃ wz, wz = W := ⟨_, rfl⟩
                  obtain ⟨VS, hV, hcV⟩ := hin3.out
                  have hca := (Chg.refl [] wd).alloc (.cells #[.slice r5 n5 c5] 23)
                  have hCd := HF.out.1
                  have hV2 := hV.chg0 (hCd.tr hca)
                  have hnew := cells_at (w := wd.alloc (.cells #[.slice r5 n5 c5] 23)) (heap_alloc_same _ _)
                  have h1' : ∀ u ∈ [Value.slice r5 n5 c5], u.oneCell' = true := by simp [Value.oneCell']
                  have h2' : i + 1 ≤ maxLen ∧ (i + 1) * 24 ≤ 140737488355328 := by simp only [maxLen]; omega
                  have hb' : wp.heap.size ≤ (wd.alloc (.cells #[.slice r5 n5 c5] 23)).heap.size := ((hcV.tr hCd).tr hca).size
                  have HA := Lib.hid (And.intro hV2.row (And.intro hnew (And.intro h1' (And.intro h2' (And.intro hb' hV2)))))
                  have HD := Lib.hid (And.intro ((hcV.tr hCd).tr hca) (HF.out.2.chg0 hca))
                  clear hnew h1' h2' hb' hca hCd hV2 hV hcV
                  go_wp2_with (at_builtin; refine wpList_append_own_at _ rfl _ _ 37 rfl wp.heap.size 23 j0 _ 1 24 Tryz.underlying37 hj0 hy0 hy1 hy2 rfl (by decide) (.slice ba i bc) i (VS.map fun v => .slice v.1 v.2.1 v.2.2) rfl HA.out.1 ⟨wd.heap.size, 0, none⟩ 1 1 [.slice r5 n5 c5] rfl rfl HA.out.2.1 HA.out.2.2.1 HA.out.2.2.2.1.1 HA.out.2.2.2.1.2 HA.out.2.2.2.2.1 ?_; intro v' w7 hr7 hg7 hn7 hb7; obtain ⟨a7, c7, rfl⟩ := ownsRow_slice hr7; have HW := Lib.hid (And.intro hr7 (And.intro hg7 hb7)); clear hr7 hg7 hn7 hb7)
                  obtain ⟨s1, s2⟩ := HA.out.2.2.2.2.2.snoc HD.out.2 (by omega) HW.out.1 HW.out.2.1
                  have HE := Lib.hid (And.intro s1 (s2 wp HD.out.1 (Nat.le_refl _)))
                  clear s1 s2
                  go_roundg (n - (i + 1))
                  case measure => omega
                  case rel => exact ⟨i + 1, a7, c7, rfl, by omega, by go_num, rfl, Lib.hid ⟨_, HE.out.1, HE.out.2⟩⟩
            · obtain rfl : n = i := by omega
              obtain ⟨VS, hV, hcV⟩ := hin3.out
              go_wp2_with fail
              refine (Gram_fit _ ba n bc (hV.bodies (by omega)) (by omega)).mono ?_
              rintro e wg ⟨b1, d1, b2, m2, d2, rs0, L0, rfl, fg, hz⟩
              have hca := (Chg.refl [] wg).alloc (.cells #[.slice b1 n d1, .slice b2 m2 d2] 25)
              have HG := Lib.hid (And.intro (fg.chg0 hca) (And.intro (heap_alloc_same wg (.cells #[.slice b1 n d1, .slice b2 m2 d2] 25)) (And.intro (hz.tr hca) (hin2.out.tr hcV))))
              clear hV hcV fg hz hca
              go_wp2_with fail
              obtain ⟨w5, e5⟩ : ∃ w5, w5 = wg.alloc (.cells #[.slice b1 n d1, .slice b2 m2 d2] 25) := ⟨_, rfl⟩
              rw [← e5] at HG ⊢
              clear e5
              obtain ⟨T, hT⟩ : ∃ T, T = wg.heap.size := ⟨_, rfl⟩
              rw [← hT] at HG ⊢
              clear hT
              go_loopg [7] (n - 26) (fun dd iv wr => ∃ i : Nat, dd = n - i ∧ 26 ≤ i ∧ iv = .int .i64 i ∧ Hid (∃ rs, FG ws.heap.size wr b1 n d1 b2 m2 d2 rs L0 ∧ wr.heap[T]? = some (.cells #[.slice b1 n d1, .slice b2 m2 d2] 25 (0, 0)) ∧ Chg [] ws wr))
              case atStart => exact ⟨26, rfl, Nat.le_refl _, rfl, Lib.hid ⟨_, HG.out.1, HG.out.2.1, HG.out.2.2.1⟩⟩
              case round =>
                obtain ⟨i, rfl, hi, rfl, hin4⟩ := hrel
                obtain ⟨wy, rfl⟩ : ∃ wz, wz = wr := ⟨_, rfl⟩
                by_cases hli : i < n
                · obtain ⟨rs, hf, hh, hcy⟩ := hin4.out
                  obtain ⟨x0, x1⟩ := cells2 hh
                  obtain ⟨R, v, rfl, hR, ⟨cur, hcur⟩, y0, y1, hput⟩ := hf.put hli
                  have hne : T ≠ R := fun e => by rw [e, hcur] at hh; cases hh
                  have hu : (65 + (i : Int) - 26) = ((UInt8.ofNat (65 + i - 26)).toNat : Int) := by simp only [UInt8.toNat_ofNat']; omega
                  have hconv : (convert 41 9 (.slice (some ⟨wy.heap.size, 0, none⟩) 2 2)).run Tryz.prog (wy.alloc (.cells #[.int .u8 95, .int .u8 (65 + (i : Int) - 26)] 5)) = .ok (.string ⟨#[95, UInt8.ofNat (65 + i - 26)]⟩) (wy.alloc (.cells #[.int .u8 95, .int .u8 (65 + (i : Int) - 26)] 5)) :=
                    run_convert_bytes_back (P := Tryz.prog) (wy.alloc (.cells #[.int .u8 95, .int .u8 (65 + (i : Int) - 26)] 5)) 41 9 5 ⟨wy.heap.size, 0, none⟩ 2 [95, UInt8.ofNat (65 + i - 26)] Tryz.underlying41 Tryz.underlying5 Tryz.underlying9 (by
                      intro j hj
                      have hj2 : j = 0 ∨ j = 1 := by simp at hj; omega
                      have h1 := cells_at (w := wy.alloc (.cells #[.int .u8 95, .int .u8 (65 + (i : Int) - 26)] 5)) (heap_alloc_same _ _)
                      rcases hj2 with rfl | rfl
                      · rw [h1 0 (.int .u8 95) rfl]; rfl
                      · rw [h1 1 (.int .u8 (65 + (i : Int) - 26)) rfl, hu]; rfl)
                  obtain ⟨nm, hnm⟩ : ∃ nm : ByteArray, nm = ⟨#[95, UInt8.ofNat (65 + i - 26)]⟩ := ⟨_, rfl⟩
                  rw [← hnm] at hconv
                  have hns : nm.size ≤ 1000 := by rw [hnm]; show (2 : Nat) ≤ 1000; omega
                  obtain ⟨rs', p1, p2⟩ := hput nm hns
                  have hRl := lt_of_block hcur
                  have HP := Lib.hid (And.intro p1 (And.intro p2 (And.intro hh (And.intro hne (And.intro hR hcy)))))
                  clear hf hh hput p1 p2 hu hnm hns hcur hne hR hcy
                  go_wp2_with fail
                  have hcA := (Chg.refl [] (wy.setCell ⟨R, i * 2, none⟩ (.string nm))).alloc (.cells #[.int .u8 95, .int .u8 (65 + (i : Int) - 26)] 5)
                  go_roundg (n - (i + 1))
                  case measure => omega
                  case rel => exact ⟨i + 1, rfl, by omega, by go_num, Lib.hid ⟨rs', HP.out.1.chg0 hcA, hcA.heap (HP.out.2.1.heap HP.out.2.2.1 (by simp only [List.mem_singleton]; exact HP.out.2.2.2.1)) (by simp), (HP.out.2.2.2.2.2.trans HP.out.2.1 (fun j hj => .inr (by simp only [List.mem_singleton] at hj; subst hj; exact HP.out.2.2.2.2.1))).tr hcA⟩⟩
                · obtain ⟨rs, hf, hh, hcy⟩ := hin4.out
                  obtain ⟨x0, x1⟩ := cells2 hh
                  have hTl := lt_of_block hh
                  have HF := Lib.hid (And.intro hf (And.intro hh (HG.out.2.2.2.tr hcy)))
                  have hm2 : m2 ≤ 3000 := hf.fm
                  clear hf hh hcy
                  obtain ⟨wf, rfl⟩ : ∃ wz, wz = wy := ⟨_, rfl⟩
                  go_wp2_with fail
                  have HF0 := Lib.hid (And.intro HF.out.1 HF.out.2.1)
                  go_loopg [8] n (fun dd iv wr => ∃ j : Nat, dd = n - j ∧ iv = .int .i64 j ∧ j ≤ 100 ∧ Hid (FG ws.heap.size wr b1 n d1 b2 m2 d2 rs L0 ∧ wr.heap[T]? = some (.cells #[.slice b1 n d1, .slice b2 m2 d2] 25 (0, 0)) ∧ Chg [] w wr))
                  case atStart => exact ⟨0, rfl, rfl, by decide, HF⟩
                  case round =>
                    obtain ⟨j, rfl, rfl, hj100, HF⟩ := hrel
                    obtain ⟨wy, rfl⟩ : ∃ wz, wz = wr := ⟨_, rfl⟩
                    clear x0 x1 hTl
                    obtain ⟨x0, x1⟩ := cells2 HF.out.2.1
                    have hTl := lt_of_block HF.out.2.1
                    by_cases hlj : j < n
                    · go_wp2_with fail
                      refine (goes12_fit HF.out.1 _ _).mono ?_
                      rintro e wz ⟨rfl, h1⟩
                      have HF := Lib.hid (And.intro (HF.out.1.chg0 h1) (And.intro (h1.heap HF.out.2.1 (by simp)) (HF.out.2.2.tr h1)))
                      clear h1 x0 x1 hTl
                      obtain ⟨x0, x1⟩ := cells2 HF.out.2.1
                      have hTl := lt_of_block HF.out.2.1
                      go_wp2_with fail
                      refine (goes12_fit HF.out.1 _ _).mono ?_
                      rintro e wz ⟨rfl, h1⟩
                      have HF := Lib.hid (And.intro (HF.out.1.chg0 h1) (And.intro (h1.heap HF.out.2.1 (by simp)) (HF.out.2.2.tr h1)))
                      clear h1 x0 x1 hTl
                      obtain ⟨x0, x1⟩ := cells2 HF.out.2.1
                      have hTl := lt_of_block HF.out.2.1
                      go_wp2_with fail
                      refine (goes12_fit HF.out.1 _ _).mono ?_
                      rintro e wz ⟨rfl, h1⟩
                      have HF := Lib.hid (And.intro (HF.out.1.chg0 h1) (And.intro (h1.heap HF.out.2.1 (by simp)) (HF.out.2.2.tr h1)))
                      clear h1 x0 x1 hTl
                      obtain ⟨x0, x1⟩ := cells2 HF.out.2.1
                      have hTl := lt_of_block HF.out.2.1
                      go_wp2_with fail
                      go_roundg (n - (j + 1 + n / 6))
                      case measure => omega
                      case rel => exact ⟨j + 1 + n / 6, rfl, by go_num, by omega, HF⟩
                    · go_wp2_with fail
                      refine (goes12_fit HF.out.1 _ _).mono ?_
                      rintro e wz ⟨rfl, h1⟩
                      have HF := Lib.hid (And.intro (HF.out.1.chg0 h1) (And.intro (h1.heap HF.out.2.1 (by simp)) (HF.out.2.2.tr h1)))
                      clear h1 x0 x1 hTl
                      obtain ⟨x0, x1⟩ := cells2 HF.out.2.1
                      have hTl := lt_of_block HF.out.2.1
                      go_wp2_with fail
                      refine (goes12_fit HF.out.1 _ _).mono ?_
                      rintro e wz ⟨rfl, h1⟩
                      have HF := Lib.hid (And.intro (HF.out.1.chg0 h1) (And.intro (h1.heap HF.out.2.1 (by simp)) (HF.out.2.2.tr h1)))
                      clear h1 x0 x1 hTl
                      obtain ⟨x0, x1⟩ := cells2 HF.out.2.1
                      have hTl := lt_of_block HF.out.2.1
                      go_wp2_with fail
                      refine (goes12_fit HF.out.1 _ _).mono ?_
                      rintro e wz ⟨rfl, h1⟩
                      have HF := Lib.hid (And.intro (HF.out.1.chg0 h1) (And.intro (h1.heap HF.out.2.1 (by simp)) (HF.out.2.2.tr h1)))
                      clear h1 x0 x1 hTl
                      obtain ⟨x0, x1⟩ := cells2 HF.out.2.1
                      have hTl := lt_of_block HF.out.2.1
                      go_wp2_with fail
                      refine (nodes12_fit HF.out.1 _).mono ?_
                      rintro e wz ⟨rfl, h1⟩
                      have HF := Lib.hid (And.intro (HF.out.1.chg0 h1) (And.intro (h1.heap HF.out.2.1 (by simp)) (HF.out.2.2.tr h1)))
                      clear h1 x0 x1 hTl
                      obtain ⟨x0, x1⟩ := cells2 HF.out.2.1
                      have hTl := lt_of_block HF.out.2.1
                      go_wp2_with fail
                      refine (nodes12_fit HF.out.1 _).mono ?_
                      rintro e wz ⟨rfl, h1⟩
                      have HF := Lib.hid (And.intro (HF.out.1.chg0 h1) (And.intro (h1.heap HF.out.2.1 (by simp)) (HF.out.2.2.tr h1)))
                      clear h1 x0 x1 hTl
                      obtain ⟨x0, x1⟩ := cells2 HF.out.2.1
                      have hTl := lt_of_block HF.out.2.1
                      go_wp2_with fail
                      refine (nodes12_fit HF.out.1 _).mono ?_
                      rintro e wz ⟨rfl, h1⟩
                      have HF := Lib.hid (And.intro (HF.out.1.chg0 h1) (And.intro (h1.heap HF.out.2.1 (by simp)) (HF.out.2.2.tr h1)))
                      clear h1 x0 x1 hTl
                      obtain ⟨x0, x1⟩ := cells2 HF.out.2.1
                      have hTl := lt_of_block HF.out.2.1
                      go_wp2_with fail
                      go_roundg (4 - (k + 1))
                      case measure => omega
                      case rel => exact ⟨k + 1, rfl, by omega, by go_num, Lib.hid HF.out.2.2⟩
        · obtain rfl : k = 4 := by omega
          go_wp2_with fail
          go_roundg (34 - (n + 1 + n % 5))
          case measure => omega
          case rel => exact ⟨n + 1 + n % 5, rfl, by omega, by omega, by go_num, hin2⟩
    · obtain ⟨gn1, gn2⟩ := gram_none wq
      go_wp2_with fail
      refine (goes12_any wq none 0 0 none 0 0 _ gn1 gn2 (by decide) (by decide) (fun x hx => by cases hx) _ _).mono ?_
      rintro e w2 ⟨rfl, h2⟩
      have H2 := Lib.hid (hin.out.tr h2)
      clear h2 gn1 gn2
      obtain ⟨gn1, gn2⟩ := gram_none w2
      go_wp2_with fail
      refine (nodes12_any w2 none 0 0 none 0 0 _ gn1 gn2 (by decide) (by decide) (fun x hx => by cases hx) _).mono ?_
      rintro e w3 ⟨rfl, h3⟩
      have H3 := Lib.hid (H2.out.tr h3)
      clear h3 gn1 gn2
      go_wp2_with fail
      go_ret
      exact ⟨rfl, H3.out⟩
end Go.Proofs.YtibgfgfmljhimaaGreat

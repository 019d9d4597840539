/-
  GramEnds: what the law computes.
  Conditions: none.
-/
import Derived.Test.YtibgfgfmljhimaaGE1
import Derived.Test.YtibgfgfmljhimaaGTail
import Derived.Laws.IdiomStrings
set_option linter.unusedVariables false
set_option linter.unusedSimpArgs false
set_option linter.unnecessarySimpa false
namespace Go.Proofs.Ytibgfgfmljhimaa
open Go.RowKit Go.MapKept Go.Shelf

theorem and64 : ∀ n, n < 64 → bits BinOp.and IntKind.i64 ((n : Nat) : Int) 1 = ((n % 2 : Nat) : Int) ∧ bits BinOp.and IntKind.i64 (((n : Nat) : Int) / 2) 1 = ((n / 2 % 2 : Nat) : Int) ∧ bits BinOp.and IntKind.i64 (((n : Nat) : Int) / 4) 3 = ((n / 4 % 4 : Nat) : Int) ∧ bits BinOp.and IntKind.i64 (((n : Nat) : Int) / 16) 3 = ((n / 16 % 4 : Nat) : Int) := by decide +kernel
theorem pick2 : ∀ p, p < 2 → ∃ s, #[Value.string ⟨#[]⟩, Value.string ⟨#[97]⟩][p]? = some (.string s) := fun p hp => match p, hp with
  | 0, _ => ⟨_, rfl⟩
  | 1, _ => ⟨_, rfl⟩
theorem pick4 (x0 x1 x2 x3 : Int) : ∀ p, p < 4 → ∃ z, #[Value.int .i64 x0, Value.int .i64 x1, Value.int .i64 x2, Value.int .i64 x3][p]? = some (.int .i64 z) := fun p hp => match p, hp with
  | 0, _ => ⟨_, rfl⟩
  | 1, _ => ⟨_, rfl⟩
  | 2, _ => ⟨_, rfl⟩
  | 3, _ => ⟨_, rfl⟩

set_option maxRecDepth 100000 in
set_option maxHeartbeats 32000000 in
theorem gramEndsLaw_any (w : World) : Calls Try.prog 6 #[] w fun e w' => e = .returned (.bool true) ∧ Chg [] w w' := by
  go_enter Try.func6, Try.ntmps6
  go_wp2_with fail
  go_loopg [1] 16 (fun dd iv wr => ∃ k : Nat, dd = 16 - k ∧ k ≤ 16 ∧ iv = .int .i64 ((k : Int) - 1) ∧ Hid (Chg [] w wr))
  case atStart => exact ⟨0, rfl, Nat.zero_le _, rfl, Lib.hid (Chg.refl _ _)⟩
  case round =>
    obtain ⟨k, rfl, hk, rfl, hin⟩ := hrel
    obtain ⟨wq, rfl⟩ : ∃ wq, wq = wr := ⟨_, rfl⟩
    by_cases hlt : k < 16
    · go_wp2_with fail
      rw [show decide ((k : Int) - 1 < 15) = true from decide_eq_true (by omega)]
      go_loopg [2] 64 (fun dd iv wr => ∃ n : Nat, dd = 64 - n ∧ n ≤ 64 ∧ iv = .int .i64 n ∧ Hid (Chg [] w wr))
      case atStart => exact ⟨0, rfl, Nat.zero_le _, rfl, hin⟩
      case round =>
        obtain ⟨n, rfl, hn, rfl, hin2⟩ := hrel
        obtain ⟨ws, rfl⟩ : ∃ wz, wz = wr := ⟨_, rfl⟩
        by_cases hnl : n < 64
        · obtain ⟨e1, e2, e3, e4⟩ := and64 n hnl
          obtain ⟨p1, hp1⟩ : ∃ p, p = n % 2 := ⟨_, rfl⟩
          obtain ⟨p2, hp2⟩ : ∃ p, p = n / 2 % 2 := ⟨_, rfl⟩
          obtain ⟨p3, hp3⟩ : ∃ p, p = n / 4 % 4 := ⟨_, rfl⟩
          obtain ⟨p4, hp4⟩ : ∃ p, p = n / 16 % 4 := ⟨_, rfl⟩
          rw [← hp1] at e1
          rw [← hp2] at e2
          rw [← hp3] at e3
          rw [← hp4] at e4
          have hq1 : p1 < 2 := by omega
          have hq2 : p2 < 2 := by omega
          have hq3 : p3 < 4 := by omega
          have hq4 : p4 < 4 := by omega
          obtain ⟨s2, g2⟩ := pick2 p2 hq2
          obtain ⟨r3, g3⟩ := pick4 0 1 2 (-1) p3 hq3
          obtain ⟨v4, g4⟩ := pick4 0 99 100 (-1) p4 hq4
          have hu1 : IntKind.u64.wrap (p1 : Int) = p1 := by rw [IntKind.wrap_u64]; omega
          have hi2 : (p2 : Int) < 2 := by omega
          have hi3 : (p3 : Int) < 4 := by omega
          have hi4 : (p4 : Int) < 4 := by omega
          clear hp1 hp2 hp3 hp4
          go_wp2_with fail
          rw [show decide ((n : Int) < 64) = true from decide_eq_true (by omega)]
          refine wp_region_tail1 (by kernel_rfl) (by kernel_rfl) [17, 18, 19, 20, 21, 22, 23, 24, 25, 26, 27, 28, 29, 30, 31, 32, 33, 34, 35, 36, 37, 38, 39, 40, 3] (by kernel_rfl) (fun rI rV rW => match rI with | 0 => rV = .int .i64 ((k : Int) - 1) | 1 => rV = .int .i64 n | 2 => rV = .int .i64 p1 | 3 => rV = .int .u64 p1 | 4 => rV = .agg #[.int .u64 p1, .int .u64 0, .int .u64 0, .int .u64 0] | 5 => ∃ b22, rV = .slice (some ⟨b22, 0, none⟩) 2 2 ∧ rW.heap[b22]? = some (.cells #[.string ⟨#[]⟩, .string ⟨#[97]⟩] 9 (0, 0)) | 6 => rV = .int .i64 n | 7 => rV = .int .i64 ((n : Int) / 2) | 8 => rV = .int .i64 p2 | 9 => ∃ b22, rV = .pointer (some ⟨b22, p2, none⟩) ∧ rW.heap[b22]? = some (.cells #[.string ⟨#[]⟩, .string ⟨#[97]⟩] 9 (0, 0)) | 10 => rV = .string s2 | 11 => ∃ b28, rV = .slice (some ⟨b28, 0, none⟩) 4 4 ∧ rW.heap[b28]? = some (.cells #[.int .i64 0, .int .i64 1, .int .i64 2, .int .i64 (-1)] 3 (0, 0)) | 12 => rV = .int .i64 n | 13 => rV = .int .i64 ((n : Int) / 4) | 14 => rV = .int .i64 p3 | 15 => ∃ b28, rV = .pointer (some ⟨b28, p3, none⟩) ∧ rW.heap[b28]? = some (.cells #[.int .i64 0, .int .i64 1, .int .i64 2, .int .i64 (-1)] 3 (0, 0)) | 16 => rV = .int .i64 r3 | 17 => ∃ b34, rV = .slice (some ⟨b34, 0, none⟩) 4 4 ∧ rW.heap[b34]? = some (.cells #[.int .i64 0, .int .i64 99, .int .i64 100, .int .i64 (-1)] 3 (0, 0)) | 18 => rV = .int .i64 n | 19 => rV = .int .i64 ((n : Int) / 16) | 20 => rV = .int .i64 p4 | 21 => ∃ b34, rV = .pointer (some ⟨b34, p4, none⟩) ∧ rW.heap[b34]? = some (.cells #[.int .i64 0, .int .i64 99, .int .i64 100, .int .i64 (-1)] 3 (0, 0)) | 22 => rV = .int .i64 v4 | 23 => rV = .agg #[.int .i64 ((k : Int) - 1), .int .u64 p1, .int .u64 0, .int .u64 0, .int .u64 0, .string s2, .int .i64 r3, .int .i64 v4, .slice none 0 0] | 24 => ∃ b3, rV = .pointer (some ⟨b3, 0, none⟩) ∧ ws.heap.size ≤ b3 ∧ rW.heap[b3]? = some (.cells #[.int .i64 0, .int .u64 0, .int .u64 0, .int .u64 0, .int .u64 0, .string ⟨#[]⟩, .int .i64 0, .int .i64 0, .slice none 0 0] 32 (0, 0)) | _ => True) ?hS10 ?hstep10 ?hdone10
          case hS10 =>
            intro rI rV rW rW' hc rP
            match rI, rP with
            | 0, rP => exact rP
            | 1, rP => exact rP
            | 2, rP => exact rP
            | 3, rP => exact rP
            | 4, rP => exact rP
            | 5, rP => exact (by obtain ⟨b22, e9, hp⟩ := rP; exact ⟨b22, e9, hc.heap hp (by simp)⟩)
            | 6, rP => exact rP
            | 7, rP => exact rP
            | 8, rP => exact rP
            | 9, rP => exact (by obtain ⟨b22, e9, hp⟩ := rP; exact ⟨b22, e9, hc.heap hp (by simp)⟩)
            | 10, rP => exact rP
            | 11, rP => exact (by obtain ⟨b28, e9, hp⟩ := rP; exact ⟨b28, e9, hc.heap hp (by simp)⟩)
            | 12, rP => exact rP
            | 13, rP => exact rP
            | 14, rP => exact rP
            | 15, rP => exact (by obtain ⟨b28, e9, hp⟩ := rP; exact ⟨b28, e9, hc.heap hp (by simp)⟩)
            | 16, rP => exact rP
            | 17, rP => exact (by obtain ⟨b34, e9, hp⟩ := rP; exact ⟨b34, e9, hc.heap hp (by simp)⟩)
            | 18, rP => exact rP
            | 19, rP => exact rP
            | 20, rP => exact rP
            | 21, rP => exact (by obtain ⟨b34, e9, hp⟩ := rP; exact ⟨b34, e9, hc.heap hp (by simp)⟩)
            | 22, rP => exact rP
            | 23, rP => exact rP
            | 24, rP => exact (by obtain ⟨b3, e9, hp⟩ := rP; exact ⟨b3, e9, ⟨hp.1, hc.heap hp.2 (by simp)⟩⟩)
            | _ + 25, _ => trivial
          case hstep10 =>
            intro rI rH us W hC hdep K hK
            have hiN : rI < 25 := rH
            simp only [actU, Act.put, List.setIfInBounds_toArray, List.set_cons_succ, List.set_cons_zero, Nat.reduceAdd] at hK ⊢
            rcases (show rI = 0 ∨ rI = 1 ∨ rI = 2 ∨ rI = 3 ∨ rI = 4 ∨ rI = 5 ∨ rI = 6 ∨ rI = 7 ∨ rI = 8 ∨ rI = 9 ∨ rI = 10 ∨ rI = 11 ∨ rI = 12 ∨ rI = 13 ∨ rI = 14 ∨ rI = 15 ∨ rI = 16 ∨ rI = 17 ∨ rI = 18 ∨ rI = 19 ∨ rI = 20 ∨ rI = 21 ∨ rI = 22 ∨ rI = 23 ∨ rI = 24 by omega) with rfl | rfl | rfl | rfl | rfl | rfl | rfl | rfl | rfl | rfl | rfl | rfl | rfl | rfl | rfl | rfl | rfl | rfl | rfl | rfl | rfl | rfl | rfl | rfl | rfl
            · simp only [List.getD_cons_succ, List.getD_cons_zero, List.setIfInBounds_toArray, List.set_cons_succ, List.set_cons_zero] at hK ⊢
              refine wpOp_at rfl rfl ?_
              go_simp
              exact hK _ _ _ rfl (Chg.refl _ _) rfl
            · simp only [List.getD_cons_succ, List.getD_cons_zero, List.setIfInBounds_toArray, List.set_cons_succ, List.set_cons_zero] at hK ⊢
              refine wpOp_at rfl rfl ?_
              go_simp
              exact hK _ _ _ rfl (Chg.refl _ _) rfl
            · have l1 := hdep 1 (by kernel_rfl)
              replace l1 : us 1 = .int .i64 n := l1
              simp only [List.getD_cons_succ, List.getD_cons_zero, List.setIfInBounds_toArray, List.set_cons_succ, List.set_cons_zero, l1] at hK ⊢
              refine wpOp_at rfl rfl ?_
              go_simp
              try rw [e1]
              exact hK _ _ _ rfl (Chg.refl _ _) rfl
            · have l2 := hdep 2 (by kernel_rfl)
              replace l2 : us 2 = .int .i64 p1 := l2
              simp only [List.getD_cons_succ, List.getD_cons_zero, List.setIfInBounds_toArray, List.set_cons_succ, List.set_cons_zero, l2] at hK ⊢
              refine wpOp_at rfl rfl ?_
              go_simp
              try rw [hu1]
              exact hK _ _ _ rfl (Chg.refl _ _) rfl
            · have l3 := hdep 3 (by kernel_rfl)
              replace l3 : us 3 = .int .u64 p1 := l3
              simp only [List.getD_cons_succ, List.getD_cons_zero, List.setIfInBounds_toArray, List.set_cons_succ, List.set_cons_zero, l3] at hK ⊢
              refine wpOp_at rfl rfl ?_
              go_simp
              exact hK _ _ _ rfl (Chg.refl _ _) rfl
            · simp only [List.getD_cons_succ, List.getD_cons_zero, List.setIfInBounds_toArray, List.set_cons_succ, List.set_cons_zero] at hK ⊢
              refine wpOp_at rfl rfl ?_
              go_simp
              exact hK _ _ _ rfl ((Chg.refl _ _).alloc _) ⟨W.heap.size, rfl, heap_alloc_same _ _⟩
            · simp only [List.getD_cons_succ, List.getD_cons_zero, List.setIfInBounds_toArray, List.set_cons_succ, List.set_cons_zero] at hK ⊢
              refine wpOp_at rfl rfl ?_
              go_simp
              exact hK _ _ _ rfl (Chg.refl _ _) rfl
            · have l6 := hdep 6 (by kernel_rfl)
              replace l6 : us 6 = .int .i64 n := l6
              simp only [List.getD_cons_succ, List.getD_cons_zero, List.setIfInBounds_toArray, List.set_cons_succ, List.set_cons_zero, l6] at hK ⊢
              refine wpOp_at rfl rfl ?_
              go_simp
              exact hK _ _ _ rfl (Chg.refl _ _) rfl
            · have l7 := hdep 7 (by kernel_rfl)
              replace l7 : us 7 = .int .i64 ((n : Int) / 2) := l7
              simp only [List.getD_cons_succ, List.getD_cons_zero, List.setIfInBounds_toArray, List.set_cons_succ, List.set_cons_zero, l7] at hK ⊢
              refine wpOp_at rfl rfl ?_
              go_simp
              try rw [e2]
              exact hK _ _ _ rfl (Chg.refl _ _) rfl
            · have l5 := hdep 5 (by kernel_rfl)
              obtain ⟨b22, l5, p5⟩ := l5
              have l8 := hdep 8 (by kernel_rfl)
              replace l8 : us 8 = .int .i64 p2 := l8
              simp only [List.getD_cons_succ, List.getD_cons_zero, List.setIfInBounds_toArray, List.set_cons_succ, List.set_cons_zero, l5, l8] at hK ⊢
              refine wpOp_at rfl rfl ?_
              go_simp
              exact hK _ _ _ rfl (Chg.refl _ _) ⟨b22, rfl, p5⟩
            · have l9 := hdep 9 (by kernel_rfl)
              obtain ⟨b22, l9, p9⟩ := l9
              simp only [List.getD_cons_succ, List.getD_cons_zero, List.setIfInBounds_toArray, List.set_cons_succ, List.set_cons_zero, l9] at hK ⊢
              refine wpOp_at rfl rfl ?_
              have hce := (cell_of_cells p9 p2).trans g2
              go_simp
              exact hK _ _ _ rfl (Chg.refl _ _) rfl
            · simp only [List.getD_cons_succ, List.getD_cons_zero, List.setIfInBounds_toArray, List.set_cons_succ, List.set_cons_zero] at hK ⊢
              refine wpOp_at rfl rfl ?_
              go_simp
              exact hK _ _ _ rfl ((Chg.refl _ _).alloc _) ⟨W.heap.size, rfl, heap_alloc_same _ _⟩
            · simp only [List.getD_cons_succ, List.getD_cons_zero, List.setIfInBounds_toArray, List.set_cons_succ, List.set_cons_zero] at hK ⊢
              refine wpOp_at rfl rfl ?_
              go_simp
              exact hK _ _ _ rfl (Chg.refl _ _) rfl
            · have l12 := hdep 12 (by kernel_rfl)
              replace l12 : us 12 = .int .i64 n := l12
              simp only [List.getD_cons_succ, List.getD_cons_zero, List.setIfInBounds_toArray, List.set_cons_succ, List.set_cons_zero, l12] at hK ⊢
              refine wpOp_at rfl rfl ?_
              go_simp
              exact hK _ _ _ rfl (Chg.refl _ _) rfl
            · have l13 := hdep 13 (by kernel_rfl)
              replace l13 : us 13 = .int .i64 ((n : Int) / 4) := l13
              simp only [List.getD_cons_succ, List.getD_cons_zero, List.setIfInBounds_toArray, List.set_cons_succ, List.set_cons_zero, l13] at hK ⊢
              refine wpOp_at rfl rfl ?_
              go_simp
              try rw [e3]
              exact hK _ _ _ rfl (Chg.refl _ _) rfl
            · have l11 := hdep 11 (by kernel_rfl)
              obtain ⟨b28, l11, p11⟩ := l11
              have l14 := hdep 14 (by kernel_rfl)
              replace l14 : us 14 = .int .i64 p3 := l14
              simp only [List.getD_cons_succ, List.getD_cons_zero, List.setIfInBounds_toArray, List.set_cons_succ, List.set_cons_zero, l11, l14] at hK ⊢
              refine wpOp_at rfl rfl ?_
              go_simp
              exact hK _ _ _ rfl (Chg.refl _ _) ⟨b28, rfl, p11⟩
            · have l15 := hdep 15 (by kernel_rfl)
              obtain ⟨b28, l15, p15⟩ := l15
              simp only [List.getD_cons_succ, List.getD_cons_zero, List.setIfInBounds_toArray, List.set_cons_succ, List.set_cons_zero, l15] at hK ⊢
              refine wpOp_at rfl rfl ?_
              have hce := (cell_of_cells p15 p3).trans g3
              go_simp
              exact hK _ _ _ rfl (Chg.refl _ _) rfl
            · simp only [List.getD_cons_succ, List.getD_cons_zero, List.setIfInBounds_toArray, List.set_cons_succ, List.set_cons_zero] at hK ⊢
              refine wpOp_at rfl rfl ?_
              go_simp
              exact hK _ _ _ rfl ((Chg.refl _ _).alloc _) ⟨W.heap.size, rfl, heap_alloc_same _ _⟩
            · simp only [List.getD_cons_succ, List.getD_cons_zero, List.setIfInBounds_toArray, List.set_cons_succ, List.set_cons_zero] at hK ⊢
              refine wpOp_at rfl rfl ?_
              go_simp
              exact hK _ _ _ rfl (Chg.refl _ _) rfl
            · have l18 := hdep 18 (by kernel_rfl)
              replace l18 : us 18 = .int .i64 n := l18
              simp only [List.getD_cons_succ, List.getD_cons_zero, List.setIfInBounds_toArray, List.set_cons_succ, List.set_cons_zero, l18] at hK ⊢
              refine wpOp_at rfl rfl ?_
              go_simp
              exact hK _ _ _ rfl (Chg.refl _ _) rfl
            · have l19 := hdep 19 (by kernel_rfl)
              replace l19 : us 19 = .int .i64 ((n : Int) / 16) := l19
              simp only [List.getD_cons_succ, List.getD_cons_zero, List.setIfInBounds_toArray, List.set_cons_succ, List.set_cons_zero, l19] at hK ⊢
              refine wpOp_at rfl rfl ?_
              go_simp
              try rw [e4]
              exact hK _ _ _ rfl (Chg.refl _ _) rfl
            · have l17 := hdep 17 (by kernel_rfl)
              obtain ⟨b34, l17, p17⟩ := l17
              have l20 := hdep 20 (by kernel_rfl)
              replace l20 : us 20 = .int .i64 p4 := l20
              simp only [List.getD_cons_succ, List.getD_cons_zero, List.setIfInBounds_toArray, List.set_cons_succ, List.set_cons_zero, l17, l20] at hK ⊢
              refine wpOp_at rfl rfl ?_
              go_simp
              exact hK _ _ _ rfl (Chg.refl _ _) ⟨b34, rfl, p17⟩
            · have l21 := hdep 21 (by kernel_rfl)
              obtain ⟨b34, l21, p21⟩ := l21
              simp only [List.getD_cons_succ, List.getD_cons_zero, List.setIfInBounds_toArray, List.set_cons_succ, List.set_cons_zero, l21] at hK ⊢
              refine wpOp_at rfl rfl ?_
              have hce := (cell_of_cells p21 p4).trans g4
              go_simp
              exact hK _ _ _ rfl (Chg.refl _ _) rfl
            · have l0 := hdep 0 (by kernel_rfl)
              replace l0 : us 0 = .int .i64 ((k : Int) - 1) := l0
              have l4 := hdep 4 (by kernel_rfl)
              replace l4 : us 4 = .agg #[.int .u64 p1, .int .u64 0, .int .u64 0, .int .u64 0] := l4
              have l10 := hdep 10 (by kernel_rfl)
              replace l10 : us 10 = .string s2 := l10
              have l16 := hdep 16 (by kernel_rfl)
              replace l16 : us 16 = .int .i64 r3 := l16
              have l22 := hdep 22 (by kernel_rfl)
              replace l22 : us 22 = .int .i64 v4 := l22
              simp only [List.getD_cons_succ, List.getD_cons_zero, List.setIfInBounds_toArray, List.set_cons_succ, List.set_cons_zero, l0, l4, l10, l16, l22] at hK ⊢
              refine wpOp_at rfl rfl ?_
              go_simp
              exact hK _ _ _ rfl (Chg.refl _ _) rfl
            · simp only [List.getD_cons_succ, List.getD_cons_zero, List.setIfInBounds_toArray, List.set_cons_succ, List.set_cons_zero] at hK ⊢
              refine wpOp_at rfl rfl ?_
              go_simp
              exact hK _ _ _ rfl ((Chg.refl _ _).alloc _) ⟨W.heap.size, rfl, ⟨hC.size, heap_alloc_same _ _⟩⟩
          case hdone10 =>
            intro us W hC hall
            have l0 := hall 0 (by decide)
            replace l0 : us 0 = .int .i64 ((k : Int) - 1) := l0
            have l1 := hall 1 (by decide)
            replace l1 : us 1 = .int .i64 n := l1
            have l2 := hall 2 (by decide)
            replace l2 : us 2 = .int .i64 p1 := l2
            have l3 := hall 3 (by decide)
            replace l3 : us 3 = .int .u64 p1 := l3
            have l4 := hall 4 (by decide)
            replace l4 : us 4 = .agg #[.int .u64 p1, .int .u64 0, .int .u64 0, .int .u64 0] := l4
            have l5 := hall 5 (by decide)
            obtain ⟨b22, l5, p5⟩ := l5
            have l6 := hall 6 (by decide)
            replace l6 : us 6 = .int .i64 n := l6
            have l7 := hall 7 (by decide)
            replace l7 : us 7 = .int .i64 ((n : Int) / 2) := l7
            have l8 := hall 8 (by decide)
            replace l8 : us 8 = .int .i64 p2 := l8
            have l9 := hall 9 (by decide)
            obtain ⟨b22, l9, p9⟩ := l9
            have l10 := hall 10 (by decide)
            replace l10 : us 10 = .string s2 := l10
            have l11 := hall 11 (by decide)
            obtain ⟨b28, l11, p11⟩ := l11
            have l12 := hall 12 (by decide)
            replace l12 : us 12 = .int .i64 n := l12
            have l13 := hall 13 (by decide)
            replace l13 : us 13 = .int .i64 ((n : Int) / 4) := l13
            have l14 := hall 14 (by decide)
            replace l14 : us 14 = .int .i64 p3 := l14
            have l15 := hall 15 (by decide)
            obtain ⟨b28, l15, p15⟩ := l15
            have l16 := hall 16 (by decide)
            replace l16 : us 16 = .int .i64 r3 := l16
            have l17 := hall 17 (by decide)
            obtain ⟨b34, l17, p17⟩ := l17
            have l18 := hall 18 (by decide)
            replace l18 : us 18 = .int .i64 n := l18
            have l19 := hall 19 (by decide)
            replace l19 : us 19 = .int .i64 ((n : Int) / 16) := l19
            have l20 := hall 20 (by decide)
            replace l20 : us 20 = .int .i64 p4 := l20
            have l21 := hall 21 (by decide)
            obtain ⟨b34, l21, p21⟩ := l21
            have l22 := hall 22 (by decide)
            replace l22 : us 22 = .int .i64 v4 := l22
            have l23 := hall 23 (by decide)
            replace l23 : us 23 = .agg #[.int .i64 ((k : Int) - 1), .int .u64 p1, .int .u64 0, .int .u64 0, .int .u64 0, .string s2, .int .i64 r3, .int .i64 v4, .slice none 0 0] := l23
            have l24 := hall 24 (by decide)
            obtain ⟨b3, l24, p24⟩ := l24
            simp only [actU, Act.put, List.setIfInBounds_toArray, List.set_cons_succ, List.set_cons_zero, Nat.reduceAdd, l0, l1, l2, l3, l4, l5, l6, l7, l8, l9, l10, l11, l12, l13, l14, l15, l16, l17, l18, l19, l20, l21, l22, l23, l24]
            clear hall l0 l1 l2 l3 l4 l5 l6 l7 l8 l9 l10 l11 l12 l13 l14 l15 l16 l17 l18 l19 l20 l21 l22 l23 l24
            obtain ⟨hb3, hh3⟩ := p24
            have hb3l := lt_of_block hh3
            have HC := Lib.hid (And.intro hC hb3)
            clear p9 p11 p15 p17 p21 p5 e1 e2 e3 e4 g2 g3 g4 hu1 hi2 hi3 hi4 hq1 hq2 hq3 hq4 hC
            obtain ⟨z0, z1, z2, z3, z4, z5, z6, z7, z8⟩ := cells9 hh3
            have f0 := free_of_cells hh3 0
            have f1 := free_of_cells hh3 1
            have f2 := free_of_cells hh3 2
            have f3 := free_of_cells hh3 3
            have f4 := free_of_cells hh3 4
            have f5 := free_of_cells hh3 5
            have f6 := free_of_cells hh3 6
            have f7 := free_of_cells hh3 7
            have f8 := free_of_cells hh3 8
            refine wpOp_at rfl rfl ?_
            go_simp
            obtain ⟨w4, e4, hz4, hch⟩ := nine_set hh3 (.int .i64 ((k : Int) - 1)) (.int .u64 p1) (.int .u64 0) (.int .u64 0) (.int .u64 0) (.string s2) (.int .i64 r3) (.int .i64 v4) (.slice none 0 0)
            rw [← e4]
            have hcr : Chg [] ws w4 := HC.out.1.trans hch (fun j hj => .inr (by have := HC.out.2; simp at hj; omega))
            have HX := Lib.hid (And.intro hz4 hcr)
            have hb4 := lt_of_block hz4
            clear z0 z1 z2 z3 z4 z5 z6 z7 z8 f0 f1 f2 f3 f4 f5 f6 f7 f8 e4 hh3 hz4 hcr hch
            go_wp2_with fail
            go_loopg [4] 4 (fun dd iv wx => ∃ m : Nat, dd = 4 - m ∧ m ≤ 4 ∧ iv = .int .i64 m ∧ Hid (∃ (ka : Option Addr) (kn kc : Nat), wx.heap[b3]? = some (.cells #[.int .i64 ((k : Int) - 1), .int .u64 p1, .int .u64 0, .int .u64 0, .int .u64 0, .string s2, .int .i64 r3, .int .i64 v4, .slice ka kn kc] 32 (0, 0)) ∧ Chg [] ws wx))
            case atStart => exact ⟨0, rfl, Nat.zero_le _, rfl, Lib.hid ⟨none, 0, 0, HX.out.1, HX.out.2⟩⟩
            case round =>
              obtain ⟨m, rfl, hm, rfl, hin3⟩ := hrel
              obtain ⟨wx, rfl⟩ : ∃ wz, wz = wr := ⟨_, rfl⟩
              by_cases hml : m < 4
              · obtain ⟨ka, kn, kc, hh, hcx⟩ := hin3.out
                have HW := Lib.hid (And.intro hh hcx)
                obtain ⟨z0, z1, z2, z3, z4, z5, z6, z7, z8⟩ := cells9 hh
                have f8 := free_of_cells hh 8
                have hbx := lt_of_block hh
                clear hh hcx hin3
                rcases (show m = 0 ∨ m = 1 ∨ m = 2 ∨ m = 3 by omega) with rfl | rfl | rfl | rfl
                · obtain ⟨ob, hmk⟩ : ∃ ob, ∀ W, (Instr.makeSlice 30 (.int .i64 0) (.int .i64 0)).run Try.prog W = .ok (.slice (some ⟨W.heap.size, 0, none⟩) 0 0) (W.alloc ob) := ⟨_, fun W => run_zeros 0 (by omega) W⟩
                  go_wp2_with fail
                  have hy : (((wx.setCell ⟨b3, 8, none⟩ (.slice (some ⟨wx.heap.size + 1, 0, none⟩) 0 0)).alloc (.cells #[.int .i64 0, .int .i64 1, .int .i64 2, .int .i64 65] 3)).alloc ob).heap[b3]? = some (.cells #[.int .i64 ((k : Int) - 1), .int .u64 p1, .int .u64 0, .int .u64 0, .int .u64 0, .string s2, .int .i64 r3, .int .i64 v4, .slice (some ⟨wx.heap.size + 1, 0, none⟩) 0 0] 32 (0, 0)) := heap_alloc_lt (heap_alloc_lt (heap_setCell_same HW.out.1 8 _) _) _
                  have hcy : Chg [] ws (((wx.setCell ⟨b3, 8, none⟩ (.slice (some ⟨wx.heap.size + 1, 0, none⟩) 0 0)).alloc (.cells #[.int .i64 0, .int .i64 1, .int .i64 2, .int .i64 65] 3)).alloc ob) := ((HW.out.2.setCell (p := ⟨b3, 8, none⟩) (.inr HC.out.2) _).alloc _).alloc _
                  obtain ⟨wy, ey⟩ : ∃ wy, wy = (((wx.setCell ⟨b3, 8, none⟩ (.slice (some ⟨wx.heap.size + 1, 0, none⟩) 0 0)).alloc (.cells #[.int .i64 0, .int .i64 1, .int .i64 2, .int .i64 65] 3)).alloc ob) := ⟨_, rfl⟩
                  rw [← ey] at hy hcy ⊢
                  clear ey z0 z1 z2 z3 z4 z5 z6 z7 z8 f8 hmk
                  obtain ⟨z0, z1, z2, z3, z4, z5, z6, z7, z8⟩ := cells9 hy
                  have y0 := cell_rg z0
                  have y1 := cell_rg z1
                  have y2 := cell_rg z2
                  have y3 := cell_rg z3
                  have y4 := cell_rg z4
                  have y5 := cell_rg z5
                  have y6 := cell_rg z6
                  have y7 := cell_rg z7
                  have y8 := cell_rg z8
                  have hkI : I64 ((k : Int) - 1) := by constructor <;> omega
                  have cA := calls_rg (w := wy) (fun w1 h1 => Node_any w1 ((k : Int) - 1) p1 0 0 0 r3 v4 2 s2 (some ⟨wx.heap.size + 1, 0, none⟩) 0 0 hkI)
                  have cB := calls_rg (w := wy) (fun w1 h1 => refNode_any w1 ((k : Int) - 1) p1 0 0 0 r3 v4 2 s2 (some ⟨wx.heap.size + 1, 0, none⟩) 0 0)
                  have cC := calls_rg (w := wy) (fun w1 h1 => Node_any w1 ((k : Int) - 1) p1 0 0 0 r3 v4 0 s2 (some ⟨wx.heap.size + 1, 0, none⟩) 0 0 hkI)
                  have cD := calls_rg (w := wy) (fun w1 h1 => refNode_any w1 ((k : Int) - 1) p1 0 0 0 r3 v4 0 s2 (some ⟨wx.heap.size + 1, 0, none⟩) 0 0)
                  obtain ⟨b2, hb2⟩ : ∃ b, b = nodeN ((k : Int) - 1) p1 0 0 0 r3 v4 2 s2 0 := ⟨_, rfl⟩
                  obtain ⟨b0, hb0⟩ : ∃ b, b = nodeN ((k : Int) - 1) p1 0 0 0 r3 v4 0 s2 0 := ⟨_, rfl⟩
                  rw [← hb2] at cA cB
                  rw [← hb0] at cC cD
                  clear hb2 hb0 z0 z1 z2 z3 z4 z5 z6 z7 z8
                  refine wp_region_quiet_below (by kernel_rfl) (by kernel_rfl) ?_
                  repeat (go_big_quiet_step (first | (with_reducible exact cA _ _) | (with_reducible exact cB _ _) | (with_reducible exact cC _ _) | (with_reducible exact cD _ _)))
                  refine wpQuiet_nil ?_
                  intro w7 hw7
                  have hc7 := chg_of_rg hw7
                  have HZ := Lib.hid (And.intro (hc7.heap hy (by simp)) (hcy.tr hc7))
                  clear hw7 cA cB cC cD y0 y1 y2 y3 y4 y5 y6 y7 y8 hc7 hy hcy
                  go_wp2_with fail
                  go_roundg (4 - (0 + 1))
                  case measure => omega
                  case rel => exact ⟨0 + 1, rfl, by omega, by go_num, Lib.hid ⟨_, _, _, HZ.out.1, HZ.out.2⟩⟩
                · obtain ⟨ob, hmk⟩ : ∃ ob, ∀ W, (Instr.makeSlice 30 (.int .i64 1) (.int .i64 1)).run Try.prog W = .ok (.slice (some ⟨W.heap.size, 0, none⟩) 1 1) (W.alloc ob) := ⟨_, fun W => run_zeros 1 (by omega) W⟩
                  go_wp2_with fail
                  have hy : (((wx.setCell ⟨b3, 8, none⟩ (.slice (some ⟨wx.heap.size + 1, 0, none⟩) 1 1)).alloc (.cells #[.int .i64 0, .int .i64 1, .int .i64 2, .int .i64 65] 3)).alloc ob).heap[b3]? = some (.cells #[.int .i64 ((k : Int) - 1), .int .u64 p1, .int .u64 0, .int .u64 0, .int .u64 0, .string s2, .int .i64 r3, .int .i64 v4, .slice (some ⟨wx.heap.size + 1, 0, none⟩) 1 1] 32 (0, 0)) := heap_alloc_lt (heap_alloc_lt (heap_setCell_same HW.out.1 8 _) _) _
                  have hcy : Chg [] ws (((wx.setCell ⟨b3, 8, none⟩ (.slice (some ⟨wx.heap.size + 1, 0, none⟩) 1 1)).alloc (.cells #[.int .i64 0, .int .i64 1, .int .i64 2, .int .i64 65] 3)).alloc ob) := ((HW.out.2.setCell (p := ⟨b3, 8, none⟩) (.inr HC.out.2) _).alloc _).alloc _
                  obtain ⟨wy, ey⟩ : ∃ wy, wy = (((wx.setCell ⟨b3, 8, none⟩ (.slice (some ⟨wx.heap.size + 1, 0, none⟩) 1 1)).alloc (.cells #[.int .i64 0, .int .i64 1, .int .i64 2, .int .i64 65] 3)).alloc ob) := ⟨_, rfl⟩
                  rw [← ey] at hy hcy ⊢
                  clear ey z0 z1 z2 z3 z4 z5 z6 z7 z8 f8 hmk
                  obtain ⟨z0, z1, z2, z3, z4, z5, z6, z7, z8⟩ := cells9 hy
                  have y0 := cell_rg z0
                  have y1 := cell_rg z1
                  have y2 := cell_rg z2
                  have y3 := cell_rg z3
                  have y4 := cell_rg z4
                  have y5 := cell_rg z5
                  have y6 := cell_rg z6
                  have y7 := cell_rg z7
                  have y8 := cell_rg z8
                  have hkI : I64 ((k : Int) - 1) := by constructor <;> omega
                  have cA := calls_rg (w := wy) (fun w1 h1 => Node_any w1 ((k : Int) - 1) p1 0 0 0 r3 v4 2 s2 (some ⟨wx.heap.size + 1, 0, none⟩) 1 1 hkI)
                  have cB := calls_rg (w := wy) (fun w1 h1 => refNode_any w1 ((k : Int) - 1) p1 0 0 0 r3 v4 2 s2 (some ⟨wx.heap.size + 1, 0, none⟩) 1 1)
                  have cC := calls_rg (w := wy) (fun w1 h1 => Node_any w1 ((k : Int) - 1) p1 0 0 0 r3 v4 0 s2 (some ⟨wx.heap.size + 1, 0, none⟩) 1 1 hkI)
                  have cD := calls_rg (w := wy) (fun w1 h1 => refNode_any w1 ((k : Int) - 1) p1 0 0 0 r3 v4 0 s2 (some ⟨wx.heap.size + 1, 0, none⟩) 1 1)
                  obtain ⟨b2, hb2⟩ : ∃ b, b = nodeN ((k : Int) - 1) p1 0 0 0 r3 v4 2 s2 1 := ⟨_, rfl⟩
                  obtain ⟨b0, hb0⟩ : ∃ b, b = nodeN ((k : Int) - 1) p1 0 0 0 r3 v4 0 s2 1 := ⟨_, rfl⟩
                  rw [← hb2] at cA cB
                  rw [← hb0] at cC cD
                  clear hb2 hb0 z0 z1 z2 z3 z4 z5 z6 z7 z8
                  refine wp_region_quiet_below (by kernel_rfl) (by kernel_rfl) ?_
                  repeat (go_big_quiet_step (first | (with_reducible exact cA _ _) | (with_reducible exact cB _ _) | (with_reducible exact cC _ _) | (with_reducible exact cD _ _)))
                  refine wpQuiet_nil ?_
                  intro w7 hw7
                  have hc7 := chg_of_rg hw7
                  have HZ := Lib.hid (And.intro (hc7.heap hy (by simp)) (hcy.tr hc7))
                  clear hw7 cA cB cC cD y0 y1 y2 y3 y4 y5 y6 y7 y8 hc7 hy hcy
                  go_wp2_with fail
                  go_roundg (4 - (1 + 1))
                  case measure => omega
                  case rel => exact ⟨1 + 1, rfl, by omega, by go_num, Lib.hid ⟨_, _, _, HZ.out.1, HZ.out.2⟩⟩
                · obtain ⟨ob, hmk⟩ : ∃ ob, ∀ W, (Instr.makeSlice 30 (.int .i64 2) (.int .i64 2)).run Try.prog W = .ok (.slice (some ⟨W.heap.size, 0, none⟩) 2 2) (W.alloc ob) := ⟨_, fun W => run_zeros 2 (by omega) W⟩
                  go_wp2_with fail
                  have hy : (((wx.setCell ⟨b3, 8, none⟩ (.slice (some ⟨wx.heap.size + 1, 0, none⟩) 2 2)).alloc (.cells #[.int .i64 0, .int .i64 1, .int .i64 2, .int .i64 65] 3)).alloc ob).heap[b3]? = some (.cells #[.int .i64 ((k : Int) - 1), .int .u64 p1, .int .u64 0, .int .u64 0, .int .u64 0, .string s2, .int .i64 r3, .int .i64 v4, .slice (some ⟨wx.heap.size + 1, 0, none⟩) 2 2] 32 (0, 0)) := heap_alloc_lt (heap_alloc_lt (heap_setCell_same HW.out.1 8 _) _) _
                  have hcy : Chg [] ws (((wx.setCell ⟨b3, 8, none⟩ (.slice (some ⟨wx.heap.size + 1, 0, none⟩) 2 2)).alloc (.cells #[.int .i64 0, .int .i64 1, .int .i64 2, .int .i64 65] 3)).alloc ob) := ((HW.out.2.setCell (p := ⟨b3, 8, none⟩) (.inr HC.out.2) _).alloc _).alloc _
                  obtain ⟨wy, ey⟩ : ∃ wy, wy = (((wx.setCell ⟨b3, 8, none⟩ (.slice (some ⟨wx.heap.size + 1, 0, none⟩) 2 2)).alloc (.cells #[.int .i64 0, .int .i64 1, .int .i64 2, .int .i64 65] 3)).alloc ob) := ⟨_, rfl⟩
                  rw [← ey] at hy hcy ⊢
                  clear ey z0 z1 z2 z3 z4 z5 z6 z7 z8 f8 hmk
                  obtain ⟨z0, z1, z2, z3, z4, z5, z6, z7, z8⟩ := cells9 hy
                  have y0 := cell_rg z0
                  have y1 := cell_rg z1
                  have y2 := cell_rg z2
                  have y3 := cell_rg z3
                  have y4 := cell_rg z4
                  have y5 := cell_rg z5
                  have y6 := cell_rg z6
                  have y7 := cell_rg z7
                  have y8 := cell_rg z8
                  have hkI : I64 ((k : Int) - 1) := by constructor <;> omega
                  have cA := calls_rg (w := wy) (fun w1 h1 => Node_any w1 ((k : Int) - 1) p1 0 0 0 r3 v4 2 s2 (some ⟨wx.heap.size + 1, 0, none⟩) 2 2 hkI)
                  have cB := calls_rg (w := wy) (fun w1 h1 => refNode_any w1 ((k : Int) - 1) p1 0 0 0 r3 v4 2 s2 (some ⟨wx.heap.size + 1, 0, none⟩) 2 2)
                  have cC := calls_rg (w := wy) (fun w1 h1 => Node_any w1 ((k : Int) - 1) p1 0 0 0 r3 v4 0 s2 (some ⟨wx.heap.size + 1, 0, none⟩) 2 2 hkI)
                  have cD := calls_rg (w := wy) (fun w1 h1 => refNode_any w1 ((k : Int) - 1) p1 0 0 0 r3 v4 0 s2 (some ⟨wx.heap.size + 1, 0, none⟩) 2 2)
                  obtain ⟨b2, hb2⟩ : ∃ b, b = nodeN ((k : Int) - 1) p1 0 0 0 r3 v4 2 s2 2 := ⟨_, rfl⟩
                  obtain ⟨b0, hb0⟩ : ∃ b, b = nodeN ((k : Int) - 1) p1 0 0 0 r3 v4 0 s2 2 := ⟨_, rfl⟩
                  rw [← hb2] at cA cB
                  rw [← hb0] at cC cD
                  clear hb2 hb0 z0 z1 z2 z3 z4 z5 z6 z7 z8
                  refine wp_region_quiet_below (by kernel_rfl) (by kernel_rfl) ?_
                  repeat (go_big_quiet_step (first | (with_reducible exact cA _ _) | (with_reducible exact cB _ _) | (with_reducible exact cC _ _) | (with_reducible exact cD _ _)))
                  refine wpQuiet_nil ?_
                  intro w7 hw7
                  have hc7 := chg_of_rg hw7
                  have HZ := Lib.hid (And.intro (hc7.heap hy (by simp)) (hcy.tr hc7))
                  clear hw7 cA cB cC cD y0 y1 y2 y3 y4 y5 y6 y7 y8 hc7 hy hcy
                  go_wp2_with fail
                  go_roundg (4 - (2 + 1))
                  case measure => omega
                  case rel => exact ⟨2 + 1, rfl, by omega, by go_num, Lib.hid ⟨_, _, _, HZ.out.1, HZ.out.2⟩⟩
                · obtain ⟨ob, hmk⟩ : ∃ ob, ∀ W, (Instr.makeSlice 30 (.int .i64 65) (.int .i64 65)).run Try.prog W = .ok (.slice (some ⟨W.heap.size, 0, none⟩) 65 65) (W.alloc ob) := ⟨_, fun W => run_zeros 65 (by omega) W⟩
                  go_wp2_with fail
                  have hy : (((wx.setCell ⟨b3, 8, none⟩ (.slice (some ⟨wx.heap.size + 1, 0, none⟩) 65 65)).alloc (.cells #[.int .i64 0, .int .i64 1, .int .i64 2, .int .i64 65] 3)).alloc ob).heap[b3]? = some (.cells #[.int .i64 ((k : Int) - 1), .int .u64 p1, .int .u64 0, .int .u64 0, .int .u64 0, .string s2, .int .i64 r3, .int .i64 v4, .slice (some ⟨wx.heap.size + 1, 0, none⟩) 65 65] 32 (0, 0)) := heap_alloc_lt (heap_alloc_lt (heap_setCell_same HW.out.1 8 _) _) _
                  have hcy : Chg [] ws (((wx.setCell ⟨b3, 8, none⟩ (.slice (some ⟨wx.heap.size + 1, 0, none⟩) 65 65)).alloc (.cells #[.int .i64 0, .int .i64 1, .int .i64 2, .int .i64 65] 3)).alloc ob) := ((HW.out.2.setCell (p := ⟨b3, 8, none⟩) (.inr HC.out.2) _).alloc _).alloc _
                  obtain ⟨wy, ey⟩ : ∃ wy, wy = (((wx.setCell ⟨b3, 8, none⟩ (.slice (some ⟨wx.heap.size + 1, 0, none⟩) 65 65)).alloc (.cells #[.int .i64 0, .int .i64 1, .int .i64 2, .int .i64 65] 3)).alloc ob) := ⟨_, rfl⟩
                  rw [← ey] at hy hcy ⊢
                  clear ey z0 z1 z2 z3 z4 z5 z6 z7 z8 f8 hmk
                  obtain ⟨z0, z1, z2, z3, z4, z5, z6, z7, z8⟩ := cells9 hy
                  have y0 := cell_rg z0
                  have y1 := cell_rg z1
                  have y2 := cell_rg z2
                  have y3 := cell_rg z3
                  have y4 := cell_rg z4
                  have y5 := cell_rg z5
                  have y6 := cell_rg z6
                  have y7 := cell_rg z7
                  have y8 := cell_rg z8
                  have hkI : I64 ((k : Int) - 1) := by constructor <;> omega
                  have cA := calls_rg (w := wy) (fun w1 h1 => Node_any w1 ((k : Int) - 1) p1 0 0 0 r3 v4 2 s2 (some ⟨wx.heap.size + 1, 0, none⟩) 65 65 hkI)
                  have cB := calls_rg (w := wy) (fun w1 h1 => refNode_any w1 ((k : Int) - 1) p1 0 0 0 r3 v4 2 s2 (some ⟨wx.heap.size + 1, 0, none⟩) 65 65)
                  have cC := calls_rg (w := wy) (fun w1 h1 => Node_any w1 ((k : Int) - 1) p1 0 0 0 r3 v4 0 s2 (some ⟨wx.heap.size + 1, 0, none⟩) 65 65 hkI)
                  have cD := calls_rg (w := wy) (fun w1 h1 => refNode_any w1 ((k : Int) - 1) p1 0 0 0 r3 v4 0 s2 (some ⟨wx.heap.size + 1, 0, none⟩) 65 65)
                  obtain ⟨b2, hb2⟩ : ∃ b, b = nodeN ((k : Int) - 1) p1 0 0 0 r3 v4 2 s2 65 := ⟨_, rfl⟩
                  obtain ⟨b0, hb0⟩ : ∃ b, b = nodeN ((k : Int) - 1) p1 0 0 0 r3 v4 0 s2 65 := ⟨_, rfl⟩
                  rw [← hb2] at cA cB
                  rw [← hb0] at cC cD
                  clear hb2 hb0 z0 z1 z2 z3 z4 z5 z6 z7 z8
                  refine wp_region_quiet_below (by kernel_rfl) (by kernel_rfl) ?_
                  repeat (go_big_quiet_step (first | (with_reducible exact cA _ _) | (with_reducible exact cB _ _) | (with_reducible exact cC _ _) | (with_reducible exact cD _ _)))
                  refine wpQuiet_nil ?_
                  intro w7 hw7
                  have hc7 := chg_of_rg hw7
                  have HZ := Lib.hid (And.intro (hc7.heap hy (by simp)) (hcy.tr hc7))
                  clear hw7 cA cB cC cD y0 y1 y2 y3 y4 y5 y6 y7 y8 hc7 hy hcy
                  go_wp2_with fail
                  go_roundg (4 - (3 + 1))
                  case measure => omega
                  case rel => exact ⟨3 + 1, rfl, by omega, by go_num, Lib.hid ⟨_, _, _, HZ.out.1, HZ.out.2⟩⟩
              · obtain rfl : m = 4 := by omega
                obtain ⟨ka, kn, kc, hh, hcx⟩ := hin3.out
                have HW := Lib.hid (hin2.out.tr hcx)
                clear hh hcx hin3
                go_wp2_with fail
                go_roundg (64 - (n + 1))
                case measure => omega
                case rel => exact ⟨n + 1, rfl, by omega, by go_num, HW⟩
        · obtain rfl : n = 64 := by omega
          go_wp2_with fail
          go_roundg (16 - (k + 1))
          case measure => omega
          case rel => exact ⟨k + 1, rfl, by omega, by go_num, hin2⟩
    · obtain rfl : k = 16 := by omega
      have hkv : ¬ (((16 : Nat) : Int) - 1 < 15) := by decide
      generalize ((16 : Nat) : Int) - 1 = kv at hkv ⊢
      go_wp2_with fail
      go_loopg [5, 6] 70 (fun dd sv iv wr => ∃ (n : Nat) (s : ByteArray), dd = 70 - n ∧ n ≤ 70 ∧ iv = .int .i64 n ∧ sv = .string s ∧ s.size = n ∧ Hid (Chg [] w wr))
      case atStart => exact ⟨0, ⟨#[]⟩, rfl, Nat.zero_le _, rfl, rfl, rfl, hin⟩
      case round =>
        obtain ⟨n, s, rfl, hn, rfl, rfl, hs, hin⟩ := hrel
        obtain ⟨wq, rfl⟩ : ∃ wz, wz = wr := ⟨_, rfl⟩
        by_cases hnl : n < 70
        · have hsm : s.size ≤ maxLen := by simp only [maxLen]; omega
          have HS := Lib.hid hsm
          obtain ⟨v1, hv1⟩ : ∃ v, v = nameB s := ⟨_, rfl⟩
          obtain ⟨v2, hv2⟩ : ∃ v, v = nodeN 4 0 0 0 0 0 0 1 s 0 := ⟨_, rfl⟩
          have cA := fun W => Name_any s W HS.out
          have cB := fun W => refName_any s W HS.out
          have cC := fun W => Node_any W 4 0 0 0 0 0 0 1 s none 0 0 (by decide)
          have cD := fun W => refNode_any W 4 0 0 0 0 0 0 1 s none 0 0
          rw [← hv1] at cA cB
          rw [← hv2] at cC cD
          have HA := Lib.hid cA
          have HB := Lib.hid cB
          have HC := Lib.hid cC
          have HD := Lib.hid cD
          clear hsm cA cB cC cD hv1 hv2
          go_wp2_with fail
          refine (HA.out _).mono ?_
          rintro e w1 ⟨rfl, h1⟩
          have H1 := Lib.hid (hin.out.tr h1)
          clear h1
          go_wp2_with fail
          refine (HB.out _).mono ?_
          rintro e w2 ⟨rfl, h2⟩
          have H2 := Lib.hid (H1.out.tr h2)
          clear h2
          go_wp2_with fail
          refine (HC.out _).mono ?_
          rintro e w3 ⟨rfl, h3⟩
          have H3 := Lib.hid (H2.out.tr h3)
          clear h3
          go_wp2_with fail
          refine (HD.out _).mono ?_
          rintro e w4 ⟨rfl, h4⟩
          have H4 := Lib.hid (H3.out.tr h4)
          clear h4
          go_wp2_with fail
          go_roundg (70 - (n + 1))
          case measure => omega
          case rel => exact ⟨n + 1, _, rfl, by omega, by go_num, rfl, by rw [ByteArray.size_append, hs]; rfl, H4⟩
        · obtain rfl : n = 70 := by omega
          have hnv : ¬ (((70 : Nat) : Int) < 70) := by decide
          generalize ((70 : Nat) : Int) = nv at hnv ⊢
          clear hs
          go_wp2_with fail
          go_loopg [7] 256 (fun dd iv wr => ∃ n : Nat, dd = 256 - n ∧ n ≤ 256 ∧ iv = .int .i64 n ∧ Hid (Chg [] w wr))
          case atStart => exact ⟨0, rfl, Nat.zero_le _, rfl, hin⟩
          case round =>
            obtain ⟨n, rfl, hn, rfl, hin⟩ := hrel
            obtain ⟨wq, rfl⟩ : ∃ wz, wz = wr := ⟨_, rfl⟩
            by_cases hnl : n < 256
            · have hu : (n : Int) = ((UInt8.ofNat n).toNat : Int) := by simp; omega
              have hconv : (convert 49 9 (.slice (some ⟨wq.heap.size, 0, none⟩) 1 1)).run Try.prog (wq.alloc (.cells #[.int .u8 (n : Int)] 5)) = .ok (.string ⟨#[UInt8.ofNat n]⟩) (wq.alloc (.cells #[.int .u8 (n : Int)] 5)) :=
                run_convert_bytes_back (P := Try.prog) (wq.alloc (.cells #[.int .u8 (n : Int)] 5)) 49 9 5 ⟨wq.heap.size, 0, none⟩ 1 [UInt8.ofNat n] Try.underlying49 Try.underlying5 Try.underlying9 (by
                  intro j hj
                  have hj0 : j = 0 := by simpa using hj
                  subst hj0
                  have h1 := cells_at (w := wq.alloc (.cells #[.int .u8 (n : Int)] 5)) (heap_alloc_same _ _) 0 (.int .u8 (n : Int)) rfl
                  rw [h1, hu]; rfl)
              obtain ⟨one, hone, ho⟩ : ∃ one : ByteArray, one.size = 1 ∧ one = ⟨#[UInt8.ofNat n]⟩ := ⟨_, rfl, rfl⟩
              rw [← ho] at hconv
              obtain ⟨nf, hnf⟩ : ∃ nf, nf = nameB := ⟨_, rfl⟩
              have HA : Hid (∀ (t : ByteArray) (W : World), t.size ≤ 2 → Calls Try.prog 21 #[.string t] W fun e w' => e = .returned (.bool (nf t)) ∧ Chg [] W w') := Lib.hid fun t W ht => by rw [hnf]; exact Name_any t W (by simp only [maxLen]; omega)
              have HB : Hid (∀ (t : ByteArray) (W : World), t.size ≤ 2 → Calls Try.prog 22 #[.string t] W fun e w' => e = .returned (.bool (nf t)) ∧ Chg [] W w') := Lib.hid fun t W ht => by rw [hnf]; exact refName_any t W (by simp only [maxLen]; omega)
              have hcq := Lib.hid (hin.out.alloc (.cells #[.int .u8 (n : Int)] 5))
              clear hu ho hnf
              go_wp2_with fail
              refine (HA.out _ _ (by simp [ByteArray.size_append, hone]; try decide)).mono ?_
              rintro e w1 ⟨rfl, h1⟩
              have H1 := Lib.hid (hcq.out.tr h1)
              clear h1
              go_wp2_with fail
              refine (HB.out _ _ (by simp [ByteArray.size_append, hone]; try decide)).mono ?_
              rintro e w2 ⟨rfl, h2⟩
              have H2 := Lib.hid (H1.out.tr h2)
              clear h2
              go_wp2_with fail
              refine (HA.out _ _ (by simp [ByteArray.size_append, hone]; try decide)).mono ?_
              rintro e w3 ⟨rfl, h3⟩
              have H3 := Lib.hid (H2.out.tr h3)
              clear h3
              go_wp2_with fail
              refine (HB.out _ _ (by simp [ByteArray.size_append, hone]; try decide)).mono ?_
              rintro e w4 ⟨rfl, h4⟩
              have H4 := Lib.hid (H3.out.tr h4)
              clear h4
              go_wp2_with fail
              refine (HA.out _ _ (by simp [ByteArray.size_append, hone]; try decide)).mono ?_
              rintro e w5 ⟨rfl, h5⟩
              have H5 := Lib.hid (H4.out.tr h5)
              clear h5
              go_wp2_with fail
              refine (HB.out _ _ (by simp [ByteArray.size_append, hone]; try decide)).mono ?_
              rintro e w6 ⟨rfl, h6⟩
              have H6 := Lib.hid (H5.out.tr h6)
              clear h6
              go_wp2_with fail
              go_roundg (256 - (n + 1))
              case measure => omega
              case rel => exact ⟨n + 1, rfl, by omega, by go_num, H6⟩
            · obtain rfl : n = 256 := by omega
              go_wp2_with fail
              refine (bent_any _).mono ?_
              rintro e w1 ⟨rfl, h1⟩
              have H1 := Lib.hid (hin.out.tr h1)
              clear h1
              go_wp2_with fail
              refine (awake_any _).mono ?_
              rintro e w2 ⟨rfl, h2⟩
              have H2 := Lib.hid (H1.out.tr h2)
              clear h2
              go_wp2_with fail
              go_ret
              exact ⟨rfl, H2.out⟩
end Go.Proofs.Ytibgfgfmljhimaa

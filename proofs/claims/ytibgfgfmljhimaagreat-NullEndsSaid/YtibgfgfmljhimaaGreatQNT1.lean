/-
  NullTells: what is told of a grammar, a node, a rule is what the document tells.
  Conditions: the grammar reads as data, within the reach.
-/
import Derived.Test.YtibgfgfmljhimaaGreatQRf3
import Derived.Test.YtibgfgfmljhimaaGreatQLn5
import Derived.Test.YtibgfgfmljhimaaGreatQAp3
import Derived.Test.YtibgfgfmljhimaaGreatQNuE
import Derived.Test.YtibgfgfmljhimaaGreatQGKit
import Derived.Test.YtibgfgfmljhimaaGreatQGAny2
set_option linter.unusedVariables false
set_option linter.unusedSimpArgs false
set_option linter.unnecessarySimpa false
namespace Go.Proofs.YtibgfgfmljhimaaGreat
open Go.RowKit Go.MapKept Go.Shelf

set_option maxRecDepth 100000 in
set_option maxHeartbeats 32000000 in
theorem tells11_any (w : World) (a1 : Option Addr) (n1 c1 : Nat) (a2 : Option Addr) (n2 c2 : Nat) (g : Gr) (hg : GramAt w a1 n1 c1 a2 n2 c2 g) (hre : Reach g) (hs1 : n1 ≤ 1099511627776) (hs2 : n2 ≤ 1099511627776) (hk : ∀ x ∈ g.nodes, x.kids.length ≤ 1099511627776) (n i : Int) :
    Calls Tryz.prog 12 #[.agg #[.slice a1 n1 c1, .slice a2 n2 c2], .int .i64 n, .int .i64 i] w fun e w' => e = .returned (.bool true) ∧ Chg [] w w' := by
  have H := Lib.hid (And.intro hg (And.intro hre (And.intro hs1 (And.intro hs2 hk))))
  clear hg hre hs1 hs2 hk
  go_enter Tryz.func12, Tryz.ntmps12
  go_wp2_with fail
  refine (LentGrammar_any _ a1 n1 c1 a2 n2 c2 g (H.out.1.keep ((Chg.refl [] w).alloc _).kp) H.out.2.2.1 H.out.2.2.2.1 H.out.2.2.2.2).mono ?_
  rintro e w2 ⟨b1, d1, b2, d2, rfl, hl, hc2⟩
  obtain ⟨m1, hm1⟩ : ∃ m1, m1 = g.rules.length := ⟨_, rfl⟩
  obtain ⟨m2, hm2⟩ : ∃ m2, m2 = g.nodes.length := ⟨_, rfl⟩
  rw [← hm1, ← hm2]
  have hca := (Chg.refl [] w2).alloc (.cells #[.slice (some ⟨b1, 0, none⟩) m1 d1, .slice (some ⟨b2, 0, none⟩) m2 d2] 25)
  have hcw := (((Chg.refl [] w).alloc (.cells #[.slice a1 n1 c1, .slice a2 n2 c2] 25)).tr hc2).tr hca
  have hbg := (hc2.tr hca).heap (heap_alloc_same w (.cells #[.slice a1 n1 c1, .slice a2 n2 c2] 25)) (by simp)
  have hbi := heap_alloc_same w2 (.cells #[.slice (some ⟨b1, 0, none⟩) m1 d1, .slice (some ⟨b2, 0, none⟩) m2 d2] 25)
  obtain ⟨w3, e3⟩ : ∃ w3, w3 = w2.alloc (.cells #[.slice (some ⟨b1, 0, none⟩) m1 d1, .slice (some ⟨b2, 0, none⟩) m2 d2] 25) := ⟨_, rfl⟩
  have hl3 : LentG 0 w3 b1 d1 b2 d2 g := by
    rw [e3]
    obtain ⟨q1, ⟨L, q2, q3⟩, q4⟩ := hl.chg0 hca
    exact ⟨row_base q1 (Nat.zero_le _), ⟨L, q2, q3.below (Nat.zero_le _)⟩, q4⟩
  rw [← e3] at hcw hbg hbi
  have H3 := Lib.hid (And.intro hbg (And.intro hbi (And.intro hcw (And.intro hl3 (And.intro hm1 hm2)))))
  have HE := Lib.hid e3
  obtain ⟨l1, hl1⟩ : ∃ l1, l1 = (rulesN g).length := ⟨_, rfl⟩
  obtain ⟨l2, hl2⟩ : ∃ l2, l2 = (nodesN g).length := ⟨_, rfl⟩
  have hgi : GramAt w3 (some ⟨b1, 0, none⟩) m1 d1 (some ⟨b2, 0, none⟩) m2 d2 g := by rw [hm1, hm2]; exact hl3.gram
  have HGI := Lib.hid hgi
  have HRu : Hid (∀ W, Chg [] w3 W → Calls Tryz.prog 42 #[.agg #[.slice (some ⟨b1, 0, none⟩) m1 d1, .slice (some ⟨b2, 0, none⟩) m2 d2]] W fun e W' => ∃ a c, e = .returned (.slice a l1 c) ∧ FreshInts W.heap.size W' a c (rulesN g) ∧ Chg [] W W') := Lib.hid fun W hW => by
    have := nullRules_any W _ _ _ _ _ _ g (hgi.keep hW.kp) H.out.2.1
    rw [hl1]
    exact this
  have HNo : Hid (∀ W, Chg [] w3 W → Calls Tryz.prog 40 #[.agg #[.slice (some ⟨b1, 0, none⟩) m1 d1, .slice (some ⟨b2, 0, none⟩) m2 d2]] W fun e W' => ∃ a c, e = .returned (.slice a l2 c) ∧ FreshInts W.heap.size W' a c (nodesN g) ∧ Chg [] W W') := Lib.hid fun W hW => by
    have := nullNodes_any W _ _ _ _ _ _ g (hgi.keep hW.kp) H.out.2.1
    rw [hl2]
    exact this
  have HL := Lib.hid (And.intro hl1 hl2)
  clear hl hc2 hm1 hm2 hca hcw hbg hbi e3 hl3 hl1 hl2 hgi
  go_wp2_with fail
  rw [← HE.out]
  refine wp_region_st2 (by kernel_rfl) (by kernel_rfl) [14, 15, 16, 17, 18, 19, 20, 21, 8, 9, 10, 11] (by kernel_rfl) (fun rI rV rW => match rI with | 0 => rV = .agg #[.slice (some ⟨b1, 0, none⟩) m1 d1, .slice (some ⟨b2, 0, none⟩) m2 d2] | 1 => ∃ r15 c15, rV = .slice r15 l1 c15 ∧ FreshInts w3.heap.size rW r15 c15 (rulesN g) | 2 => rV = .agg #[.slice (some ⟨b1, 0, none⟩) m1 d1, .slice (some ⟨b2, 0, none⟩) m2 d2] | 3 => ∃ r17 c17, rV = .slice r17 l2 c17 ∧ FreshInts w3.heap.size rW r17 c17 (nodesN g) | 4 => rV = .agg #[.slice (some ⟨b1, 0, none⟩) m1 d1, .slice (some ⟨b2, 0, none⟩) m2 d2] | 5 => ∃ r19 c19, rV = .slice r19 l1 c19 ∧ FreshInts w3.heap.size rW r19 c19 (rulesN g) | 6 => rV = .agg #[.slice (some ⟨b1, 0, none⟩) m1 d1, .slice (some ⟨b2, 0, none⟩) m2 d2] | 7 => ∃ r21 c21, rV = .slice r21 l2 c21 ∧ FreshInts w3.heap.size rW r21 c21 (nodesN g) | 8 => ∃ s8 y8, rV = .slice s8 l1 y8 ∧ FreshInts w3.heap.size rW s8 y8 (rulesN g) | 9 => ∃ s9 y9, rV = .slice s9 l2 y9 ∧ FreshInts w3.heap.size rW s9 y9 (nodesN g) | 10 => ∃ s10 y10, rV = .slice s10 l1 y10 ∧ FreshInts w3.heap.size rW s10 y10 (rulesN g) | 11 => ∃ s11 y11, rV = .slice s11 l2 y11 ∧ FreshInts w3.heap.size rW s11 y11 (nodesN g) | _ => True) ?hS2 (fun i v j u => (i ∈ [1, 3, 5, 7] → j ∈ [1, 3, 5, 7] → ∀ x, v.ownBlock = some x → u.ownBlock ≠ some x) ∧ ((i, j) ∈ [(8, 1), (9, 3), (10, 5), (11, 7)] → v = u)) ?hstep2 ?hdone2
  case hS2 =>
    intro rI rV rW rW' hc rP
    match rI, rP with
    | 0, rP => exact rP
    | 1, rP => exact (by obtain ⟨r15, c15, e9, hp⟩ := rP; exact ⟨r15, c15, e9, hc.row hp (fun _ _ => by simp)⟩)
    | 2, rP => exact rP
    | 3, rP => exact (by obtain ⟨r17, c17, e9, hp⟩ := rP; exact ⟨r17, c17, e9, hc.row hp (fun _ _ => by simp)⟩)
    | 4, rP => exact rP
    | 5, rP => exact (by obtain ⟨r19, c19, e9, hp⟩ := rP; exact ⟨r19, c19, e9, hc.row hp (fun _ _ => by simp)⟩)
    | 6, rP => exact rP
    | 7, rP => exact (by obtain ⟨r21, c21, e9, hp⟩ := rP; exact ⟨r21, c21, e9, hc.row hp (fun _ _ => by simp)⟩)
    | 8, rP => exact (by obtain ⟨s8, y8, e9, hp⟩ := rP; exact ⟨s8, y8, e9, hc.row hp (fun _ _ => by simp)⟩)
    | 9, rP => exact (by obtain ⟨s9, y9, e9, hp⟩ := rP; exact ⟨s9, y9, e9, hc.row hp (fun _ _ => by simp)⟩)
    | 10, rP => exact (by obtain ⟨s10, y10, e9, hp⟩ := rP; exact ⟨s10, y10, e9, hc.row hp (fun _ _ => by simp)⟩)
    | 11, rP => exact (by obtain ⟨s11, y11, e9, hp⟩ := rP; exact ⟨s11, y11, e9, hc.row hp (fun _ _ => by simp)⟩)
    | _ + 12, _ => trivial
  case hstep2 =>
    intro rI rH us W hC hdep K hK
    have hiN : rI < 12 := rH
    simp only [actU, Act.put, List.setIfInBounds_toArray, List.set_cons_succ, List.set_cons_zero, Nat.reduceAdd] at hK ⊢
    obtain ⟨x0, x1⟩ := cells2 (hC.heap H3.out.2.1 (by simp))
    rcases (show rI = 0 ∨ rI = 1 ∨ rI = 2 ∨ rI = 3 ∨ rI = 4 ∨ rI = 5 ∨ rI = 6 ∨ rI = 7 ∨ rI = 8 ∨ rI = 9 ∨ rI = 10 ∨ rI = 11 by omega) with rfl | rfl | rfl | rfl | rfl | rfl | rfl | rfl | rfl | rfl | rfl | rfl
    · simp only [List.getD_cons_succ, List.getD_cons_zero, List.setIfInBounds_toArray, List.set_cons_succ, List.set_cons_zero] at hK ⊢
      refine wpOp_at rfl rfl ?_
      go_simp
      exact hK _ _ _ rfl (Chg.refl _ _) rfl (fun j9 hj9 hne9 hw9 hq9 => ⟨fun hi9 => absurd hi9 (by decide), fun hl9 => by simp at hl9⟩)
    · have l0 := hdep 0 (by kernel_rfl)
      replace l0 : us 0 = .agg #[.slice (some ⟨b1, 0, none⟩) m1 d1, .slice (some ⟨b2, 0, none⟩) m2 d2] := l0
      simp only [List.getD_cons_succ, List.getD_cons_zero, List.setIfInBounds_toArray, List.set_cons_succ, List.set_cons_zero, l0] at hK ⊢
      refine wpOp_at rfl rfl ?_
      go_simp
      refine (HRu.out W hC).mono ?_
      rintro e wz ⟨r15, c15, rfl, hf, hz⟩
      exact hK _ _ _ rfl hz ⟨r15, c15, rfl, row_base hf hC.size⟩ (fun j9 hj9 hne9 hw9 hq9 => ⟨fun _ hjT x hx hy => by (simp only [List.mem_cons, List.not_mem_nil, or_false] at hjT; rcases hjT with rfl | rfl | rfl | rfl <;> first | exact absurd rfl hne9 | (obtain ⟨a9, c9, e9, h9⟩ := hq9; rw [e9] at hy; (try simp only [HL.out.1, HL.out.2] at hx); (try simp only [HL.out.1, HL.out.2] at hy); have q1 := (row_beyond hf hx).1; have q2 := (row_beyond h9 hy).2.1; omega)), fun hl9 => by simp at hl9⟩)
    · simp only [List.getD_cons_succ, List.getD_cons_zero, List.setIfInBounds_toArray, List.set_cons_succ, List.set_cons_zero] at hK ⊢
      refine wpOp_at rfl rfl ?_
      go_simp
      exact hK _ _ _ rfl (Chg.refl _ _) rfl (fun j9 hj9 hne9 hw9 hq9 => ⟨fun hi9 => absurd hi9 (by decide), fun hl9 => by simp at hl9⟩)
    · have l2 := hdep 2 (by kernel_rfl)
      replace l2 : us 2 = .agg #[.slice (some ⟨b1, 0, none⟩) m1 d1, .slice (some ⟨b2, 0, none⟩) m2 d2] := l2
      simp only [List.getD_cons_succ, List.getD_cons_zero, List.setIfInBounds_toArray, List.set_cons_succ, List.set_cons_zero, l2] at hK ⊢
      refine wpOp_at rfl rfl ?_
      go_simp
      refine (HNo.out W hC).mono ?_
      rintro e wz ⟨r17, c17, rfl, hf, hz⟩
      exact hK _ _ _ rfl hz ⟨r17, c17, rfl, row_base hf hC.size⟩ (fun j9 hj9 hne9 hw9 hq9 => ⟨fun _ hjT x hx hy => by (simp only [List.mem_cons, List.not_mem_nil, or_false] at hjT; rcases hjT with rfl | rfl | rfl | rfl <;> first | exact absurd rfl hne9 | (obtain ⟨a9, c9, e9, h9⟩ := hq9; rw [e9] at hy; (try simp only [HL.out.1, HL.out.2] at hx); (try simp only [HL.out.1, HL.out.2] at hy); have q1 := (row_beyond hf hx).1; have q2 := (row_beyond h9 hy).2.1; omega)), fun hl9 => by simp at hl9⟩)
    · simp only [List.getD_cons_succ, List.getD_cons_zero, List.setIfInBounds_toArray, List.set_cons_succ, List.set_cons_zero] at hK ⊢
      refine wpOp_at rfl rfl ?_
      go_simp
      exact hK _ _ _ rfl (Chg.refl _ _) rfl (fun j9 hj9 hne9 hw9 hq9 => ⟨fun hi9 => absurd hi9 (by decide), fun hl9 => by simp at hl9⟩)
    · have l4 := hdep 4 (by kernel_rfl)
      replace l4 : us 4 = .agg #[.slice (some ⟨b1, 0, none⟩) m1 d1, .slice (some ⟨b2, 0, none⟩) m2 d2] := l4
      simp only [List.getD_cons_succ, List.getD_cons_zero, List.setIfInBounds_toArray, List.set_cons_succ, List.set_cons_zero, l4] at hK ⊢
      refine wpOp_at rfl rfl ?_
      go_simp
      refine (HRu.out W hC).mono ?_
      rintro e wz ⟨r19, c19, rfl, hf, hz⟩
      exact hK _ _ _ rfl hz ⟨r19, c19, rfl, row_base hf hC.size⟩ (fun j9 hj9 hne9 hw9 hq9 => ⟨fun _ hjT x hx hy => by (simp only [List.mem_cons, List.not_mem_nil, or_false] at hjT; rcases hjT with rfl | rfl | rfl | rfl <;> first | exact absurd rfl hne9 | (obtain ⟨a9, c9, e9, h9⟩ := hq9; rw [e9] at hy; (try simp only [HL.out.1, HL.out.2] at hx); (try simp only [HL.out.1, HL.out.2] at hy); have q1 := (row_beyond hf hx).1; have q2 := (row_beyond h9 hy).2.1; omega)), fun hl9 => by simp at hl9⟩)
    · simp only [List.getD_cons_succ, List.getD_cons_zero, List.setIfInBounds_toArray, List.set_cons_succ, List.set_cons_zero] at hK ⊢
      refine wpOp_at rfl rfl ?_
      go_simp
      exact hK _ _ _ rfl (Chg.refl _ _) rfl (fun j9 hj9 hne9 hw9 hq9 => ⟨fun hi9 => absurd hi9 (by decide), fun hl9 => by simp at hl9⟩)
    · have l6 := hdep 6 (by kernel_rfl)
      replace l6 : us 6 = .agg #[.slice (some ⟨b1, 0, none⟩) m1 d1, .slice (some ⟨b2, 0, none⟩) m2 d2] := l6
      simp only [List.getD_cons_succ, List.getD_cons_zero, List.setIfInBounds_toArray, List.set_cons_succ, List.set_cons_zero, l6] at hK ⊢
      refine wpOp_at rfl rfl ?_
      go_simp
      refine (HNo.out W hC).mono ?_
      rintro e wz ⟨r21, c21, rfl, hf, hz⟩
      exact hK _ _ _ rfl hz ⟨r21, c21, rfl, row_base hf hC.size⟩ (fun j9 hj9 hne9 hw9 hq9 => ⟨fun _ hjT x hx hy => by (simp only [List.mem_cons, List.not_mem_nil, or_false] at hjT; rcases hjT with rfl | rfl | rfl | rfl <;> first | exact absurd rfl hne9 | (obtain ⟨a9, c9, e9, h9⟩ := hq9; rw [e9] at hy; (try simp only [HL.out.1, HL.out.2] at hx); (try simp only [HL.out.1, HL.out.2] at hy); have q1 := (row_beyond hf hx).1; have q2 := (row_beyond h9 hy).2.1; omega)), fun hl9 => by simp at hl9⟩)
    · have l1 := hdep 1 (by kernel_rfl)
      obtain ⟨r15, c15, l1, p1⟩ := l1
      simp only [List.getD_cons_succ, List.getD_cons_zero, List.setIfInBounds_toArray, List.set_cons_succ, List.set_cons_zero, l1] at hK ⊢
      refine wpOp_at rfl rfl ?_
      go_simp
      exact hK _ _ _ rfl (Chg.refl _ _) ⟨r15, c15, rfl, p1⟩ (fun j9 hj9 hne9 hw9 hq9 => ⟨fun hi9 => absurd hi9 (by decide), fun hl9 => by simp at hl9; subst hl9; exact l1.symm⟩)
    · have l3 := hdep 3 (by kernel_rfl)
      obtain ⟨r17, c17, l3, p3⟩ := l3
      simp only [List.getD_cons_succ, List.getD_cons_zero, List.setIfInBounds_toArray, List.set_cons_succ, List.set_cons_zero, l3] at hK ⊢
      refine wpOp_at rfl rfl ?_
      go_simp
      exact hK _ _ _ rfl (Chg.refl _ _) ⟨r17, c17, rfl, p3⟩ (fun j9 hj9 hne9 hw9 hq9 => ⟨fun hi9 => absurd hi9 (by decide), fun hl9 => by simp at hl9; subst hl9; exact l3.symm⟩)
    · have l5 := hdep 5 (by kernel_rfl)
      obtain ⟨r19, c19, l5, p5⟩ := l5
      simp only [List.getD_cons_succ, List.getD_cons_zero, List.setIfInBounds_toArray, List.set_cons_succ, List.set_cons_zero, l5] at hK ⊢
      refine wpOp_at rfl rfl ?_
      go_simp
      exact hK _ _ _ rfl (Chg.refl _ _) ⟨r19, c19, rfl, p5⟩ (fun j9 hj9 hne9 hw9 hq9 => ⟨fun hi9 => absurd hi9 (by decide), fun hl9 => by simp at hl9; subst hl9; exact l5.symm⟩)
    · have l7 := hdep 7 (by kernel_rfl)
      obtain ⟨r21, c21, l7, p7⟩ := l7
      simp only [List.getD_cons_succ, List.getD_cons_zero, List.setIfInBounds_toArray, List.set_cons_succ, List.set_cons_zero, l7] at hK ⊢
      refine wpOp_at rfl rfl ?_
      go_simp
      exact hK _ _ _ rfl (Chg.refl _ _) ⟨r21, c21, rfl, p7⟩ (fun j9 hj9 hne9 hw9 hq9 => ⟨fun hi9 => absurd hi9 (by decide), fun hl9 => by simp at hl9; subst hl9; exact l7.symm⟩)
  case hdone2 =>
    intro us W hC hall hpw
    have lk8 : us 8 = us 1 := by
      rcases hpw 8 1 (by decide) (by decide) (by decide) with h | h
      · exact h.1.2 (by decide)
      · exact absurd (h.2.symm.trans (show waits _ 8 1 = true by kernel_rfl)) (by decide)
    have lk9 : us 9 = us 3 := by
      rcases hpw 9 3 (by decide) (by decide) (by decide) with h | h
      · exact h.1.2 (by decide)
      · exact absurd (h.2.symm.trans (show waits _ 9 3 = true by kernel_rfl)) (by decide)
    have lk10 : us 10 = us 5 := by
      rcases hpw 10 5 (by decide) (by decide) (by decide) with h | h
      · exact h.1.2 (by decide)
      · exact absurd (h.2.symm.trans (show waits _ 10 5 = true by kernel_rfl)) (by decide)
    have lk11 : us 11 = us 7 := by
      rcases hpw 11 7 (by decide) (by decide) (by decide) with h | h
      · exact h.1.2 (by decide)
      · exact absurd (h.2.symm.trans (show waits _ 11 7 = true by kernel_rfl)) (by decide)
    have qp1_3 : ∀ x, (us 1).ownBlock = some x → (us 3).ownBlock ≠ some x := by
      rcases hpw 1 3 (by decide) (by decide) (by decide) with h | h
      · exact h.1.1 (by decide) (by decide)
      · exact fun x hx hy => h.1.1 (by decide) (by decide) x hy hx
    have qp1_5 : ∀ x, (us 1).ownBlock = some x → (us 5).ownBlock ≠ some x := by
      rcases hpw 1 5 (by decide) (by decide) (by decide) with h | h
      · exact h.1.1 (by decide) (by decide)
      · exact fun x hx hy => h.1.1 (by decide) (by decide) x hy hx
    have qp1_7 : ∀ x, (us 1).ownBlock = some x → (us 7).ownBlock ≠ some x := by
      rcases hpw 1 7 (by decide) (by decide) (by decide) with h | h
      · exact h.1.1 (by decide) (by decide)
      · exact fun x hx hy => h.1.1 (by decide) (by decide) x hy hx
    have qp3_5 : ∀ x, (us 3).ownBlock = some x → (us 5).ownBlock ≠ some x := by
      rcases hpw 3 5 (by decide) (by decide) (by decide) with h | h
      · exact h.1.1 (by decide) (by decide)
      · exact fun x hx hy => h.1.1 (by decide) (by decide) x hy hx
    have qp3_7 : ∀ x, (us 3).ownBlock = some x → (us 7).ownBlock ≠ some x := by
      rcases hpw 3 7 (by decide) (by decide) (by decide) with h | h
      · exact h.1.1 (by decide) (by decide)
      · exact fun x hx hy => h.1.1 (by decide) (by decide) x hy hx
    have qp5_7 : ∀ x, (us 5).ownBlock = some x → (us 7).ownBlock ≠ some x := by
      rcases hpw 5 7 (by decide) (by decide) (by decide) with h | h
      · exact h.1.1 (by decide) (by decide)
      · exact fun x hx hy => h.1.1 (by decide) (by decide) x hy hx
    have l0 := hall 0 (by decide)
    replace l0 : us 0 = .agg #[.slice (some ⟨b1, 0, none⟩) m1 d1, .slice (some ⟨b2, 0, none⟩) m2 d2] := l0
    have l1 := hall 1 (by decide)
    obtain ⟨r15, c15, l1, p1⟩ := l1
    have l2 := hall 2 (by decide)
    replace l2 : us 2 = .agg #[.slice (some ⟨b1, 0, none⟩) m1 d1, .slice (some ⟨b2, 0, none⟩) m2 d2] := l2
    have l3 := hall 3 (by decide)
    obtain ⟨r17, c17, l3, p3⟩ := l3
    have l4 := hall 4 (by decide)
    replace l4 : us 4 = .agg #[.slice (some ⟨b1, 0, none⟩) m1 d1, .slice (some ⟨b2, 0, none⟩) m2 d2] := l4
    have l5 := hall 5 (by decide)
    obtain ⟨r19, c19, l5, p5⟩ := l5
    have l6 := hall 6 (by decide)
    replace l6 : us 6 = .agg #[.slice (some ⟨b1, 0, none⟩) m1 d1, .slice (some ⟨b2, 0, none⟩) m2 d2] := l6
    have l7 := hall 7 (by decide)
    obtain ⟨r21, c21, l7, p7⟩ := l7
    have l8 := hall 8 (by decide)
    obtain ⟨s8, y8, l8, p8⟩ := l8
    have l9 := hall 9 (by decide)
    obtain ⟨s9, y9, l9, p9⟩ := l9
    have l10 := hall 10 (by decide)
    obtain ⟨s10, y10, l10, p10⟩ := l10
    have l11 := hall 11 (by decide)
    obtain ⟨s11, y11, l11, p11⟩ := l11
    rw [l8, l1] at lk8
    rw [l9, l3] at lk9
    rw [l10, l5] at lk10
    rw [l11, l7] at lk11
    rw [l1, l3] at qp1_3
    rw [l1, l5] at qp1_5
    rw [l1, l7] at qp1_7
    rw [l3, l5] at qp3_5
    rw [l3, l7] at qp3_7
    rw [l5, l7] at qp5_7
    clear hpw
    simp only [actU, Act.put, List.setIfInBounds_toArray, List.set_cons_succ, List.set_cons_zero, Nat.reduceAdd, l0, l1, l2, l3, l4, l5, l6, l7, l8, l9, l10, l11]
    clear hall l0 l1 l2 l3 l4 l5 l6 l7 l8 l9 l10 l11
    obtain ⟨w4, rfl⟩ : ∃ wz, wz = W := ⟨_, rfl⟩
    obtain ⟨R1, hR1⟩ : ∃ z, z = nodeI g n := ⟨_, rfl⟩
    obtain ⟨R2, hR2⟩ : ∃ z, z = rankI g i := ⟨_, rfl⟩
    obtain ⟨R3, hR3⟩ : ∃ z, z = decide (0 < R2) := ⟨_, rfl⟩
    have HC4 := Lib.hid hC
    have k1 := calls_rg (w := w4) (fun w1 h1 => nullNode_any w1 _ _ _ _ _ _ g (HGI.out.keep (HC4.out.tr h1).kp) H.out.2.1 n)
    have k2 := calls_rg (w := w4) (fun w1 h1 => ref11Node_any w1 _ _ _ _ _ _ g (H.out.1.keep (H3.out.2.2.1.tr (HC4.out.tr h1)).kp) n)
    have k3 := calls_rg (w := w4) (fun w1 h1 => nullRule_any w1 _ _ _ _ _ _ g (HGI.out.keep (HC4.out.tr h1).kp) H.out.2.1 i)
    have k4 := calls_rg (w := w4) (fun w1 h1 => ref11Rule_any w1 _ _ _ _ _ _ g (H.out.1.keep (H3.out.2.2.1.tr (HC4.out.tr h1)).kp) i)
    have k5 := calls_rg (w := w4) (fun w1 h1 => nullRank_any w1 _ _ _ _ _ _ g (HGI.out.keep (HC4.out.tr h1).kp) H.out.2.1 i)
    have k6 := calls_rg (w := w4) (fun w1 h1 => ref11Rank_any w1 _ _ _ _ _ _ g (H.out.1.keep (H3.out.2.2.1.tr (HC4.out.tr h1)).kp) i)
    rw [← hR1] at k1 k2
    rw [← hR2, ← hR3] at k3 k4
    rw [← hR2] at k5 k6
    have HP := Lib.hid (And.intro p8 (And.intro p9 (And.intro p10 (And.intro p11 (And.intro lk8 (And.intro lk9 (And.intro lk10 lk11)))))))
    have HQ := Lib.hid (And.intro qp1_3 (And.intro qp1_5 (And.intro qp1_7 (And.intro qp3_5 (And.intro qp3_7 qp5_7)))))
    obtain ⟨x0, x1⟩ := cells2 (hC.heap H3.out.1 (by simp))
    obtain ⟨x2, x3⟩ := cells2 (hC.heap H3.out.2.1 (by simp))
    have kx0 := cell_rg x0
    have kx1 := cell_rg x1
    have kx2 := cell_rg x2
    have kx3 := cell_rg x3
    clear p1 p3 p5 p7 p8 p9 p10 p11 lk8 lk9 lk10 lk11 qp1_3 qp1_5 qp1_7 qp3_5 qp3_7 qp5_7 x0 x1 x2 x3 hR1 hR2 hR3 hC
    have hd1 : (R1 == R1) = true := by simp
    have hd2 : (R2 == R2) = true := by simp
    have hd3 : (R3 == R3) = true := by simp
    go_wp2_with fail
    refine wp_region_quiet_below (by kernel_rfl) (by kernel_rfl) ?_
    repeat (go_big_quiet_step (first | (with_reducible exact k1 _ _) | (with_reducible exact k2 _ _) | (with_reducible exact k3 _ _) | (with_reducible exact k4 _ _) | (with_reducible exact k5 _ _) | (with_reducible exact k6 _ _)))
    refine wpQuiet_nil ?_
    intro w5 hw5
    have HW := Lib.hid (HC4.out.tr (chg_of_rg hw5))
    have HV := Lib.hid (chg_of_rg hw5)
    clear hw5 HC4 k1 k2 k3 k4 k5 k6 kx0 kx1 kx2 kx3 hd1 hd2 hd3
    have HR9 : Hid ((rulesN g).length ≤ 1000000 ∧ (nodesN g).length ≤ 1000000) := Lib.hid (by
      refine ⟨?_, ?_⟩
      · unfold rulesN
        split
        · rename_i h
          have := pickL_le g.rules.length (fun i => decide (0 < rankG g i))
          have := (right_sizes h).2.1
          omega
        · simp
      · unfold nodesN
        split
        · rename_i h
          have := pickL_le g.nodes.length (fun n => mayG g n)
          have := (right_sizes h).2.2
          omega
        · simp)
    obtain ⟨x0, x1⟩ := cells2 (HW.out.heap H3.out.1 (by simp))
    go_wp2_with fail
    refine (ref11Rules_any w5 a1 n1 c1 a2 n2 c2 g (H.out.1.keep (H3.out.2.2.1.tr HW.out).kp)).mono ?_
    rintro e w6 ⟨u1, v1, rfl, hf1, hz1⟩
    have F1 := Lib.hid (And.intro hf1 hz1)
    clear hf1 hz1 x0 x1
    go_wp2_with fail
    have hp := sameInts_any w6 s8 u1 l1 y8 (rulesN g).length v1 (rulesN g) (rulesN g) HL.out.1 rfl (by have := HR9.out.1; have := HL.out.1; omega) ((ownInts_read HP.out.1.own).1.keep (HV.out.tr F1.out.2).kp) (ownInts_read F1.out.1.own).1
    rw [decide_eq_true rfl] at hp
    refine hp.mono ?_
    rintro e w7 ⟨rfl, hz2⟩
    have F2 := Lib.hid (F1.out.2.tr hz2)
    clear hz2 hp F1
    obtain ⟨x0, x1⟩ := cells2 ((HW.out.tr F2.out).heap H3.out.1 (by simp))
    go_wp2_with fail
    refine (ref11Nodes_any w7 a1 n1 c1 a2 n2 c2 g (H.out.1.keep (H3.out.2.2.1.tr (HW.out.tr F2.out)).kp)).mono ?_
    rintro e w8 ⟨u2, v2, rfl, hf3, hz3⟩
    have F3 := Lib.hid (And.intro hf3 (F2.out.tr hz3))
    clear hf3 hz3 x0 x1 F2
    go_wp2_with fail
    have hp := sameInts_any w8 s9 u2 l2 y9 (nodesN g).length v2 (nodesN g) (nodesN g) HL.out.2 rfl (by have := HR9.out.2; have := HL.out.2; omega) ((ownInts_read HP.out.2.1.own).1.keep (HV.out.tr F3.out.2).kp) (ownInts_read F3.out.1.own).1
    rw [decide_eq_true rfl] at hp
    refine hp.mono ?_
    rintro e w9 ⟨rfl, hz4⟩
    have F4 := Lib.hid (F3.out.2.tr hz4)
    clear hz4 hp F3
    obtain ⟨x0, x1⟩ := cells2 ((HW.out.tr F4.out).heap H3.out.1 (by simp))
    obtain ⟨x2, x3⟩ := cells2 ((HW.out.tr F4.out).heap H3.out.2.1 (by simp))
    go_wp2_with fail
    refine (KeptGrammar_any w9 b1 d1 b2 d2 a1 n1 c1 a2 n2 c2 g m1 m2 H3.out.2.2.2.2.1 H3.out.2.2.2.2.2 (H3.out.2.2.2.1.chg0 (HW.out.tr F4.out)) (H.out.1.keep (H3.out.2.2.1.tr (HW.out.tr F4.out)).kp) H.out.2.2.1 H.out.2.2.2.1 H.out.2.2.2.2).mono ?_
    rintro e wa ⟨rfl, hz5⟩
    have F5 := Lib.hid (F4.out.tr hz5)
    clear hz5 x0 x1 x2 x3 F4
    go_wp2_with fail
    obtain ⟨wb, hwb⟩ : ∃ z, z = wa.alloc (.cells #[.slice s8 l1 y8, .slice s9 l2 y9, .slice s10 l1 y10, .slice s11 l2 y11] 48) := ⟨_, rfl⟩
    have hcb : Chg [] w4 wb := by rw [hwb]; exact (HV.out.tr F5.out).alloc _
    have hc3 : Chg [] w3 wb := by rw [hwb]; exact (HW.out.tr F5.out).alloc _
    have hbb : wb.heap[wa.heap.size]? = some (.cells #[.slice s8 l1 y8, .slice s9 l2 y9, .slice s10 l1 y10, .slice s11 l2 y11] 48) := by rw [hwb]; exact heap_alloc_same _ _
    rw [← hwb]
    have HB := Lib.hid (And.intro hcb (And.intro hc3 hbb))
    have HWB := Lib.hid hwb
    clear hcb hc3 hbb hwb
    have r0 : ∃ xs, wb.ownsRow w3.heap.size 3 1 (.slice s8 l1 y8) l1 xs := by
      rw [HL.out.1]
      exact ⟨_, HB.out.1.row HP.out.1 (by simp)⟩
    have r1 : ∃ xs, wb.ownsRow w3.heap.size 3 1 (.slice s9 l2 y9) l2 xs := by
      rw [HL.out.2]
      exact ⟨_, HB.out.1.row HP.out.2.1 (by simp)⟩
    have r2 : ∃ xs, wb.ownsRow w3.heap.size 3 1 (.slice s10 l1 y10) l1 xs := by
      rw [HL.out.1]
      exact ⟨_, HB.out.1.row HP.out.2.2.1 (by simp)⟩
    have r3 : ∃ xs, wb.ownsRow w3.heap.size 3 1 (.slice s11 l2 y11) l2 xs := by
      rw [HL.out.2]
      exact ⟨_, HB.out.1.row HP.out.2.2.2.1 (by simp)⟩
    have e0 := HP.out.2.2.2.2.1
    have e1 := HP.out.2.2.2.2.2.1
    have e2 := HP.out.2.2.2.2.2.2.1
    have e3 := HP.out.2.2.2.2.2.2.2
    have q := HQ.out
    rw [← e0, ← e1, ← e2, ← e3] at q
    obtain ⟨q01, q02, q03, q12, q13, q23⟩ := q
    clear e0 e1 e2 e3
    obtain ⟨R, hR⟩ : ∃ R : Nat → IR, R = fun j => if j = 0 then ⟨s8, l1, y8⟩ else if j = 1 then ⟨s9, l2, y9⟩ else if j = 2 then ⟨s10, l1, y10⟩ else ⟨s11, l2, y11⟩ := ⟨_, rfl⟩
    have hR0 : R 0 = ⟨s8, l1, y8⟩ := by rw [hR]; rfl
    have hR1 : R 1 = ⟨s9, l2, y9⟩ := by rw [hR]; rfl
    have hR2 : R 2 = ⟨s10, l1, y10⟩ := by rw [hR]; rfl
    have hR3 : R 3 = ⟨s11, l2, y11⟩ := by rw [hR]; rfl
    clear hR
    have hrow : ∀ j, j < 4 → ∃ xs, wb.ownsRow w3.heap.size 3 1 (R j).v (R j).n xs := fun j hj => by
      rcases (show j = 0 ∨ j = 1 ∨ j = 2 ∨ j = 3 by omega) with rfl | rfl | rfl | rfl
      · rw [hR0]; exact r0
      · rw [hR1]; exact r1
      · rw [hR2]; exact r2
      · rw [hR3]; exact r3
    have hapt : ∀ i j, i < 4 → j < 4 → i < j → ∀ x, (R i).blk = some x → (R j).blk ≠ some x := fun i j hi hj hij => by
      rcases (show (i = 0 ∧ j = 1) ∨ (i = 0 ∧ j = 2) ∨ (i = 0 ∧ j = 3) ∨ (i = 1 ∧ j = 2) ∨ (i = 1 ∧ j = 3) ∨ (i = 2 ∧ j = 3) by omega) with ⟨rfl, rfl⟩ | ⟨rfl, rfl⟩ | ⟨rfl, rfl⟩ | ⟨rfl, rfl⟩ | ⟨rfl, rfl⟩ | ⟨rfl, rfl⟩
      · rw [hR0, hR1]; exact q01
      · rw [hR0, hR2]; exact q02
      · rw [hR0, hR3]; exact q03
      · rw [hR1, hR2]; exact q12
      · rw [hR1, hR3]; exact q13
      · rw [hR2, hR3]; exact q23
    obtain ⟨S, hS⟩ : ∃ S, S = (List.range 4).filterMap fun j => (R j).blk := ⟨_, rfl⟩
    have hSm : ∀ x ∈ S, w3.heap.size ≤ x ∧ x < wb.heap.size ∧ NotRow wb 48 x := fun x hx => by
      rw [hS] at hx
      obtain ⟨j, hj, hjx⟩ := List.mem_filterMap.1 hx
      obtain ⟨xs, hxs⟩ := hrow j (List.mem_range.1 hj)
      obtain ⟨z1, z2, cur, z3⟩ := row_beyond hxs hjx
      exact ⟨z1, z2, NotRow.of_cells z3 (by decide)⟩
    have hA : Apart 4 wb S R := ⟨fun j hj => by
        obtain ⟨xs, hxs⟩ := hrow j hj
        exact ⟨xs, row_base hxs (Nat.zero_le _), fun i hi => absurd hi (by omega)⟩, fun i j hi hj hij x hx => by
        rcases Nat.lt_or_ge i j with h | h
        · exact hapt i j hi hj h x hx
        · exact fun hy => hapt j i hj hi (by omega) x hy hx, fun j hj x hx => by
        rw [hS]; exact List.mem_filterMap.2 ⟨j, List.mem_range.2 hj, hx⟩, fun x hx => (hSm x hx).2.2⟩
    have hlen : ∀ j, j < 4 → (R j).n ≤ 1000000000 := fun j hj => by
      have := HR9.out.1
      have := HR9.out.2
      have := HL.out.1
      have := HL.out.2
      rcases (show j = 0 ∨ j = 1 ∨ j = 2 ∨ j = 3 by omega) with rfl | rfl | rfl | rfl
      · rw [hR0]; simp only; omega
      · rw [hR1]; simp only; omega
      · rw [hR2]; simp only; omega
      · rw [hR3]; simp only; omega
    have hcl : ∀ j, j < 4 → ∃ b o, (some ⟨wa.heap.size, 0, none⟩ : Option Addr) = some ⟨b, o, none⟩ ∧ wb.cell? ⟨b, o + j, none⟩ = some (R j).v := fun j hj => by
      refine ⟨wa.heap.size, 0, rfl, ?_⟩
      rw [Nat.zero_add]
      rcases (show j = 0 ∨ j = 1 ∨ j = 2 ∨ j = 3 by omega) with rfl | rfl | rfl | rfl
      · rw [hR0]; exact cell_of_cells HB.out.2.2 0
      · rw [hR1]; exact cell_of_cells HB.out.2.2 1
      · rw [hR2]; exact cell_of_cells HB.out.2.2 2
      · rw [hR3]; exact cell_of_cells HB.out.2.2 3
    have hp := ApartInts_any wb (some ⟨wa.heap.size, 0, none⟩) 4 4 S R (by omega) hlen hcl (by omega) (by simp [maxLen]) hA (fun x hx => (hSm x hx).2.1)
    have hSb : ∀ x ∈ S, w3.heap.size ≤ x := fun x hx => (hSm x hx).1
    clear hA hSm hS hlen hcl hapt hrow hR0 hR1 hR2 hR3 q01 q02 q03 q12 q13 q23 r0 r1 r2 r3
    refine hp.mono ?_
    rintro e wc ⟨rfl, hz6⟩
    have F6 : Hid (Chg [] w3 wc) := Lib.hid (HB.out.2.1.trans hz6 fun j hj => .inr (hSb j hj))
    clear hz6 hp hSb
    obtain ⟨x0, x1⟩ := cells2 (F6.out.heap H3.out.1 (by simp))
    obtain ⟨x2, x3⟩ := cells2 (F6.out.heap H3.out.2.1 (by simp))
    go_wp2_with fail
    refine (KeptGrammar_any wc b1 d1 b2 d2 a1 n1 c1 a2 n2 c2 g m1 m2 H3.out.2.2.2.2.1 H3.out.2.2.2.2.2 (H3.out.2.2.2.1.chg0 F6.out) (H.out.1.keep (H3.out.2.2.1.tr F6.out).kp) H.out.2.2.1 H.out.2.2.2.1 H.out.2.2.2.2).mono ?_
    rintro e wd ⟨rfl, hz7⟩
    have F7 := Lib.hid (H3.out.2.2.1.tr (F6.out.tr hz7))
    clear hz7 x0 x1 x2 x3
    go_wp2_with fail
    go_ret
    exact ⟨rfl, F7.out⟩
end Go.Proofs.YtibgfgfmljhimaaGreat

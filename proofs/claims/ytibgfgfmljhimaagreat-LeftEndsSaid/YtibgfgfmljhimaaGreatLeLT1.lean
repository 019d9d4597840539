/-
  LeftTells: what is told of a grammar and a node is what the document tells.
  Conditions: the grammar reads as data, within the reach.
-/
import Derived.Test.YtibgfgfmljhimaaGreatLeSf3
import Derived.Test.YtibgfgfmljhimaaGreatLeLn5
import Derived.Test.YtibgfgfmljhimaaGreatLeAp3
import Derived.Test.YtibgfgfmljhimaaGreatLeLfJ
import Derived.Test.YtibgfgfmljhimaaGreatLeLfN
import Derived.Test.YtibgfgfmljhimaaGreatLeGAny3
set_option linter.unusedVariables false
set_option linter.unusedSimpArgs false
set_option linter.unnecessarySimpa false
namespace Go.Proofs.YtibgfgfmljhimaaGreat
open Go.RowKit Go.MapKept Go.Shelf

set_option maxRecDepth 100000 in
set_option maxHeartbeats 32000000 in
theorem nodes12_any (w : World) (a1 : Option Addr) (n1 c1 : Nat) (a2 : Option Addr) (n2 c2 : Nat) (g : Gr) (hg : GramAt w a1 n1 c1 a2 n2 c2 g) (hre : Reach g) (hs1 : n1 ≤ 1099511627776) (hs2 : n2 ≤ 1099511627776) (hk : ∀ x ∈ g.nodes, x.kids.length ≤ 1099511627776) (n : Int) :
    Calls Tryz.prog 26 #[.agg #[.slice a1 n1 c1, .slice a2 n2 c2], .int .i64 n] w fun e w' => e = .returned (.bool true) ∧ Chg [] w w' := by
  have H := Lib.hid (And.intro hg (And.intro hre (And.intro hs1 (And.intro hs2 hk))))
  clear hg hre hs1 hs2 hk
  go_enter Tryz.func26, Tryz.ntmps26
  go_wp2_with fail
  refine (LentGrammar_any _ a1 n1 c1 a2 n2 c2 g (H.out.1.keep ((Chg.refl [] w).alloc _).kp) H.out.2.2.1 H.out.2.2.2.1 H.out.2.2.2.2).mono ?_
  rintro e w2 ⟨b1, d1, b2, d2, rfl, hl, hc2⟩
  obtain ⟨m1, hm1⟩ : ∃ m1, m1 = g.rules.length := ⟨_, rfl⟩
  obtain ⟨m2, hm2⟩ : ∃ m2, m2 = g.nodes.length := ⟨_, rfl⟩
  rw [← hm1, ← hm2]
  have hca := (Chg.refl [] w2).alloc (.cells #[.slice (some ⟨b1, 0, none⟩) m1 d1, .slice (some ⟨b2, 0, none⟩) m2 d2] 25)
  have hcw := (((Chg.refl [] w).alloc (.cells #[.slice a1 n1 c1, .slice a2 n2 c2] 25)).tr hc2).tr hca
  have hbg := (hc2.tr hca).heap (heap_alloc_same w (.cells #[.slice a1 n1 c1, .slice a2 n2 c2] 25)) (by simp)
  have hbi := heap_alloc_same w2 (.cells #[.slice (some ⟨b1, 0, none⟩) m1 d1, .slice (some ⟨b2, 0, none⟩) m2 d2] 25)
  obtain ⟨w3, e3⟩ : ∃ w3, w3 = w2.alloc (.cells #[.slice (some ⟨b1, 0, none⟩) m1 d1, .slice (some ⟨b2, 0, none⟩) m2 d2] 25) := ⟨_, rfl⟩
  have hl3 : LentG 0 w3 b1 d1 b2 d2 g := by
    rw [e3]
    obtain ⟨q1, ⟨L, q2, q3⟩, q4⟩ := hl.chg0 hca
    exact ⟨row_base q1 (Nat.zero_le _), ⟨L, q2, q3.below (Nat.zero_le _)⟩, q4⟩
  rw [← e3] at hcw hbg hbi
  have H3 := Lib.hid (And.intro hbg (And.intro hbi (And.intro hcw (And.intro hl3 (And.intro hm1 hm2)))))
  have HE := Lib.hid e3
  obtain ⟨A1, hA1⟩ : ∃ A, A = toldL g (ownG g) n := ⟨_, rfl⟩
  obtain ⟨A2, hA2⟩ : ∃ A, A = toldL g (callsG g) n := ⟨_, rfl⟩
  obtain ⟨l1, hl1⟩ : ∃ l1, l1 = A1.length := ⟨_, rfl⟩
  obtain ⟨l2, hl2⟩ : ∃ l2, l2 = A2.length := ⟨_, rfl⟩
  have hgi : GramAt w3 (some ⟨b1, 0, none⟩) m1 d1 (some ⟨b2, 0, none⟩) m2 d2 g := by rw [hm1, hm2]; exact hl3.gram
  have HGI := Lib.hid hgi
  have HR9 : Hid (A1.length ≤ 1000000 ∧ A2.length ≤ 1000000) := Lib.hid (by
    rw [hA1, hA2]
    unfold toldL
    split
    · rename_i h
      refine ⟨?_, ?_⟩
      · obtain ⟨m, rfl⟩ : ∃ m : Nat, n = (m : Int) := ⟨n.toNat, by omega⟩
        have := ownN_few h.1 (mayG g) (n := m) (by omega)
        unfold ownG
        omega
      · have := pickL_le 32 (fun r => (ownG g n).any fun k => isCall g.nodes k r)
        unfold callsG
        omega
    · simp)
  have HNo : Hid (∀ W, Chg [] w3 W → Calls Tryz.prog 64 #[.agg #[.slice (some ⟨b1, 0, none⟩) m1 d1, .slice (some ⟨b2, 0, none⟩) m2 d2], .int .i64 n] W fun e W' => ∃ a c, e = .returned (.slice a l1 c) ∧ FreshInts W.heap.size W' a c A1 ∧ Chg [] W W') := Lib.hid fun W hW => by
    have := leftNodes_any W _ _ _ _ _ _ g (hgi.keep hW.kp) H.out.2.1 n
    rw [hl1, hA1]
    exact this
  have HCa : Hid (∀ W, Chg [] w3 W → Calls Tryz.prog 65 #[.agg #[.slice (some ⟨b1, 0, none⟩) m1 d1, .slice (some ⟨b2, 0, none⟩) m2 d2], .int .i64 n] W fun e W' => ∃ a c, e = .returned (.slice a l2 c) ∧ FreshInts W.heap.size W' a c A2 ∧ Chg [] W W') := Lib.hid fun W hW => by
    have := leftCalls_any W _ _ _ _ _ _ g (hgi.keep hW.kp) H.out.2.1 n
    rw [hl2, hA2]
    exact this
  have HRN : Hid (∀ W, Chg [] w W → Calls Tryz.prog 66 #[.agg #[.slice a1 n1 c1, .slice a2 n2 c2], .int .i64 n] W (ToldInts W A1)) := Lib.hid fun W hW => by
    rw [hA1]
    exact ref12Nodes_any W _ _ _ _ _ _ g (H.out.1.keep hW.kp) n
  have HRC : Hid (∀ W, Chg [] w W → Calls Tryz.prog 67 #[.agg #[.slice a1 n1 c1, .slice a2 n2 c2], .int .i64 n] W (ToldInts W A2)) := Lib.hid fun W hW => by
    rw [hA2]
    exact ref12Calls_any W _ _ _ _ _ _ g (H.out.1.keep hW.kp) H.out.2.2.1 n
  have HL := Lib.hid (And.intro hl1 hl2)
  clear hl hc2 hm1 hm2 hca hcw hbg hbi e3 hl3 hl1 hl2 hgi hA1 hA2
  go_wp2_with fail
  rw [← HE.out]
  refine wp_region_st2 (by kernel_rfl) (by kernel_rfl) [12, 13, 14, 15, 16, 17, 18, 19, 20, 21, 22, 23, 6, 7, 8, 9] (by kernel_rfl) (fun rI rV rW => match rI with | 0 => rV = .agg #[.slice (some ⟨b1, 0, none⟩) m1 d1, .slice (some ⟨b2, 0, none⟩) m2 d2] | 1 => rV = .int .i64 n | 2 => ∃ r14 c14, rV = .slice r14 l1 c14 ∧ FreshInts w3.heap.size rW r14 c14 (A1) | 3 => rV = .agg #[.slice (some ⟨b1, 0, none⟩) m1 d1, .slice (some ⟨b2, 0, none⟩) m2 d2] | 4 => rV = .int .i64 n | 5 => ∃ r17 c17, rV = .slice r17 l2 c17 ∧ FreshInts w3.heap.size rW r17 c17 (A2) | 6 => rV = .agg #[.slice (some ⟨b1, 0, none⟩) m1 d1, .slice (some ⟨b2, 0, none⟩) m2 d2] | 7 => rV = .int .i64 n | 8 => ∃ r20 c20, rV = .slice r20 l1 c20 ∧ FreshInts w3.heap.size rW r20 c20 (A1) | 9 => rV = .agg #[.slice (some ⟨b1, 0, none⟩) m1 d1, .slice (some ⟨b2, 0, none⟩) m2 d2] | 10 => rV = .int .i64 n | 11 => ∃ r23 c23, rV = .slice r23 l2 c23 ∧ FreshInts w3.heap.size rW r23 c23 (A2) | 12 => ∃ s6 y6, rV = .slice s6 l1 y6 ∧ FreshInts w3.heap.size rW s6 y6 (A1) | 13 => ∃ s7 y7, rV = .slice s7 l2 y7 ∧ FreshInts w3.heap.size rW s7 y7 (A2) | 14 => ∃ s8 y8, rV = .slice s8 l1 y8 ∧ FreshInts w3.heap.size rW s8 y8 (A1) | 15 => ∃ s9 y9, rV = .slice s9 l2 y9 ∧ FreshInts w3.heap.size rW s9 y9 (A2) | _ => True) ?hS2 (fun i v j u => (i ∈ [2, 5, 8, 11] → j ∈ [2, 5, 8, 11] → ∀ x, v.ownBlock = some x → u.ownBlock ≠ some x) ∧ ((i, j) ∈ [(12, 2), (13, 5), (14, 8), (15, 11)] → v = u)) ?hstep2 ?hdone2
  case hS2 =>
    intro rI rV rW rW' hc rP
    match rI, rP with
    | 0, rP => exact rP
    | 1, rP => exact rP
    | 2, rP => exact (by obtain ⟨r14, c14, e9, hp⟩ := rP; exact ⟨r14, c14, e9, hc.row hp (fun _ _ => by simp)⟩)
    | 3, rP => exact rP
    | 4, rP => exact rP
    | 5, rP => exact (by obtain ⟨r17, c17, e9, hp⟩ := rP; exact ⟨r17, c17, e9, hc.row hp (fun _ _ => by simp)⟩)
    | 6, rP => exact rP
    | 7, rP => exact rP
    | 8, rP => exact (by obtain ⟨r20, c20, e9, hp⟩ := rP; exact ⟨r20, c20, e9, hc.row hp (fun _ _ => by simp)⟩)
    | 9, rP => exact rP
    | 10, rP => exact rP
    | 11, rP => exact (by obtain ⟨r23, c23, e9, hp⟩ := rP; exact ⟨r23, c23, e9, hc.row hp (fun _ _ => by simp)⟩)
    | 12, rP => exact (by obtain ⟨s6, y6, e9, hp⟩ := rP; exact ⟨s6, y6, e9, hc.row hp (fun _ _ => by simp)⟩)
    | 13, rP => exact (by obtain ⟨s7, y7, e9, hp⟩ := rP; exact ⟨s7, y7, e9, hc.row hp (fun _ _ => by simp)⟩)
    | 14, rP => exact (by obtain ⟨s8, y8, e9, hp⟩ := rP; exact ⟨s8, y8, e9, hc.row hp (fun _ _ => by simp)⟩)
    | 15, rP => exact (by obtain ⟨s9, y9, e9, hp⟩ := rP; exact ⟨s9, y9, e9, hc.row hp (fun _ _ => by simp)⟩)
    | _ + 16, _ => trivial
  case hstep2 =>
    intro rI rH us W hC hdep K hK
    have hiN : rI < 16 := rH
    simp only [actU, Act.put, List.setIfInBounds_toArray, List.set_cons_succ, List.set_cons_zero, Nat.reduceAdd] at hK ⊢
    obtain ⟨x0, x1⟩ := cells2 (hC.heap H3.out.2.1 (by simp))
    rcases (show rI = 0 ∨ rI = 1 ∨ rI = 2 ∨ rI = 3 ∨ rI = 4 ∨ rI = 5 ∨ rI = 6 ∨ rI = 7 ∨ rI = 8 ∨ rI = 9 ∨ rI = 10 ∨ rI = 11 ∨ rI = 12 ∨ rI = 13 ∨ rI = 14 ∨ rI = 15 by omega) with rfl | rfl | rfl | rfl | rfl | rfl | rfl | rfl | rfl | rfl | rfl | rfl | rfl | rfl | rfl | rfl
    · simp only [List.getD_cons_succ, List.getD_cons_zero, List.setIfInBounds_toArray, List.set_cons_succ, List.set_cons_zero] at hK ⊢
      refine wpOp_at rfl rfl ?_
      go_simp
      exact hK _ _ _ rfl (Chg.refl _ _) rfl (fun j9 hj9 hne9 hw9 hq9 => ⟨fun hi9 => absurd hi9 (by decide), fun hl9 => by simp at hl9⟩)
    · simp only [List.getD_cons_succ, List.getD_cons_zero, List.setIfInBounds_toArray, List.set_cons_succ, List.set_cons_zero] at hK ⊢
      refine wpOp_at rfl rfl ?_
      go_simp
      exact hK _ _ _ rfl (Chg.refl _ _) rfl (fun j9 hj9 hne9 hw9 hq9 => ⟨fun hi9 => absurd hi9 (by decide), fun hl9 => by simp at hl9⟩)
    · have l0 := hdep 0 (by kernel_rfl)
      replace l0 : us 0 = .agg #[.slice (some ⟨b1, 0, none⟩) m1 d1, .slice (some ⟨b2, 0, none⟩) m2 d2] := l0
      have l1 := hdep 1 (by kernel_rfl)
      replace l1 : us 1 = .int .i64 n := l1
      simp only [List.getD_cons_succ, List.getD_cons_zero, List.setIfInBounds_toArray, List.set_cons_succ, List.set_cons_zero, l0, l1] at hK ⊢
      refine wpOp_at rfl rfl ?_
      go_simp
      refine (HNo.out W hC).mono ?_
      rintro e wz ⟨r14, c14, rfl, hf, hz⟩
      exact hK _ _ _ rfl hz ⟨r14, c14, rfl, row_base hf hC.size⟩ (fun j9 hj9 hne9 hw9 hq9 => ⟨fun _ hjT x hx hy => by (simp only [List.mem_cons, List.not_mem_nil, or_false] at hjT; rcases hjT with rfl | rfl | rfl | rfl <;> first | exact absurd rfl hne9 | (obtain ⟨a9, c9, e9, h9⟩ := hq9; rw [e9] at hy; (try simp only [HL.out.1, HL.out.2] at hx); (try simp only [HL.out.1, HL.out.2] at hy); have q1 := (row_beyond hf hx).1; have q2 := (row_beyond h9 hy).2.1; omega)), fun hl9 => by simp at hl9⟩)
    · simp only [List.getD_cons_succ, List.getD_cons_zero, List.setIfInBounds_toArray, List.set_cons_succ, List.set_cons_zero] at hK ⊢
      refine wpOp_at rfl rfl ?_
      go_simp
      exact hK _ _ _ rfl (Chg.refl _ _) rfl (fun j9 hj9 hne9 hw9 hq9 => ⟨fun hi9 => absurd hi9 (by decide), fun hl9 => by simp at hl9⟩)
    · simp only [List.getD_cons_succ, List.getD_cons_zero, List.setIfInBounds_toArray, List.set_cons_succ, List.set_cons_zero] at hK ⊢
      refine wpOp_at rfl rfl ?_
      go_simp
      exact hK _ _ _ rfl (Chg.refl _ _) rfl (fun j9 hj9 hne9 hw9 hq9 => ⟨fun hi9 => absurd hi9 (by decide), fun hl9 => by simp at hl9⟩)
    · have l3 := hdep 3 (by kernel_rfl)
      replace l3 : us 3 = .agg #[.slice (some ⟨b1, 0, none⟩) m1 d1, .slice (some ⟨b2, 0, none⟩) m2 d2] := l3
      have l4 := hdep 4 (by kernel_rfl)
      replace l4 : us 4 = .int .i64 n := l4
      simp only [List.getD_cons_succ, List.getD_cons_zero, List.setIfInBounds_toArray, List.set_cons_succ, List.set_cons_zero, l3, l4] at hK ⊢
      refine wpOp_at rfl rfl ?_
      go_simp
      refine (HCa.out W hC).mono ?_
      rintro e wz ⟨r17, c17, rfl, hf, hz⟩
      exact hK _ _ _ rfl hz ⟨r17, c17, rfl, row_base hf hC.size⟩ (fun j9 hj9 hne9 hw9 hq9 => ⟨fun _ hjT x hx hy => by (simp only [List.mem_cons, List.not_mem_nil, or_false] at hjT; rcases hjT with rfl | rfl | rfl | rfl <;> first | exact absurd rfl hne9 | (obtain ⟨a9, c9, e9, h9⟩ := hq9; rw [e9] at hy; (try simp only [HL.out.1, HL.out.2] at hx); (try simp only [HL.out.1, HL.out.2] at hy); have q1 := (row_beyond hf hx).1; have q2 := (row_beyond h9 hy).2.1; omega)), fun hl9 => by simp at hl9⟩)
    · simp only [List.getD_cons_succ, List.getD_cons_zero, List.setIfInBounds_toArray, List.set_cons_succ, List.set_cons_zero] at hK ⊢
      refine wpOp_at rfl rfl ?_
      go_simp
      exact hK _ _ _ rfl (Chg.refl _ _) rfl (fun j9 hj9 hne9 hw9 hq9 => ⟨fun hi9 => absurd hi9 (by decide), fun hl9 => by simp at hl9⟩)
    · simp only [List.getD_cons_succ, List.getD_cons_zero, List.setIfInBounds_toArray, List.set_cons_succ, List.set_cons_zero] at hK ⊢
      refine wpOp_at rfl rfl ?_
      go_simp
      exact hK _ _ _ rfl (Chg.refl _ _) rfl (fun j9 hj9 hne9 hw9 hq9 => ⟨fun hi9 => absurd hi9 (by decide), fun hl9 => by simp at hl9⟩)
    · have l6 := hdep 6 (by kernel_rfl)
      replace l6 : us 6 = .agg #[.slice (some ⟨b1, 0, none⟩) m1 d1, .slice (some ⟨b2, 0, none⟩) m2 d2] := l6
      have l7 := hdep 7 (by kernel_rfl)
      replace l7 : us 7 = .int .i64 n := l7
      simp only [List.getD_cons_succ, List.getD_cons_zero, List.setIfInBounds_toArray, List.set_cons_succ, List.set_cons_zero, l6, l7] at hK ⊢
      refine wpOp_at rfl rfl ?_
      go_simp
      refine (HNo.out W hC).mono ?_
      rintro e wz ⟨r20, c20, rfl, hf, hz⟩
      exact hK _ _ _ rfl hz ⟨r20, c20, rfl, row_base hf hC.size⟩ (fun j9 hj9 hne9 hw9 hq9 => ⟨fun _ hjT x hx hy => by (simp only [List.mem_cons, List.not_mem_nil, or_false] at hjT; rcases hjT with rfl | rfl | rfl | rfl <;> first | exact absurd rfl hne9 | (obtain ⟨a9, c9, e9, h9⟩ := hq9; rw [e9] at hy; (try simp only [HL.out.1, HL.out.2] at hx); (try simp only [HL.out.1, HL.out.2] at hy); have q1 := (row_beyond hf hx).1; have q2 := (row_beyond h9 hy).2.1; omega)), fun hl9 => by simp at hl9⟩)
    · simp only [List.getD_cons_succ, List.getD_cons_zero, List.setIfInBounds_toArray, List.set_cons_succ, List.set_cons_zero] at hK ⊢
      refine wpOp_at rfl rfl ?_
      go_simp
      exact hK _ _ _ rfl (Chg.refl _ _) rfl (fun j9 hj9 hne9 hw9 hq9 => ⟨fun hi9 => absurd hi9 (by decide), fun hl9 => by simp at hl9⟩)
    · simp only [List.getD_cons_succ, List.getD_cons_zero, List.setIfInBounds_toArray, List.set_cons_succ, List.set_cons_zero] at hK ⊢
      refine wpOp_at rfl rfl ?_
      go_simp
      exact hK _ _ _ rfl (Chg.refl _ _) rfl (fun j9 hj9 hne9 hw9 hq9 => ⟨fun hi9 => absurd hi9 (by decide), fun hl9 => by simp at hl9⟩)
    · have l9 := hdep 9 (by kernel_rfl)
      replace l9 : us 9 = .agg #[.slice (some ⟨b1, 0, none⟩) m1 d1, .slice (some ⟨b2, 0, none⟩) m2 d2] := l9
      have l10 := hdep 10 (by kernel_rfl)
      replace l10 : us 10 = .int .i64 n := l10
      simp only [List.getD_cons_succ, List.getD_cons_zero, List.setIfInBounds_toArray, List.set_cons_succ, List.set_cons_zero, l9, l10] at hK ⊢
      refine wpOp_at rfl rfl ?_
      go_simp
      refine (HCa.out W hC).mono ?_
      rintro e wz ⟨r23, c23, rfl, hf, hz⟩
      exact hK _ _ _ rfl hz ⟨r23, c23, rfl, row_base hf hC.size⟩ (fun j9 hj9 hne9 hw9 hq9 => ⟨fun _ hjT x hx hy => by (simp only [List.mem_cons, List.not_mem_nil, or_false] at hjT; rcases hjT with rfl | rfl | rfl | rfl <;> first | exact absurd rfl hne9 | (obtain ⟨a9, c9, e9, h9⟩ := hq9; rw [e9] at hy; (try simp only [HL.out.1, HL.out.2] at hx); (try simp only [HL.out.1, HL.out.2] at hy); have q1 := (row_beyond hf hx).1; have q2 := (row_beyond h9 hy).2.1; omega)), fun hl9 => by simp at hl9⟩)
    · have l2 := hdep 2 (by kernel_rfl)
      obtain ⟨r14, c14, l2, p2⟩ := l2
      simp only [List.getD_cons_succ, List.getD_cons_zero, List.setIfInBounds_toArray, List.set_cons_succ, List.set_cons_zero, l2] at hK ⊢
      refine wpOp_at rfl rfl ?_
      go_simp
      exact hK _ _ _ rfl (Chg.refl _ _) ⟨r14, c14, rfl, p2⟩ (fun j9 hj9 hne9 hw9 hq9 => ⟨fun hi9 => absurd hi9 (by decide), fun hl9 => by simp at hl9; subst hl9; exact l2.symm⟩)
    · have l5 := hdep 5 (by kernel_rfl)
      obtain ⟨r17, c17, l5, p5⟩ := l5
      simp only [List.getD_cons_succ, List.getD_cons_zero, List.setIfInBounds_toArray, List.set_cons_succ, List.set_cons_zero, l5] at hK ⊢
      refine wpOp_at rfl rfl ?_
      go_simp
      exact hK _ _ _ rfl (Chg.refl _ _) ⟨r17, c17, rfl, p5⟩ (fun j9 hj9 hne9 hw9 hq9 => ⟨fun hi9 => absurd hi9 (by decide), fun hl9 => by simp at hl9; subst hl9; exact l5.symm⟩)
    · have l8 := hdep 8 (by kernel_rfl)
      obtain ⟨r20, c20, l8, p8⟩ := l8
      simp only [List.getD_cons_succ, List.getD_cons_zero, List.setIfInBounds_toArray, List.set_cons_succ, List.set_cons_zero, l8] at hK ⊢
      refine wpOp_at rfl rfl ?_
      go_simp
      exact hK _ _ _ rfl (Chg.refl _ _) ⟨r20, c20, rfl, p8⟩ (fun j9 hj9 hne9 hw9 hq9 => ⟨fun hi9 => absurd hi9 (by decide), fun hl9 => by simp at hl9; subst hl9; exact l8.symm⟩)
    · have l11 := hdep 11 (by kernel_rfl)
      obtain ⟨r23, c23, l11, p11⟩ := l11
      simp only [List.getD_cons_succ, List.getD_cons_zero, List.setIfInBounds_toArray, List.set_cons_succ, List.set_cons_zero, l11] at hK ⊢
      refine wpOp_at rfl rfl ?_
      go_simp
      exact hK _ _ _ rfl (Chg.refl _ _) ⟨r23, c23, rfl, p11⟩ (fun j9 hj9 hne9 hw9 hq9 => ⟨fun hi9 => absurd hi9 (by decide), fun hl9 => by simp at hl9; subst hl9; exact l11.symm⟩)
  case hdone2 =>
    intro us W hC hall hpw
    have lk12 : us 12 = us 2 := by
      rcases hpw 12 2 (by decide) (by decide) (by decide) with h | h
      · exact h.1.2 (by decide)
      · exact absurd (h.2.symm.trans (show waits _ 12 2 = true by kernel_rfl)) (by decide)
    have lk13 : us 13 = us 5 := by
      rcases hpw 13 5 (by decide) (by decide) (by decide) with h | h
      · exact h.1.2 (by decide)
      · exact absurd (h.2.symm.trans (show waits _ 13 5 = true by kernel_rfl)) (by decide)
    have lk14 : us 14 = us 8 := by
      rcases hpw 14 8 (by decide) (by decide) (by decide) with h | h
      · exact h.1.2 (by decide)
      · exact absurd (h.2.symm.trans (show waits _ 14 8 = true by kernel_rfl)) (by decide)
    have lk15 : us 15 = us 11 := by
      rcases hpw 15 11 (by decide) (by decide) (by decide) with h | h
      · exact h.1.2 (by decide)
      · exact absurd (h.2.symm.trans (show waits _ 15 11 = true by kernel_rfl)) (by decide)
    have qp2_5 : ∀ x, (us 2).ownBlock = some x → (us 5).ownBlock ≠ some x := by
      rcases hpw 2 5 (by decide) (by decide) (by decide) with h | h
      · exact h.1.1 (by decide) (by decide)
      · exact fun x hx hy => h.1.1 (by decide) (by decide) x hy hx
    have qp2_8 : ∀ x, (us 2).ownBlock = some x → (us 8).ownBlock ≠ some x := by
      rcases hpw 2 8 (by decide) (by decide) (by decide) with h | h
      · exact h.1.1 (by decide) (by decide)
      · exact fun x hx hy => h.1.1 (by decide) (by decide) x hy hx
    have qp2_11 : ∀ x, (us 2).ownBlock = some x → (us 11).ownBlock ≠ some x := by
      rcases hpw 2 11 (by decide) (by decide) (by decide) with h | h
      · exact h.1.1 (by decide) (by decide)
      · exact fun x hx hy => h.1.1 (by decide) (by decide) x hy hx
    have qp5_8 : ∀ x, (us 5).ownBlock = some x → (us 8).ownBlock ≠ some x := by
      rcases hpw 5 8 (by decide) (by decide) (by decide) with h | h
      · exact h.1.1 (by decide) (by decide)
      · exact fun x hx hy => h.1.1 (by decide) (by decide) x hy hx
    have qp5_11 : ∀ x, (us 5).ownBlock = some x → (us 11).ownBlock ≠ some x := by
      rcases hpw 5 11 (by decide) (by decide) (by decide) with h | h
      · exact h.1.1 (by decide) (by decide)
      · exact fun x hx hy => h.1.1 (by decide) (by decide) x hy hx
    have qp8_11 : ∀ x, (us 8).ownBlock = some x → (us 11).ownBlock ≠ some x := by
      rcases hpw 8 11 (by decide) (by decide) (by decide) with h | h
      · exact h.1.1 (by decide) (by decide)
      · exact fun x hx hy => h.1.1 (by decide) (by decide) x hy hx
    have l0 := hall 0 (by decide)
    replace l0 : us 0 = .agg #[.slice (some ⟨b1, 0, none⟩) m1 d1, .slice (some ⟨b2, 0, none⟩) m2 d2] := l0
    have l1 := hall 1 (by decide)
    replace l1 : us 1 = .int .i64 n := l1
    have l2 := hall 2 (by decide)
    obtain ⟨r14, c14, l2, p2⟩ := l2
    have l3 := hall 3 (by decide)
    replace l3 : us 3 = .agg #[.slice (some ⟨b1, 0, none⟩) m1 d1, .slice (some ⟨b2, 0, none⟩) m2 d2] := l3
    have l4 := hall 4 (by decide)
    replace l4 : us 4 = .int .i64 n := l4
    have l5 := hall 5 (by decide)
    obtain ⟨r17, c17, l5, p5⟩ := l5
    have l6 := hall 6 (by decide)
    replace l6 : us 6 = .agg #[.slice (some ⟨b1, 0, none⟩) m1 d1, .slice (some ⟨b2, 0, none⟩) m2 d2] := l6
    have l7 := hall 7 (by decide)
    replace l7 : us 7 = .int .i64 n := l7
    have l8 := hall 8 (by decide)
    obtain ⟨r20, c20, l8, p8⟩ := l8
    have l9 := hall 9 (by decide)
    replace l9 : us 9 = .agg #[.slice (some ⟨b1, 0, none⟩) m1 d1, .slice (some ⟨b2, 0, none⟩) m2 d2] := l9
    have l10 := hall 10 (by decide)
    replace l10 : us 10 = .int .i64 n := l10
    have l11 := hall 11 (by decide)
    obtain ⟨r23, c23, l11, p11⟩ := l11
    have l12 := hall 12 (by decide)
    obtain ⟨s6, y6, l12, p12⟩ := l12
    have l13 := hall 13 (by decide)
    obtain ⟨s7, y7, l13, p13⟩ := l13
    have l14 := hall 14 (by decide)
    obtain ⟨s8, y8, l14, p14⟩ := l14
    have l15 := hall 15 (by decide)
    obtain ⟨s9, y9, l15, p15⟩ := l15
    rw [l12, l2] at lk12
    rw [l13, l5] at lk13
    rw [l14, l8] at lk14
    rw [l15, l11] at lk15
    rw [l2, l5] at qp2_5
    rw [l2, l8] at qp2_8
    rw [l2, l11] at qp2_11
    rw [l5, l8] at qp5_8
    rw [l5, l11] at qp5_11
    rw [l8, l11] at qp8_11
    clear hpw
    simp only [actU, Act.put, List.setIfInBounds_toArray, List.set_cons_succ, List.set_cons_zero, Nat.reduceAdd, l0, l1, l2, l3, l4, l5, l6, l7, l8, l9, l10, l11, l12, l13, l14, l15]
    clear hall l0 l1 l2 l3 l4 l5 l6 l7 l8 l9 l10 l11 l12 l13 l14 l15
    obtain ⟨w4, rfl⟩ : ∃ wz, wz = W := ⟨_, rfl⟩
    have HV := Lib.hid (Chg.refl [] w4)
    have HW := Lib.hid hC
    have HP := Lib.hid (And.intro p12 (And.intro p13 (And.intro p14 (And.intro p15 (And.intro lk12 (And.intro lk13 (And.intro lk14 lk15)))))))
    have HQ := Lib.hid (And.intro qp2_5 (And.intro qp2_8 (And.intro qp2_11 (And.intro qp5_8 (And.intro qp5_11 qp8_11)))))
    clear p2 p5 p8 p11 p12 p13 p14 p15 lk12 lk13 lk14 lk15 qp2_5 qp2_8 qp2_11 qp5_8 qp5_11 qp8_11 hC
    obtain ⟨x0, x1⟩ := cells2 (HW.out.heap H3.out.1 (by simp))
    go_wp2_with fail
    refine (HRN.out w4 (H3.out.2.2.1.tr HW.out)).mono ?_
    rintro e w6 ⟨u1, q1, v1, rfl, eq1, hf1, hz1⟩
    have F1 := Lib.hid (And.intro hf1 (And.intro hz1 eq1))
    clear hf1 hz1 eq1 x0 x1
    go_wp2_with fail
    have hp := same12_any w6 s6 u1 l1 y6 q1 v1 A1 A1 HL.out.1 F1.out.2.2 (by have := HR9.out.1; have := HL.out.1; omega) ((ownInts_read HP.out.1.own).1.keep (HV.out.tr F1.out.2.1).kp) (ownInts_read F1.out.1.own).1
    rw [decide_eq_true rfl] at hp
    refine hp.mono ?_
    rintro e w7 ⟨rfl, hz2⟩
    have F2 := Lib.hid (F1.out.2.1.tr hz2)
    clear hz2 hp F1
    obtain ⟨x0, x1⟩ := cells2 ((HW.out.tr F2.out).heap H3.out.1 (by simp))
    go_wp2_with fail
    refine (HRC.out w7 (H3.out.2.2.1.tr (HW.out.tr F2.out))).mono ?_
    rintro e w8 ⟨u2, q2, v2, rfl, eq2, hf3, hz3⟩
    have F3 := Lib.hid (And.intro hf3 (And.intro (F2.out.tr hz3) eq2))
    clear hf3 hz3 eq2 x0 x1 F2
    go_wp2_with fail
    have hp := same12_any w8 s7 u2 l2 y7 q2 v2 A2 A2 HL.out.2 F3.out.2.2 (by have := HR9.out.2; have := HL.out.2; omega) ((ownInts_read HP.out.2.1.own).1.keep (HV.out.tr F3.out.2.1).kp) (ownInts_read F3.out.1.own).1
    rw [decide_eq_true rfl] at hp
    refine hp.mono ?_
    rintro e w9 ⟨rfl, hz4⟩
    have F4 := Lib.hid (F3.out.2.1.tr hz4)
    clear hz4 hp F3
    obtain ⟨x0, x1⟩ := cells2 ((HW.out.tr F4.out).heap H3.out.1 (by simp))
    obtain ⟨x2, x3⟩ := cells2 ((HW.out.tr F4.out).heap H3.out.2.1 (by simp))
    go_wp2_with fail
    refine (KeptGrammar_any w9 b1 d1 b2 d2 a1 n1 c1 a2 n2 c2 g m1 m2 H3.out.2.2.2.2.1 H3.out.2.2.2.2.2 (H3.out.2.2.2.1.chg0 (HW.out.tr F4.out)) (H.out.1.keep (H3.out.2.2.1.tr (HW.out.tr F4.out)).kp) H.out.2.2.1 H.out.2.2.2.1 H.out.2.2.2.2).mono ?_
    rintro e wa ⟨rfl, hz5⟩
    have F5 := Lib.hid (F4.out.tr hz5)
    clear hz5 x0 x1 x2 x3 F4
    go_wp2_with fail
    obtain ⟨wb, hwb⟩ : ∃ z, z = wa.alloc (.cells #[.slice s6 l1 y6, .slice s7 l2 y7, .slice s8 l1 y8, .slice s9 l2 y9] 48) := ⟨_, rfl⟩
    have hcb : Chg [] w4 wb := by rw [hwb]; exact (HV.out.tr F5.out).alloc _
    have hc3 : Chg [] w3 wb := by rw [hwb]; exact (HW.out.tr F5.out).alloc _
    have hbb : wb.heap[wa.heap.size]? = some (.cells #[.slice s6 l1 y6, .slice s7 l2 y7, .slice s8 l1 y8, .slice s9 l2 y9] 48) := by rw [hwb]; exact heap_alloc_same _ _
    rw [← hwb]
    have HB := Lib.hid (And.intro hcb (And.intro hc3 hbb))
    have HWB := Lib.hid hwb
    clear hcb hc3 hbb hwb
    have r0 : ∃ xs, wb.ownsRow w3.heap.size 3 1 (.slice s6 l1 y6) l1 xs := by
      rw [HL.out.1]
      exact ⟨_, HB.out.1.row HP.out.1 (by simp)⟩
    have r1 : ∃ xs, wb.ownsRow w3.heap.size 3 1 (.slice s7 l2 y7) l2 xs := by
      rw [HL.out.2]
      exact ⟨_, HB.out.1.row HP.out.2.1 (by simp)⟩
    have r2 : ∃ xs, wb.ownsRow w3.heap.size 3 1 (.slice s8 l1 y8) l1 xs := by
      rw [HL.out.1]
      exact ⟨_, HB.out.1.row HP.out.2.2.1 (by simp)⟩
    have r3 : ∃ xs, wb.ownsRow w3.heap.size 3 1 (.slice s9 l2 y9) l2 xs := by
      rw [HL.out.2]
      exact ⟨_, HB.out.1.row HP.out.2.2.2.1 (by simp)⟩
    have e0 := HP.out.2.2.2.2.1
    have e1 := HP.out.2.2.2.2.2.1
    have e2 := HP.out.2.2.2.2.2.2.1
    have e3 := HP.out.2.2.2.2.2.2.2
    have q := HQ.out
    rw [← e0, ← e1, ← e2, ← e3] at q
    obtain ⟨q01, q02, q03, q12, q13, q23⟩ := q
    clear e0 e1 e2 e3
    obtain ⟨R, hR⟩ : ∃ R : Nat → IR, R = fun j => if j = 0 then ⟨s6, l1, y6⟩ else if j = 1 then ⟨s7, l2, y7⟩ else if j = 2 then ⟨s8, l1, y8⟩ else ⟨s9, l2, y9⟩ := ⟨_, rfl⟩
    have hR0 : R 0 = ⟨s6, l1, y6⟩ := by rw [hR]; rfl
    have hR1 : R 1 = ⟨s7, l2, y7⟩ := by rw [hR]; rfl
    have hR2 : R 2 = ⟨s8, l1, y8⟩ := by rw [hR]; rfl
    have hR3 : R 3 = ⟨s9, l2, y9⟩ := by rw [hR]; rfl
    clear hR
    have hrow : ∀ j, j < 4 → ∃ xs, wb.ownsRow w3.heap.size 3 1 (R j).v (R j).n xs := fun j hj => by
      rcases (show j = 0 ∨ j = 1 ∨ j = 2 ∨ j = 3 by omega) with rfl | rfl | rfl | rfl
      · rw [hR0]; exact r0
      · rw [hR1]; exact r1
      · rw [hR2]; exact r2
      · rw [hR3]; exact r3
    have hapt : ∀ i j, i < 4 → j < 4 → i < j → ∀ x, (R i).blk = some x → (R j).blk ≠ some x := fun i j hi hj hij => by
      rcases (show (i = 0 ∧ j = 1) ∨ (i = 0 ∧ j = 2) ∨ (i = 0 ∧ j = 3) ∨ (i = 1 ∧ j = 2) ∨ (i = 1 ∧ j = 3) ∨ (i = 2 ∧ j = 3) by omega) with ⟨rfl, rfl⟩ | ⟨rfl, rfl⟩ | ⟨rfl, rfl⟩ | ⟨rfl, rfl⟩ | ⟨rfl, rfl⟩ | ⟨rfl, rfl⟩
      · rw [hR0, hR1]; exact q01
      · rw [hR0, hR2]; exact q02
      · rw [hR0, hR3]; exact q03
      · rw [hR1, hR2]; exact q12
      · rw [hR1, hR3]; exact q13
      · rw [hR2, hR3]; exact q23
    obtain ⟨S, hS⟩ : ∃ S, S = (List.range 4).filterMap fun j => (R j).blk := ⟨_, rfl⟩
    have hSm : ∀ x ∈ S, w3.heap.size ≤ x ∧ x < wb.heap.size ∧ NotRow wb 48 x := fun x hx => by
      rw [hS] at hx
      obtain ⟨j, hj, hjx⟩ := List.mem_filterMap.1 hx
      obtain ⟨xs, hxs⟩ := hrow j (List.mem_range.1 hj)
      obtain ⟨z1, z2, cur, z3⟩ := row_beyond hxs hjx
      exact ⟨z1, z2, NotRow.of_cells z3 (by decide)⟩
    have hA : Apart 4 wb S R := ⟨fun j hj => by
        obtain ⟨xs, hxs⟩ := hrow j hj
        exact ⟨xs, row_base hxs (Nat.zero_le _), fun i hi => absurd hi (by omega)⟩, fun i j hi hj hij x hx => by
        rcases Nat.lt_or_ge i j with h | h
        · exact hapt i j hi hj h x hx
        · exact fun hy => hapt j i hj hi (by omega) x hy hx, fun j hj x hx => by
        rw [hS]; exact List.mem_filterMap.2 ⟨j, List.mem_range.2 hj, hx⟩, fun x hx => (hSm x hx).2.2⟩
    have hlen : ∀ j, j < 4 → (R j).n ≤ 1000000000 := fun j hj => by
      have := HR9.out.1
      have := HR9.out.2
      have := HL.out.1
      have := HL.out.2
      rcases (show j = 0 ∨ j = 1 ∨ j = 2 ∨ j = 3 by omega) with rfl | rfl | rfl | rfl
      · rw [hR0]; simp only; omega
      · rw [hR1]; simp only; omega
      · rw [hR2]; simp only; omega
      · rw [hR3]; simp only; omega
    have hcl : ∀ j, j < 4 → ∃ b o, (some ⟨wa.heap.size, 0, none⟩ : Option Addr) = some ⟨b, o, none⟩ ∧ wb.cell? ⟨b, o + j, none⟩ = some (R j).v := fun j hj => by
      refine ⟨wa.heap.size, 0, rfl, ?_⟩
      rw [Nat.zero_add]
      rcases (show j = 0 ∨ j = 1 ∨ j = 2 ∨ j = 3 by omega) with rfl | rfl | rfl | rfl
      · rw [hR0]; exact cell_of_cells HB.out.2.2 0
      · rw [hR1]; exact cell_of_cells HB.out.2.2 1
      · rw [hR2]; exact cell_of_cells HB.out.2.2 2
      · rw [hR3]; exact cell_of_cells HB.out.2.2 3
    have hp := ApartInts_any wb (some ⟨wa.heap.size, 0, none⟩) 4 4 S R (by omega) hlen hcl (by omega) (by simp [maxLen]) hA (fun x hx => (hSm x hx).2.1)
    have hSb : ∀ x ∈ S, w3.heap.size ≤ x := fun x hx => (hSm x hx).1
    clear hA hSm hS hlen hcl hapt hrow hR0 hR1 hR2 hR3 q01 q02 q03 q12 q13 q23 r0 r1 r2 r3
    refine hp.mono ?_
    rintro e wc ⟨rfl, hz6⟩
    have F6 : Hid (Chg [] w3 wc) := Lib.hid (HB.out.2.1.trans hz6 fun j hj => .inr (hSb j hj))
    clear hz6 hp hSb
    obtain ⟨x0, x1⟩ := cells2 (F6.out.heap H3.out.1 (by simp))
    obtain ⟨x2, x3⟩ := cells2 (F6.out.heap H3.out.2.1 (by simp))
    go_wp2_with fail
    refine (KeptGrammar_any wc b1 d1 b2 d2 a1 n1 c1 a2 n2 c2 g m1 m2 H3.out.2.2.2.2.1 H3.out.2.2.2.2.2 (H3.out.2.2.2.1.chg0 F6.out) (H.out.1.keep (H3.out.2.2.1.tr F6.out).kp) H.out.2.2.1 H.out.2.2.2.1 H.out.2.2.2.2).mono ?_
    rintro e wd ⟨rfl, hz7⟩
    have F7 := Lib.hid (H3.out.2.2.1.tr (F6.out.tr hz7))
    clear hz7 x0 x1 x2 x3
    go_wp2_with fail
    go_ret
    exact ⟨rfl, F7.out⟩
end Go.Proofs.YtibgfgfmljhimaaGreat

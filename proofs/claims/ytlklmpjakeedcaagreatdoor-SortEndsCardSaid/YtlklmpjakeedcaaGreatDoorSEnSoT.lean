/-
 SortTells: what is told of a grammar and a rule is what the document tells.
 Conditions: the grammar reads as data, within the reach.
-/
import Derived.Test.YtlklmpjakeedcaaGreatDoorSEnSoA
import Derived.Test.YtlklmpjakeedcaaGreatDoorSEnLf4
import Derived.Test.YtlklmpjakeedcaaGreatDoorSEnLn5
import Derived.Test.YtlklmpjakeedcaaGreatDoorSEnAp3
import Derived.Test.YtlklmpjakeedcaaGreatDoorSEnGAny2
set_option linter.unusedVariables false
set_option linter.unusedSimpArgs false
set_option linter.unnecessarySimpa false
namespace Go.Proofs.YtlklmpjakeedcaaGreatDoor
open Go.RowKit Go.MapKept Go.Shelf

theorem withOf_few {X : List (List Int)} (h : Cp.rightI X = true) (i : Int) : (withOf X i).length ≤ 64 := by
 cases hi : inX X i with
 | true =>
  obtain ⟨k, rfl, hk⟩ := in_nat hi
  exact with_few h hk
 | false =>
  unfold withOf
  rw [hi]; simp
theorem order_few {X : List (List Int)} (h : Cp.rightI X = true) : (orderI X).length ≤ 64 := by
 have h1 := (order_ok h).len
 have h2 := (Cp.right_RG h).few
 rw [Cp.toG_len] at h2
 rw [order_nat h, natI_len]
 omega

set_option maxRecDepth 100000 in
set_option maxHeartbeats 32000000 in
theorem tells14_any (w : World) (a1 : Option Addr) (n1 c1 : Nat) (a2 : Option Addr) (n2 c2 : Nat) (g : Gr) (hg : GramAt w a1 n1 c1 a2 n2 c2 g) (hre : Reach g) (hs1 : n1 ≤ 1099511627776) (hs2 : n2 ≤ 1099511627776) (hk : ∀ x ∈ g.nodes, x.kids.length ≤ 1099511627776) (n : Int) :
  Calls Tryz.prog 19 #[.agg #[.slice a1 n1 c1, .slice a2 n2 c2], .int .i64 n] w fun e w' => e = .returned (.bool true) ∧ Chg [] w w' := by
 have H := Lib.hid (And.intro hg (And.intro hre (And.intro hs1 (And.intro hs2 hk))))
 clear hg hre hs1 hs2 hk
 go_enter Tryz.func19, Tryz.ntmps19
 go_wp2_with fail
 refine (LentGrammar_any _ a1 n1 c1 a2 n2 c2 g (H.out.1.keep ((Chg.refl [] w).alloc _).kp) H.out.2.2.1 H.out.2.2.2.1 H.out.2.2.2.2).mono ?_
 rintro e w2 ⟨b1, d1, b2, d2, rfl, hl, hc2⟩
 obtain ⟨m1, hm1⟩ : ∃ m1, m1 = g.rules.length := ⟨_, rfl⟩
 obtain ⟨m2, hm2⟩ : ∃ m2, m2 = g.nodes.length := ⟨_, rfl⟩
 rw [← hm1, ← hm2]
 have hca := (Chg.refl [] w2).alloc (.cells #[.slice (some ⟨b1, 0, none⟩) m1 d1, .slice (some ⟨b2, 0, none⟩) m2 d2] 31)
 have hcw := (((Chg.refl [] w).alloc (.cells #[.slice a1 n1 c1, .slice a2 n2 c2] 31)).tr hc2).tr hca
 have hbg := (hc2.tr hca).heap (heap_alloc_same w (.cells #[.slice a1 n1 c1, .slice a2 n2 c2] 31)) (by simp)
 have hbi := heap_alloc_same w2 (.cells #[.slice (some ⟨b1, 0, none⟩) m1 d1, .slice (some ⟨b2, 0, none⟩) m2 d2] 31)
 obtain ⟨w3, e3⟩ : ∃ w3, w3 = w2.alloc (.cells #[.slice (some ⟨b1, 0, none⟩) m1 d1, .slice (some ⟨b2, 0, none⟩) m2 d2] 31) := ⟨_, rfl⟩
 have hl3 : LentG 0 w3 b1 d1 b2 d2 g := by
  rw [e3]
  obtain ⟨q1, ⟨L, q2, q3⟩, q4⟩ := hl.chg0 hca
  exact ⟨row_base q1 (Nat.zero_le _), ⟨L, q2, q3.below (Nat.zero_le _)⟩, q4⟩
 rw [← e3] at hcw hbg hbi
 have H3 := Lib.hid (And.intro hbg (And.intro hbi (And.intro hcw (And.intro hl3 (And.intro hm1 hm2)))))
 have HE := Lib.hid e3
 obtain ⟨A1, hA1⟩ : ∃ A, A = withOf (graphG g) n := ⟨_, rfl⟩
 obtain ⟨A2, hA2⟩ : ∃ A, A = orderI (graphG g) := ⟨_, rfl⟩
 obtain ⟨l1, hl1⟩ : ∃ l1, l1 = A1.length := ⟨_, rfl⟩
 obtain ⟨l2, hl2⟩ : ∃ l2, l2 = A2.length := ⟨_, rfl⟩
 have hgi : GramAt w3 (some ⟨b1, 0, none⟩) m1 d1 (some ⟨b2, 0, none⟩) m2 d2 g := by rw [hm1, hm2]; exact hl3.gram
 have HGI := Lib.hid hgi
 have HR9 : Hid (A1.length ≤ 1000000 ∧ A2.length ≤ 1000000) := Lib.hid (by
  rw [hA1, hA2]
  have := withOf_few (graph_right g) n
  have := order_few (graph_right g)
  omega)
 have HNo : Hid (∀ W, Chg [] w3 W → Calls Tryz.prog 17 #[.agg #[.slice (some ⟨b1, 0, none⟩) m1 d1, .slice (some ⟨b2, 0, none⟩) m2 d2], .int .i64 n] W fun e W' => ∃ a c, e = .returned (.slice a l1 c) ∧ FreshInts W.heap.size W' a c A1 ∧ Chg [] W W') := Lib.hid fun W hW => by
  have := With_any W _ _ _ _ _ _ g (hgi.keep hW.kp) H.out.2.1 n
  rw [hl1, hA1]
  exact this.mono fun e w' ⟨a, c, e1, e2, _, e4⟩ => ⟨a, c, e1, e2, e4⟩
 have HCa : Hid (∀ W, Chg [] w3 W → Calls Tryz.prog 15 #[.agg #[.slice (some ⟨b1, 0, none⟩) m1 d1, .slice (some ⟨b2, 0, none⟩) m2 d2]] W fun e W' => ∃ a c, e = .returned (.slice a l2 c) ∧ FreshInts W.heap.size W' a c A2 ∧ Chg [] W W') := Lib.hid fun W hW => by
  have := Order_any W _ _ _ _ _ _ g (hgi.keep hW.kp) H.out.2.1
  rw [hl2, hA2]
  exact this.mono fun e w' ⟨a, c, e1, e2, _, e4⟩ => ⟨a, c, e1, e2, e4⟩
 have HRN : Hid (∀ W, Chg [] w W → Calls Tryz.prog 51 #[.agg #[.slice a1 n1 c1, .slice a2 n2 c2], .int .i64 n] W fun e w' => ∃ a l c, e = .returned (.slice a l c) ∧ l = A1.length ∧ Ints w' a A1 ∧ Chg [] W w') := Lib.hid fun W hW => by
  rw [hA1]
  exact refWith14_any W _ _ _ _ _ _ g (H.out.1.keep hW.kp) n
 have HRC : Hid (∀ W, Chg [] w W → Calls Tryz.prog 52 #[.agg #[.slice a1 n1 c1, .slice a2 n2 c2]] W fun e w' => ∃ a l c, e = .returned (.slice a l c) ∧ l = A2.length ∧ Ints w' a A2 ∧ Chg [] W w') := Lib.hid fun W hW => by
  rw [hA2]
  exact refOrder14_any W _ _ _ _ _ _ g (H.out.1.keep hW.kp)
 obtain ⟨Sv, hSv⟩ : ∃ S, S = sortOf (graphG g) n := ⟨_, rfl⟩
 obtain ⟨fr, hfr⟩ : ∃ S, S = freeI (graphG g) := ⟨_, rfl⟩
 obtain ⟨AL, hAL⟩ : ∃ S, S = allI (graphG g) := ⟨_, rfl⟩
 obtain ⟨L9, hL9⟩ : ∃ S, S = AL.length := ⟨_, rfl⟩
 have hL64 : L9 ≤ 64 := by
  have h2 := (Cp.right_RG (graph_right g)).few
  rw [Cp.toG_len] at h2
  rw [hL9, hAL, allI_len]
  exact h2
 have HOf : Hid (∀ W, Chg [] w3 W → Calls Tryz.prog 31 #[.agg #[.slice (some ⟨b1, 0, none⟩) m1 d1, .slice (some ⟨b2, 0, none⟩) m2 d2], .int .i64 n] W fun e w' => e = .returned (.int .i64 Sv) ∧ Chg [] W w') := Lib.hid fun W hW => by
  rw [hSv]; exact OfS_any W _ _ _ _ _ _ g (hgi.keep hW.kp) H.out.2.1 n
 have HROf : Hid (∀ W, Chg [] w W → Calls Tryz.prog 47 #[.agg #[.slice a1 n1 c1, .slice a2 n2 c2], .int .i64 n] W fun e w' => e = .returned (.int .i64 Sv) ∧ Chg [] W w') := Lib.hid fun W hW => by
  rw [hSv]; exact refOf14_any W _ _ _ _ _ _ g (H.out.1.keep hW.kp) n
 have HFr : Hid (∀ W, Chg [] w3 W → Calls Tryz.prog 33 #[.agg #[.slice (some ⟨b1, 0, none⟩) m1 d1, .slice (some ⟨b2, 0, none⟩) m2 d2]] W fun e w' => e = .returned (.bool fr) ∧ Chg [] W w') := Lib.hid fun W hW => by
  rw [hfr]; exact Free_any W _ _ _ _ _ _ g (hgi.keep hW.kp) H.out.2.1
 have HRFr : Hid (∀ W, Chg [] w W → Calls Tryz.prog 50 #[.agg #[.slice a1 n1 c1, .slice a2 n2 c2]] W fun e w' => e = .returned (.bool fr) ∧ Chg [] W w') := Lib.hid fun W hW => by
  rw [hfr]; exact refFree14_any W _ _ _ _ _ _ g (H.out.1.keep hW.kp)
 have HAll : Hid (∀ W, Chg [] w3 W → Calls Tryz.prog 32 #[.agg #[.slice (some ⟨b1, 0, none⟩) m1 d1, .slice (some ⟨b2, 0, none⟩) m2 d2]] W fun e w' => ∃ a c, e = .returned (.slice a L9 c) ∧ Ints w' a AL ∧ Chg [] W w') := Lib.hid fun W hW => by
  rw [hL9, hAL]
  exact (All_any W _ _ _ _ _ _ g (hgi.keep hW.kp) H.out.2.1).mono fun e w' ⟨a, c, e1, e2, _, e4⟩ => ⟨a, c, e1, nums_ints e2, e4⟩
 have HRAll : Hid (∀ W, Chg [] w W → Calls Tryz.prog 49 #[.agg #[.slice a1 n1 c1, .slice a2 n2 c2]] W fun e w' => ∃ a c, e = .returned (.slice a L9 c) ∧ Ints w' a AL ∧ Chg [] W w') := Lib.hid fun W hW => by
  rw [hL9, hAL]
  exact (refAll14_any W _ _ _ _ _ _ g (H.out.1.keep hW.kp)).mono fun e w' ⟨a, l, c, e1, e2, e3, e4⟩ => ⟨a, c, by rw [e1, e2], e3, e4⟩
 have HNum : Hid (∀ W a c, Ints W a AL → Calls Tryz.prog 48 #[.slice a L9 c] W fun e w' => ∃ b d, e = .returned (.slice b L9 d) ∧ Ints w' b AL ∧ Chg [] W w') := Lib.hid fun W a c h => numbers_any W a L9 c AL hL9 hL64 h
 have HSame : Hid (∀ W a b c d, Ints W a AL → Ints W b AL → Calls Tryz.prog 37 #[.slice a L9 c, .slice b L9 d] W fun e w' => e = .returned (.bool true) ∧ Chg [] W w') := Lib.hid fun W a b c d h1 h2 => by
  have := sameInts_any W a b L9 c L9 d AL AL hL9 hL9 (by omega) h1 h2
  rwa [decide_eq_true rfl] at this
 have hSS : (Sv != Sv) = false := by simp
 have hFF : (fr != fr) = false := by simp
 clear hSv hfr hAL hL9 hL64
 have HL := Lib.hid (And.intro hl1 hl2)
 clear hl hc2 hm1 hm2 hca hcw hbg hbi e3 hl3 hl1 hl2 hgi hA1 hA2
 go_wp2_with fail
 rw [← HE.out]
 refine wp_region_st2 (by kernel_rfl) (by kernel_rfl) [12, 13, 14, 15, 16, 17, 18, 19, 20, 21, 6, 7, 8, 9] (by kernel_rfl) (fun rI rV rW => match rI with | 0 => rV = .agg #[.slice (some ⟨b1, 0, none⟩) m1 d1, .slice (some ⟨b2, 0, none⟩) m2 d2] | 1 => rV = .int .i64 n | 2 => ∃ r14 c14, rV = .slice r14 l1 c14 ∧ FreshInts w3.heap.size rW r14 c14 (A1) | 3 => rV = .agg #[.slice (some ⟨b1, 0, none⟩) m1 d1, .slice (some ⟨b2, 0, none⟩) m2 d2] | 4 => ∃ r16 c16, rV = .slice r16 l2 c16 ∧ FreshInts w3.heap.size rW r16 c16 (A2) | 5 => rV = .agg #[.slice (some ⟨b1, 0, none⟩) m1 d1, .slice (some ⟨b2, 0, none⟩) m2 d2] | 6 => rV = .int .i64 n | 7 => ∃ r19 c19, rV = .slice r19 l1 c19 ∧ FreshInts w3.heap.size rW r19 c19 (A1) | 8 => rV = .agg #[.slice (some ⟨b1, 0, none⟩) m1 d1, .slice (some ⟨b2, 0, none⟩) m2 d2] | 9 => ∃ r21 c21, rV = .slice r21 l2 c21 ∧ FreshInts w3.heap.size rW r21 c21 (A2) | 10 => ∃ s6 y6, rV = .slice s6 l1 y6 ∧ FreshInts w3.heap.size rW s6 y6 (A1) | 11 => ∃ s7 y7, rV = .slice s7 l2 y7 ∧ FreshInts w3.heap.size rW s7 y7 (A2) | 12 => ∃ s8 y8, rV = .slice s8 l1 y8 ∧ FreshInts w3.heap.size rW s8 y8 (A1) | 13 => ∃ s9 y9, rV = .slice s9 l2 y9 ∧ FreshInts w3.heap.size rW s9 y9 (A2) | _ => True) ?hS2 (fun i v j u => (i ∈ [2, 4, 7, 9] → j ∈ [2, 4, 7, 9] → ∀ x, v.ownBlock = some x → u.ownBlock ≠ some x) ∧ ((i, j) ∈ [(10, 2), (11, 4), (12, 7), (13, 9)] → v = u)) ?hstep2 ?hdone2
 case hS2 =>
  intro rI rV rW rW' hc rP
  match rI, rP with
  | 0, rP => exact rP
  | 1, rP => exact rP
  | 2, rP => exact (by obtain ⟨r14, c14, e9, hp⟩ := rP; exact ⟨r14, c14, e9, hc.row hp (fun _ _ => by simp)⟩)
  | 3, rP => exact rP
  | 4, rP => exact (by obtain ⟨r16, c16, e9, hp⟩ := rP; exact ⟨r16, c16, e9, hc.row hp (fun _ _ => by simp)⟩)
  | 5, rP => exact rP
  | 6, rP => exact rP
  | 7, rP => exact (by obtain ⟨r19, c19, e9, hp⟩ := rP; exact ⟨r19, c19, e9, hc.row hp (fun _ _ => by simp)⟩)
  | 8, rP => exact rP
  | 9, rP => exact (by obtain ⟨r21, c21, e9, hp⟩ := rP; exact ⟨r21, c21, e9, hc.row hp (fun _ _ => by simp)⟩)
  | 10, rP => exact (by obtain ⟨s6, y6, e9, hp⟩ := rP; exact ⟨s6, y6, e9, hc.row hp (fun _ _ => by simp)⟩)
  | 11, rP => exact (by obtain ⟨s7, y7, e9, hp⟩ := rP; exact ⟨s7, y7, e9, hc.row hp (fun _ _ => by simp)⟩)
  | 12, rP => exact (by obtain ⟨s8, y8, e9, hp⟩ := rP; exact ⟨s8, y8, e9, hc.row hp (fun _ _ => by simp)⟩)
  | 13, rP => exact (by obtain ⟨s9, y9, e9, hp⟩ := rP; exact ⟨s9, y9, e9, hc.row hp (fun _ _ => by simp)⟩)
  | _ + 14, _ => trivial
 case hstep2 =>
  intro rI rH us W hC hdep K hK
  have hiN : rI < 14 := rH
  simp only [actU, Act.put, List.setIfInBounds_toArray, List.set_cons_succ, List.set_cons_zero, Nat.reduceAdd] at hK ⊢
  obtain ⟨x0, x1⟩ := cells2 (hC.heap H3.out.2.1 (by simp))
  rcases (show rI = 0 ∨ rI = 1 ∨ rI = 2 ∨ rI = 3 ∨ rI = 4 ∨ rI = 5 ∨ rI = 6 ∨ rI = 7 ∨ rI = 8 ∨ rI = 9 ∨ rI = 10 ∨ rI = 11 ∨ rI = 12 ∨ rI = 13 by omega) with rfl | rfl | rfl | rfl | rfl | rfl | rfl | rfl | rfl | rfl | rfl | rfl | rfl | rfl
  ·simp only [List.getD_cons_succ, List.getD_cons_zero, List.setIfInBounds_toArray, List.set_cons_succ, List.set_cons_zero] at hK ⊢
   refine wpOp_at rfl rfl ?_
   go_simp
   exact hK _ _ _ rfl (Chg.refl _ _) rfl (fun j9 hj9 hne9 hw9 hq9 => ⟨fun hi9 => absurd hi9 (by decide), fun hl9 => by simp at hl9⟩)
  ·simp only [List.getD_cons_succ, List.getD_cons_zero, List.setIfInBounds_toArray, List.set_cons_succ, List.set_cons_zero] at hK ⊢
   refine wpOp_at rfl rfl ?_
   go_simp
   exact hK _ _ _ rfl (Chg.refl _ _) rfl (fun j9 hj9 hne9 hw9 hq9 => ⟨fun hi9 => absurd hi9 (by decide), fun hl9 => by simp at hl9⟩)
  ·have l0 := hdep 0 (by kernel_rfl)
   replace l0 : us 0 = .agg #[.slice (some ⟨b1, 0, none⟩) m1 d1, .slice (some ⟨b2, 0, none⟩) m2 d2] := l0
   have l1 := hdep 1 (by kernel_rfl)
   replace l1 : us 1 = .int .i64 n := l1
   simp only [List.getD_cons_succ, List.getD_cons_zero, List.setIfInBounds_toArray, List.set_cons_succ, List.set_cons_zero, l0, l1] at hK ⊢
   refine wpOp_at rfl rfl ?_
   go_simp
   refine (HNo.out W hC).mono ?_
   rintro e wz ⟨r14, c14, rfl, hf, hz⟩
   exact hK _ _ _ rfl hz ⟨r14, c14, rfl, row_base hf hC.size⟩ (fun j9 hj9 hne9 hw9 hq9 => ⟨fun _ hjT x hx hy => by (simp only [List.mem_cons, List.not_mem_nil, or_false] at hjT; rcases hjT with rfl | rfl | rfl | rfl <;> first | exact absurd rfl hne9 | (obtain ⟨a9, c9, e9, h9⟩ := hq9; rw [e9] at hy; (try simp only [HL.out.1, HL.out.2] at hx); (try simp only [HL.out.1, HL.out.2] at hy); have q1 := (row_beyond hf hx).1; have q2 := (row_beyond h9 hy).2.1; omega)), fun hl9 => by simp at hl9⟩)
  ·simp only [List.getD_cons_succ, List.getD_cons_zero, List.setIfInBounds_toArray, List.set_cons_succ, List.set_cons_zero] at hK ⊢
   refine wpOp_at rfl rfl ?_
   go_simp
   exact hK _ _ _ rfl (Chg.refl _ _) rfl (fun j9 hj9 hne9 hw9 hq9 => ⟨fun hi9 => absurd hi9 (by decide), fun hl9 => by simp at hl9⟩)
  ·have l3 := hdep 3 (by kernel_rfl)
   replace l3 : us 3 = .agg #[.slice (some ⟨b1, 0, none⟩) m1 d1, .slice (some ⟨b2, 0, none⟩) m2 d2] := l3
   simp only [List.getD_cons_succ, List.getD_cons_zero, List.setIfInBounds_toArray, List.set_cons_succ, List.set_cons_zero, l3] at hK ⊢
   refine wpOp_at rfl rfl ?_
   go_simp
   refine (HCa.out W hC).mono ?_
   rintro e wz ⟨r16, c16, rfl, hf, hz⟩
   exact hK _ _ _ rfl hz ⟨r16, c16, rfl, row_base hf hC.size⟩ (fun j9 hj9 hne9 hw9 hq9 => ⟨fun _ hjT x hx hy => by (simp only [List.mem_cons, List.not_mem_nil, or_false] at hjT; rcases hjT with rfl | rfl | rfl | rfl <;> first | exact absurd rfl hne9 | (obtain ⟨a9, c9, e9, h9⟩ := hq9; rw [e9] at hy; (try simp only [HL.out.1, HL.out.2] at hx); (try simp only [HL.out.1, HL.out.2] at hy); have q1 := (row_beyond hf hx).1; have q2 := (row_beyond h9 hy).2.1; omega)), fun hl9 => by simp at hl9⟩)
  ·simp only [List.getD_cons_succ, List.getD_cons_zero, List.setIfInBounds_toArray, List.set_cons_succ, List.set_cons_zero] at hK ⊢
   refine wpOp_at rfl rfl ?_
   go_simp
   exact hK _ _ _ rfl (Chg.refl _ _) rfl (fun j9 hj9 hne9 hw9 hq9 => ⟨fun hi9 => absurd hi9 (by decide), fun hl9 => by simp at hl9⟩)
  ·simp only [List.getD_cons_succ, List.getD_cons_zero, List.setIfInBounds_toArray, List.set_cons_succ, List.set_cons_zero] at hK ⊢
   refine wpOp_at rfl rfl ?_
   go_simp
   exact hK _ _ _ rfl (Chg.refl _ _) rfl (fun j9 hj9 hne9 hw9 hq9 => ⟨fun hi9 => absurd hi9 (by decide), fun hl9 => by simp at hl9⟩)
  ·have l5 := hdep 5 (by kernel_rfl)
   replace l5 : us 5 = .agg #[.slice (some ⟨b1, 0, none⟩) m1 d1, .slice (some ⟨b2, 0, none⟩) m2 d2] := l5
   have l6 := hdep 6 (by kernel_rfl)
   replace l6 : us 6 = .int .i64 n := l6
   simp only [List.getD_cons_succ, List.getD_cons_zero, List.setIfInBounds_toArray, List.set_cons_succ, List.set_cons_zero, l5, l6] at hK ⊢
   refine wpOp_at rfl rfl ?_
   go_simp
   refine (HNo.out W hC).mono ?_
   rintro e wz ⟨r19, c19, rfl, hf, hz⟩
   exact hK _ _ _ rfl hz ⟨r19, c19, rfl, row_base hf hC.size⟩ (fun j9 hj9 hne9 hw9 hq9 => ⟨fun _ hjT x hx hy => by (simp only [List.mem_cons, List.not_mem_nil, or_false] at hjT; rcases hjT with rfl | rfl | rfl | rfl <;> first | exact absurd rfl hne9 | (obtain ⟨a9, c9, e9, h9⟩ := hq9; rw [e9] at hy; (try simp only [HL.out.1, HL.out.2] at hx); (try simp only [HL.out.1, HL.out.2] at hy); have q1 := (row_beyond hf hx).1; have q2 := (row_beyond h9 hy).2.1; omega)), fun hl9 => by simp at hl9⟩)
  ·simp only [List.getD_cons_succ, List.getD_cons_zero, List.setIfInBounds_toArray, List.set_cons_succ, List.set_cons_zero] at hK ⊢
   refine wpOp_at rfl rfl ?_
   go_simp
   exact hK _ _ _ rfl (Chg.refl _ _) rfl (fun j9 hj9 hne9 hw9 hq9 => ⟨fun hi9 => absurd hi9 (by decide), fun hl9 => by simp at hl9⟩)
  ·have l8 := hdep 8 (by kernel_rfl)
   replace l8 : us 8 = .agg #[.slice (some ⟨b1, 0, none⟩) m1 d1, .slice (some ⟨b2, 0, none⟩) m2 d2] := l8
   simp only [List.getD_cons_succ, List.getD_cons_zero, List.setIfInBounds_toArray, List.set_cons_succ, List.set_cons_zero, l8] at hK ⊢
   refine wpOp_at rfl rfl ?_
   go_simp
   refine (HCa.out W hC).mono ?_
   rintro e wz ⟨r21, c21, rfl, hf, hz⟩
   exact hK _ _ _ rfl hz ⟨r21, c21, rfl, row_base hf hC.size⟩ (fun j9 hj9 hne9 hw9 hq9 => ⟨fun _ hjT x hx hy => by (simp only [List.mem_cons, List.not_mem_nil, or_false] at hjT; rcases hjT with rfl | rfl | rfl | rfl <;> first | exact absurd rfl hne9 | (obtain ⟨a9, c9, e9, h9⟩ := hq9; rw [e9] at hy; (try simp only [HL.out.1, HL.out.2] at hx); (try simp only [HL.out.1, HL.out.2] at hy); have q1 := (row_beyond hf hx).1; have q2 := (row_beyond h9 hy).2.1; omega)), fun hl9 => by simp at hl9⟩)
  ·have l2 := hdep 2 (by kernel_rfl)
   obtain ⟨r14, c14, l2, p2⟩ := l2
   simp only [List.getD_cons_succ, List.getD_cons_zero, List.setIfInBounds_toArray, List.set_cons_succ, List.set_cons_zero, l2] at hK ⊢
   refine wpOp_at rfl rfl ?_
   go_simp
   exact hK _ _ _ rfl (Chg.refl _ _) ⟨r14, c14, rfl, p2⟩ (fun j9 hj9 hne9 hw9 hq9 => ⟨fun hi9 => absurd hi9 (by decide), fun hl9 => by simp at hl9; subst hl9; exact l2.symm⟩)
  ·have l4 := hdep 4 (by kernel_rfl)
   obtain ⟨r16, c16, l4, p4⟩ := l4
   simp only [List.getD_cons_succ, List.getD_cons_zero, List.setIfInBounds_toArray, List.set_cons_succ, List.set_cons_zero, l4] at hK ⊢
   refine wpOp_at rfl rfl ?_
   go_simp
   exact hK _ _ _ rfl (Chg.refl _ _) ⟨r16, c16, rfl, p4⟩ (fun j9 hj9 hne9 hw9 hq9 => ⟨fun hi9 => absurd hi9 (by decide), fun hl9 => by simp at hl9; subst hl9; exact l4.symm⟩)
  ·have l7 := hdep 7 (by kernel_rfl)
   obtain ⟨r19, c19, l7, p7⟩ := l7
   simp only [List.getD_cons_succ, List.getD_cons_zero, List.setIfInBounds_toArray, List.set_cons_succ, List.set_cons_zero, l7] at hK ⊢
   refine wpOp_at rfl rfl ?_
   go_simp
   exact hK _ _ _ rfl (Chg.refl _ _) ⟨r19, c19, rfl, p7⟩ (fun j9 hj9 hne9 hw9 hq9 => ⟨fun hi9 => absurd hi9 (by decide), fun hl9 => by simp at hl9; subst hl9; exact l7.symm⟩)
  ·have l9 := hdep 9 (by kernel_rfl)
   obtain ⟨r21, c21, l9, p9⟩ := l9
   simp only [List.getD_cons_succ, List.getD_cons_zero, List.setIfInBounds_toArray, List.set_cons_succ, List.set_cons_zero, l9] at hK ⊢
   refine wpOp_at rfl rfl ?_
   go_simp
   exact hK _ _ _ rfl (Chg.refl _ _) ⟨r21, c21, rfl, p9⟩ (fun j9 hj9 hne9 hw9 hq9 => ⟨fun hi9 => absurd hi9 (by decide), fun hl9 => by simp at hl9; subst hl9; exact l9.symm⟩)
 case hdone2 =>
  intro us W hC hall hpw
  have lk10 : us 10 = us 2 := by
   rcases hpw 10 2 (by decide) (by decide) (by decide) with h | h
   ·exact h.1.2 (by decide)
   ·exact absurd (h.2.symm.trans (show waits _ 10 2 = true by kernel_rfl)) (by decide)
  have lk11 : us 11 = us 4 := by
   rcases hpw 11 4 (by decide) (by decide) (by decide) with h | h
   ·exact h.1.2 (by decide)
   ·exact absurd (h.2.symm.trans (show waits _ 11 4 = true by kernel_rfl)) (by decide)
  have lk12 : us 12 = us 7 := by
   rcases hpw 12 7 (by decide) (by decide) (by decide) with h | h
   ·exact h.1.2 (by decide)
   ·exact absurd (h.2.symm.trans (show waits _ 12 7 = true by kernel_rfl)) (by decide)
  have lk13 : us 13 = us 9 := by
   rcases hpw 13 9 (by decide) (by decide) (by decide) with h | h
   ·exact h.1.2 (by decide)
   ·exact absurd (h.2.symm.trans (show waits _ 13 9 = true by kernel_rfl)) (by decide)
  have qp2_4 : ∀ x, (us 2).ownBlock = some x → (us 4).ownBlock ≠ some x := by
   rcases hpw 2 4 (by decide) (by decide) (by decide) with h | h
   ·exact h.1.1 (by decide) (by decide)
   ·exact fun x hx hy => h.1.1 (by decide) (by decide) x hy hx
  have qp2_7 : ∀ x, (us 2).ownBlock = some x → (us 7).ownBlock ≠ some x := by
   rcases hpw 2 7 (by decide) (by decide) (by decide) with h | h
   ·exact h.1.1 (by decide) (by decide)
   ·exact fun x hx hy => h.1.1 (by decide) (by decide) x hy hx
  have qp2_9 : ∀ x, (us 2).ownBlock = some x → (us 9).ownBlock ≠ some x := by
   rcases hpw 2 9 (by decide) (by decide) (by decide) with h | h
   ·exact h.1.1 (by decide) (by decide)
   ·exact fun x hx hy => h.1.1 (by decide) (by decide) x hy hx
  have qp4_7 : ∀ x, (us 4).ownBlock = some x → (us 7).ownBlock ≠ some x := by
   rcases hpw 4 7 (by decide) (by decide) (by decide) with h | h
   ·exact h.1.1 (by decide) (by decide)
   ·exact fun x hx hy => h.1.1 (by decide) (by decide) x hy hx
  have qp4_9 : ∀ x, (us 4).ownBlock = some x → (us 9).ownBlock ≠ some x := by
   rcases hpw 4 9 (by decide) (by decide) (by decide) with h | h
   ·exact h.1.1 (by decide) (by decide)
   ·exact fun x hx hy => h.1.1 (by decide) (by decide) x hy hx
  have qp7_9 : ∀ x, (us 7).ownBlock = some x → (us 9).ownBlock ≠ some x := by
   rcases hpw 7 9 (by decide) (by decide) (by decide) with h | h
   ·exact h.1.1 (by decide) (by decide)
   ·exact fun x hx hy => h.1.1 (by decide) (by decide) x hy hx
  have l0 := hall 0 (by decide)
  replace l0 : us 0 = .agg #[.slice (some ⟨b1, 0, none⟩) m1 d1, .slice (some ⟨b2, 0, none⟩) m2 d2] := l0
  have l1 := hall 1 (by decide)
  replace l1 : us 1 = .int .i64 n := l1
  have l2 := hall 2 (by decide)
  obtain ⟨r14, c14, l2, p2⟩ := l2
  have l3 := hall 3 (by decide)
  replace l3 : us 3 = .agg #[.slice (some ⟨b1, 0, none⟩) m1 d1, .slice (some ⟨b2, 0, none⟩) m2 d2] := l3
  have l4 := hall 4 (by decide)
  obtain ⟨r16, c16, l4, p4⟩ := l4
  have l5 := hall 5 (by decide)
  replace l5 : us 5 = .agg #[.slice (some ⟨b1, 0, none⟩) m1 d1, .slice (some ⟨b2, 0, none⟩) m2 d2] := l5
  have l6 := hall 6 (by decide)
  replace l6 : us 6 = .int .i64 n := l6
  have l7 := hall 7 (by decide)
  obtain ⟨r19, c19, l7, p7⟩ := l7
  have l8 := hall 8 (by decide)
  replace l8 : us 8 = .agg #[.slice (some ⟨b1, 0, none⟩) m1 d1, .slice (some ⟨b2, 0, none⟩) m2 d2] := l8
  have l9 := hall 9 (by decide)
  obtain ⟨r21, c21, l9, p9⟩ := l9
  have l10 := hall 10 (by decide)
  obtain ⟨s6, y6, l10, p10⟩ := l10
  have l11 := hall 11 (by decide)
  obtain ⟨s7, y7, l11, p11⟩ := l11
  have l12 := hall 12 (by decide)
  obtain ⟨s8, y8, l12, p12⟩ := l12
  have l13 := hall 13 (by decide)
  obtain ⟨s9, y9, l13, p13⟩ := l13
  rw [l10, l2] at lk10
  rw [l11, l4] at lk11
  rw [l12, l7] at lk12
  rw [l13, l9] at lk13
  rw [l2, l4] at qp2_4
  rw [l2, l7] at qp2_7
  rw [l2, l9] at qp2_9
  rw [l4, l7] at qp4_7
  rw [l4, l9] at qp4_9
  rw [l7, l9] at qp7_9
  clear hpw
  simp only [actU, Act.put, List.setIfInBounds_toArray, List.set_cons_succ, List.set_cons_zero, Nat.reduceAdd, l0, l1, l2, l3, l4, l5, l6, l7, l8, l9, l10, l11, l12, l13]
  clear hall l0 l1 l2 l3 l4 l5 l6 l7 l8 l9 l10 l11 l12 l13
  obtain ⟨w4, rfl⟩ : ∃ wz, wz = W := ⟨_, rfl⟩
  have HV4 := Lib.hid (Chg.refl [] w4)
  have HW4 := Lib.hid hC
  have HP := Lib.hid (And.intro p10 (And.intro p11 (And.intro p12 (And.intro p13 (And.intro lk10 (And.intro lk11 (And.intro lk12 lk13)))))))
  have HQ := Lib.hid (And.intro qp2_4 (And.intro qp2_7 (And.intro qp2_9 (And.intro qp4_7 (And.intro qp4_9 qp7_9)))))
  clear p2 p4 p7 p9 p10 p11 p12 p13 lk10 lk11 lk12 lk13 qp2_4 qp2_7 qp2_9 qp4_7 qp4_9 qp7_9 hC
  go_wp2_with fail
  refine wp_region_st (by kernel_rfl) (by kernel_rfl) [22, 23, 24, 25, 26, 27, 28, 29, 30, 31, 32, 33, 34, 35, 36, 37, 38, 39, 40, 41, 42, 43, 44] (by kernel_rfl) (fun rI rV rW => match rI with | 0 => rV = .agg #[.slice (some ⟨b1, 0, none⟩) m1 d1, .slice (some ⟨b2, 0, none⟩) m2 d2] | 1 => rV = .int .i64 n | 2 => rV = .int .i64 Sv | 3 => rV = .agg #[.slice a1 n1 c1, .slice a2 n2 c2] | 4 => rV = .int .i64 n | 5 => rV = .int .i64 Sv | 6 => rV = .bool false | 7 => rV = .bool false | 8 => rV = .agg #[.slice (some ⟨b1, 0, none⟩) m1 d1, .slice (some ⟨b2, 0, none⟩) m2 d2] | 9 => ∃ la9 lc9, rV = .slice la9 L9 lc9 ∧ Ints rW la9 AL | 10 => ∃ nb9 nd9, rV = .slice nb9 L9 nd9 ∧ Ints rW nb9 AL | 11 => rV = .agg #[.slice a1 n1 c1, .slice a2 n2 c2] | 12 => ∃ ra9 rc9, rV = .slice ra9 L9 rc9 ∧ Ints rW ra9 AL | 13 => rV = .bool true | 14 => rV = .bool false | 15 => rV = .bool false | 16 => rV = .bool false | 17 => rV = .agg #[.slice (some ⟨b1, 0, none⟩) m1 d1, .slice (some ⟨b2, 0, none⟩) m2 d2] | 18 => rV = .bool fr | 19 => rV = .agg #[.slice a1 n1 c1, .slice a2 n2 c2] | 20 => rV = .bool fr | 21 => rV = .bool false | 22 => rV = .bool false | _ => True) ?hS4 ?hstep4 ?hdone4
  case hS4 =>
   intro rI rV rW rW' hc rP
   match rI, rP with
   | 0, rP => exact rP
   | 1, rP => exact rP
   | 2, rP => exact rP
   | 3, rP => exact rP
   | 4, rP => exact rP
   | 5, rP => exact rP
   | 6, rP => exact rP
   | 7, rP => exact rP
   | 8, rP => exact rP
   | 9, rP => exact (by obtain ⟨la9, lc9, e9, hp⟩ := rP; exact ⟨la9, lc9, e9, hp.keep hc.kp⟩)
   | 10, rP => exact (by obtain ⟨nb9, nd9, e9, hp⟩ := rP; exact ⟨nb9, nd9, e9, hp.keep hc.kp⟩)
   | 11, rP => exact rP
   | 12, rP => exact (by obtain ⟨ra9, rc9, e9, hp⟩ := rP; exact ⟨ra9, rc9, e9, hp.keep hc.kp⟩)
   | 13, rP => exact rP
   | 14, rP => exact rP
   | 15, rP => exact rP
   | 16, rP => exact rP
   | 17, rP => exact rP
   | 18, rP => exact rP
   | 19, rP => exact rP
   | 20, rP => exact rP
   | 21, rP => exact rP
   | 22, rP => exact rP
   | _ + 23, _ => trivial
  case hstep4 =>
   intro rI rH us W hC hdep K hK
   have hiN : rI < 23 := rH
   simp only [actU, Act.put, List.setIfInBounds_toArray, List.set_cons_succ, List.set_cons_zero, Nat.reduceAdd] at hK ⊢
   obtain ⟨x0, x1⟩ := cells2 ((HW4.out.tr hC).heap H3.out.2.1 (by simp))
   obtain ⟨x2, x3⟩ := cells2 ((HW4.out.tr hC).heap H3.out.1 (by simp))
   have hb9 := lt_of_block ((HW4.out.tr hC).heap H3.out.2.1 (by simp))
   have hb8 := lt_of_block ((HW4.out.tr hC).heap H3.out.1 (by simp))
   rcases (show rI = 0 ∨ rI = 1 ∨ rI = 2 ∨ rI = 3 ∨ rI = 4 ∨ rI = 5 ∨ rI = 6 ∨ rI = 7 ∨ rI = 8 ∨ rI = 9 ∨ rI = 10 ∨ rI = 11 ∨ rI = 12 ∨ rI = 13 ∨ rI = 14 ∨ rI = 15 ∨ rI = 16 ∨ rI = 17 ∨ rI = 18 ∨ rI = 19 ∨ rI = 20 ∨ rI = 21 ∨ rI = 22 by omega) with rfl | rfl | rfl | rfl | rfl | rfl | rfl | rfl | rfl | rfl | rfl | rfl | rfl | rfl | rfl | rfl | rfl | rfl | rfl | rfl | rfl | rfl | rfl
   ·simp only [List.getD_cons_succ, List.getD_cons_zero, List.setIfInBounds_toArray, List.set_cons_succ, List.set_cons_zero] at hK ⊢
    refine wpOp_at rfl rfl ?_
    go_simp
    exact hK _ _ _ rfl (Chg.refl _ _) rfl
   ·simp only [List.getD_cons_succ, List.getD_cons_zero, List.setIfInBounds_toArray, List.set_cons_succ, List.set_cons_zero] at hK ⊢
    refine wpOp_at rfl rfl ?_
    go_simp
    exact hK _ _ _ rfl (Chg.refl _ _) rfl
   ·have l0 := hdep 0 (by kernel_rfl)
    replace l0 : us 0 = .agg #[.slice (some ⟨b1, 0, none⟩) m1 d1, .slice (some ⟨b2, 0, none⟩) m2 d2] := l0
    have l1 := hdep 1 (by kernel_rfl)
    replace l1 : us 1 = .int .i64 n := l1
    simp only [List.getD_cons_succ, List.getD_cons_zero, List.setIfInBounds_toArray, List.set_cons_succ, List.set_cons_zero, l0, l1] at hK ⊢
    refine wpOp_at rfl rfl ?_
    go_simp
    refine (HOf.out W (HW4.out.tr hC)).mono ?_
    rintro e wz ⟨rfl, hz⟩
    exact hK _ _ _ rfl hz rfl
   ·simp only [List.getD_cons_succ, List.getD_cons_zero, List.setIfInBounds_toArray, List.set_cons_succ, List.set_cons_zero] at hK ⊢
    refine wpOp_at rfl rfl ?_
    go_simp
    exact hK _ _ _ rfl (Chg.refl _ _) rfl
   ·simp only [List.getD_cons_succ, List.getD_cons_zero, List.setIfInBounds_toArray, List.set_cons_succ, List.set_cons_zero] at hK ⊢
    refine wpOp_at rfl rfl ?_
    go_simp
    exact hK _ _ _ rfl (Chg.refl _ _) rfl
   ·have l3 := hdep 3 (by kernel_rfl)
    replace l3 : us 3 = .agg #[.slice a1 n1 c1, .slice a2 n2 c2] := l3
    have l4 := hdep 4 (by kernel_rfl)
    replace l4 : us 4 = .int .i64 n := l4
    simp only [List.getD_cons_succ, List.getD_cons_zero, List.setIfInBounds_toArray, List.set_cons_succ, List.set_cons_zero, l3, l4] at hK ⊢
    refine wpOp_at rfl rfl ?_
    go_simp
    refine (HROf.out W (H3.out.2.2.1.tr (HW4.out.tr hC))).mono ?_
    rintro e wz ⟨rfl, hz⟩
    exact hK _ _ _ rfl hz rfl
   ·have l2 := hdep 2 (by kernel_rfl)
    replace l2 : us 2 = .int .i64 Sv := l2
    have l5 := hdep 5 (by kernel_rfl)
    replace l5 : us 5 = .int .i64 Sv := l5
    simp only [List.getD_cons_succ, List.getD_cons_zero, List.setIfInBounds_toArray, List.set_cons_succ, List.set_cons_zero, l2, l5] at hK ⊢
    refine wpOp_at rfl rfl ?_
    go_simp
    exact hK _ _ _ rfl (Chg.refl _ _) rfl
   ·have l6 := hdep 6 (by kernel_rfl)
    replace l6 : us 6 = .bool false := l6
    simp only [List.getD_cons_succ, List.getD_cons_zero, List.setIfInBounds_toArray, List.set_cons_succ, List.set_cons_zero, l6] at hK ⊢
    refine wpOp_at rfl rfl ?_
    go_simp
    exact hK _ _ _ rfl (Chg.refl _ _) rfl
   ·have l7 := hdep 7 (by kernel_rfl)
    replace l7 : us 7 = .bool false := l7
    simp only [List.getD_cons_succ, List.getD_cons_zero, List.setIfInBounds_toArray, List.set_cons_succ, List.set_cons_zero, l7] at hK ⊢
    refine wpOp_want rfl (by rfl) ?_
    go_simp
    exact hK _ _ _ rfl (Chg.refl _ _) rfl
   ·have l7 := hdep 7 (by kernel_rfl)
    replace l7 : us 7 = .bool false := l7
    have l8 := hdep 8 (by kernel_rfl)
    replace l8 : us 8 = .agg #[.slice (some ⟨b1, 0, none⟩) m1 d1, .slice (some ⟨b2, 0, none⟩) m2 d2] := l8
    simp only [List.getD_cons_succ, List.getD_cons_zero, List.setIfInBounds_toArray, List.set_cons_succ, List.set_cons_zero, l7, l8] at hK ⊢
    refine wpOp_want rfl (by rfl) ?_
    go_simp
    refine (HAll.out W (HW4.out.tr hC)).mono ?_
    rintro e wz ⟨la9, lc9, rfl, hp9, hz⟩
    exact hK _ _ _ rfl hz ⟨la9, lc9, rfl, hp9⟩
   ·have l7 := hdep 7 (by kernel_rfl)
    replace l7 : us 7 = .bool false := l7
    have l9 := hdep 9 (by kernel_rfl)
    obtain ⟨la9, lc9, l9, p9⟩ := l9
    simp only [List.getD_cons_succ, List.getD_cons_zero, List.setIfInBounds_toArray, List.set_cons_succ, List.set_cons_zero, l7, l9] at hK ⊢
    refine wpOp_want rfl (by rfl) ?_
    go_simp
    refine (HNum.out W la9 lc9 p9).mono ?_
    rintro e wz ⟨nb9, nd9, rfl, hp9, hz⟩
    exact hK _ _ _ rfl hz ⟨nb9, nd9, rfl, hp9⟩
   ·have l7 := hdep 7 (by kernel_rfl)
    replace l7 : us 7 = .bool false := l7
    simp only [List.getD_cons_succ, List.getD_cons_zero, List.setIfInBounds_toArray, List.set_cons_succ, List.set_cons_zero, l7] at hK ⊢
    refine wpOp_want rfl (by rfl) ?_
    go_simp
    exact hK _ _ _ rfl (Chg.refl _ _) rfl
   ·have l7 := hdep 7 (by kernel_rfl)
    replace l7 : us 7 = .bool false := l7
    have l11 := hdep 11 (by kernel_rfl)
    replace l11 : us 11 = .agg #[.slice a1 n1 c1, .slice a2 n2 c2] := l11
    simp only [List.getD_cons_succ, List.getD_cons_zero, List.setIfInBounds_toArray, List.set_cons_succ, List.set_cons_zero, l7, l11] at hK ⊢
    refine wpOp_want rfl (by rfl) ?_
    go_simp
    refine (HRAll.out W (H3.out.2.2.1.tr (HW4.out.tr hC))).mono ?_
    rintro e wz ⟨ra9, rc9, rfl, hp9, hz⟩
    exact hK _ _ _ rfl hz ⟨ra9, rc9, rfl, hp9⟩
   ·have l7 := hdep 7 (by kernel_rfl)
    replace l7 : us 7 = .bool false := l7
    have l10 := hdep 10 (by kernel_rfl)
    obtain ⟨nb9, nd9, l10, p10⟩ := l10
    have l12 := hdep 12 (by kernel_rfl)
    obtain ⟨ra9, rc9, l12, p12⟩ := l12
    simp only [List.getD_cons_succ, List.getD_cons_zero, List.setIfInBounds_toArray, List.set_cons_succ, List.set_cons_zero, l7, l10, l12] at hK ⊢
    refine wpOp_want rfl (by rfl) ?_
    go_simp
    refine (HSame.out W nb9 ra9 nd9 rc9 p10 p12).mono ?_
    rintro e wz ⟨rfl, hz⟩
    exact hK _ _ _ rfl hz rfl
   ·have l7 := hdep 7 (by kernel_rfl)
    replace l7 : us 7 = .bool false := l7
    have l13 := hdep 13 (by kernel_rfl)
    replace l13 : us 13 = .bool true := l13
    simp only [List.getD_cons_succ, List.getD_cons_zero, List.setIfInBounds_toArray, List.set_cons_succ, List.set_cons_zero, l7, l13] at hK ⊢
    refine wpOp_want rfl (by rfl) ?_
    go_simp
    exact hK _ _ _ rfl (Chg.refl _ _) rfl
   ·have l7 := hdep 7 (by kernel_rfl)
    replace l7 : us 7 = .bool false := l7
    have l14 := hdep 14 (by kernel_rfl)
    replace l14 : us 14 = .bool false := l14
    simp only [List.getD_cons_succ, List.getD_cons_zero, List.setIfInBounds_toArray, List.set_cons_succ, List.set_cons_zero, l7, l14] at hK ⊢
    refine wpOp_at rfl rfl ?_
    go_simp
    exact hK _ _ _ rfl (Chg.refl _ _) rfl
   ·have l15 := hdep 15 (by kernel_rfl)
    replace l15 : us 15 = .bool false := l15
    simp only [List.getD_cons_succ, List.getD_cons_zero, List.setIfInBounds_toArray, List.set_cons_succ, List.set_cons_zero, l15] at hK ⊢
    refine wpOp_at rfl rfl ?_
    go_simp
    exact hK _ _ _ rfl (Chg.refl _ _) rfl
   ·have l16 := hdep 16 (by kernel_rfl)
    replace l16 : us 16 = .bool false := l16
    simp only [List.getD_cons_succ, List.getD_cons_zero, List.setIfInBounds_toArray, List.set_cons_succ, List.set_cons_zero, l16] at hK ⊢
    refine wpOp_want rfl (by rfl) ?_
    go_simp
    exact hK _ _ _ rfl (Chg.refl _ _) rfl
   ·have l16 := hdep 16 (by kernel_rfl)
    replace l16 : us 16 = .bool false := l16
    have l17 := hdep 17 (by kernel_rfl)
    replace l17 : us 17 = .agg #[.slice (some ⟨b1, 0, none⟩) m1 d1, .slice (some ⟨b2, 0, none⟩) m2 d2] := l17
    simp only [List.getD_cons_succ, List.getD_cons_zero, List.setIfInBounds_toArray, List.set_cons_succ, List.set_cons_zero, l16, l17] at hK ⊢
    refine wpOp_want rfl (by rfl) ?_
    go_simp
    refine (HFr.out W (HW4.out.tr hC)).mono ?_
    rintro e wz ⟨rfl, hz⟩
    exact hK _ _ _ rfl hz rfl
   ·have l16 := hdep 16 (by kernel_rfl)
    replace l16 : us 16 = .bool false := l16
    simp only [List.getD_cons_succ, List.getD_cons_zero, List.setIfInBounds_toArray, List.set_cons_succ, List.set_cons_zero, l16] at hK ⊢
    refine wpOp_want rfl (by rfl) ?_
    go_simp
    exact hK _ _ _ rfl (Chg.refl _ _) rfl
   ·have l16 := hdep 16 (by kernel_rfl)
    replace l16 : us 16 = .bool false := l16
    have l19 := hdep 19 (by kernel_rfl)
    replace l19 : us 19 = .agg #[.slice a1 n1 c1, .slice a2 n2 c2] := l19
    simp only [List.getD_cons_succ, List.getD_cons_zero, List.setIfInBounds_toArray, List.set_cons_succ, List.set_cons_zero, l16, l19] at hK ⊢
    refine wpOp_want rfl (by rfl) ?_
    go_simp
    refine (HRFr.out W (H3.out.2.2.1.tr (HW4.out.tr hC))).mono ?_
    rintro e wz ⟨rfl, hz⟩
    exact hK _ _ _ rfl hz rfl
   ·have l16 := hdep 16 (by kernel_rfl)
    replace l16 : us 16 = .bool false := l16
    have l18 := hdep 18 (by kernel_rfl)
    replace l18 : us 18 = .bool fr := l18
    have l20 := hdep 20 (by kernel_rfl)
    replace l20 : us 20 = .bool fr := l20
    simp only [List.getD_cons_succ, List.getD_cons_zero, List.setIfInBounds_toArray, List.set_cons_succ, List.set_cons_zero, l16, l18, l20] at hK ⊢
    refine wpOp_want rfl (by rfl) ?_
    go_simp
    exact hK _ _ _ rfl (Chg.refl _ _) rfl
   ·have l16 := hdep 16 (by kernel_rfl)
    replace l16 : us 16 = .bool false := l16
    have l21 := hdep 21 (by kernel_rfl)
    replace l21 : us 21 = .bool false := l21
    simp only [List.getD_cons_succ, List.getD_cons_zero, List.setIfInBounds_toArray, List.set_cons_succ, List.set_cons_zero, l16, l21] at hK ⊢
    refine wpOp_at rfl rfl ?_
    go_simp
    exact hK _ _ _ rfl (Chg.refl _ _) rfl
  case hdone4 =>
   intro us W hC hall
   have l0 := hall 0 (by decide)
   replace l0 : us 0 = .agg #[.slice (some ⟨b1, 0, none⟩) m1 d1, .slice (some ⟨b2, 0, none⟩) m2 d2] := l0
   have l1 := hall 1 (by decide)
   replace l1 : us 1 = .int .i64 n := l1
   have l2 := hall 2 (by decide)
   replace l2 : us 2 = .int .i64 Sv := l2
   have l3 := hall 3 (by decide)
   replace l3 : us 3 = .agg #[.slice a1 n1 c1, .slice a2 n2 c2] := l3
   have l4 := hall 4 (by decide)
   replace l4 : us 4 = .int .i64 n := l4
   have l5 := hall 5 (by decide)
   replace l5 : us 5 = .int .i64 Sv := l5
   have l6 := hall 6 (by decide)
   replace l6 : us 6 = .bool false := l6
   have l7 := hall 7 (by decide)
   replace l7 : us 7 = .bool false := l7
   have l8 := hall 8 (by decide)
   replace l8 : us 8 = .agg #[.slice (some ⟨b1, 0, none⟩) m1 d1, .slice (some ⟨b2, 0, none⟩) m2 d2] := l8
   have l9 := hall 9 (by decide)
   obtain ⟨la9, lc9, l9, p9⟩ := l9
   have l10 := hall 10 (by decide)
   obtain ⟨nb9, nd9, l10, p10⟩ := l10
   have l11 := hall 11 (by decide)
   replace l11 : us 11 = .agg #[.slice a1 n1 c1, .slice a2 n2 c2] := l11
   have l12 := hall 12 (by decide)
   obtain ⟨ra9, rc9, l12, p12⟩ := l12
   have l13 := hall 13 (by decide)
   replace l13 : us 13 = .bool true := l13
   have l14 := hall 14 (by decide)
   replace l14 : us 14 = .bool false := l14
   have l15 := hall 15 (by decide)
   replace l15 : us 15 = .bool false := l15
   have l16 := hall 16 (by decide)
   replace l16 : us 16 = .bool false := l16
   have l17 := hall 17 (by decide)
   replace l17 : us 17 = .agg #[.slice (some ⟨b1, 0, none⟩) m1 d1, .slice (some ⟨b2, 0, none⟩) m2 d2] := l17
   have l18 := hall 18 (by decide)
   replace l18 : us 18 = .bool fr := l18
   have l19 := hall 19 (by decide)
   replace l19 : us 19 = .agg #[.slice a1 n1 c1, .slice a2 n2 c2] := l19
   have l20 := hall 20 (by decide)
   replace l20 : us 20 = .bool fr := l20
   have l21 := hall 21 (by decide)
   replace l21 : us 21 = .bool false := l21
   have l22 := hall 22 (by decide)
   replace l22 : us 22 = .bool false := l22
   simp only [actU, Act.put, List.setIfInBounds_toArray, List.set_cons_succ, List.set_cons_zero, Nat.reduceAdd, l0, l1, l2, l3, l4, l5, l6, l7, l8, l9, l10, l11, l12, l13, l14, l15, l16, l17, l18, l19, l20, l21, l22]
   clear hall l0 l1 l2 l3 l4 l5 l6 l7 l8 l9 l10 l11 l12 l13 l14 l15 l16 l17 l18 l19 l20 l21 l22
   obtain ⟨w5, rfl⟩ : ∃ wz, wz = W := ⟨_, rfl⟩
   have HV := Lib.hid hC
   have HW := Lib.hid (HW4.out.tr hC)
   clear p9 p10 p12 hC
   obtain ⟨x0, x1⟩ := cells2 (HW.out.heap H3.out.1 (by simp))
   go_wp2_with fail
   refine (HRN.out w5 (H3.out.2.2.1.tr HW.out)).mono ?_
   rintro e w6 ⟨u1, q1, v1, rfl, eq1, hf1, hz1⟩
   have F1 := Lib.hid (And.intro hf1 (And.intro hz1 eq1))
   clear hf1 hz1 eq1 x0 x1
   go_wp2_with fail
   have hp := sameInts_any w6 s6 u1 l1 y6 q1 v1 A1 A1 HL.out.1 F1.out.2.2 (by have := HR9.out.1; have := HL.out.1; omega) ((ownInts_read HP.out.1.own).1.keep (HV.out.tr F1.out.2.1).kp) F1.out.1
   rw [decide_eq_true rfl] at hp
   refine hp.mono ?_
   rintro e w7 ⟨rfl, hz2⟩
   have F2 := Lib.hid (F1.out.2.1.tr hz2)
   clear hz2 hp F1
   obtain ⟨x0, x1⟩ := cells2 ((HW.out.tr F2.out).heap H3.out.1 (by simp))
   go_wp2_with fail
   refine (HRC.out w7 (H3.out.2.2.1.tr (HW.out.tr F2.out))).mono ?_
   rintro e w8 ⟨u2, q2, v2, rfl, eq2, hf3, hz3⟩
   have F3 := Lib.hid (And.intro hf3 (And.intro (F2.out.tr hz3) eq2))
   clear hf3 hz3 eq2 x0 x1 F2
   go_wp2_with fail
   have hp := sameInts_any w8 s7 u2 l2 y7 q2 v2 A2 A2 HL.out.2 F3.out.2.2 (by have := HR9.out.2; have := HL.out.2; omega) ((ownInts_read HP.out.2.1.own).1.keep (HV.out.tr F3.out.2.1).kp) F3.out.1
   rw [decide_eq_true rfl] at hp
   refine hp.mono ?_
   rintro e w9 ⟨rfl, hz4⟩
   have F4 := Lib.hid (F3.out.2.1.tr hz4)
   clear hz4 hp F3
   obtain ⟨x0, x1⟩ := cells2 ((HW.out.tr F4.out).heap H3.out.1 (by simp))
   obtain ⟨x2, x3⟩ := cells2 ((HW.out.tr F4.out).heap H3.out.2.1 (by simp))
   go_wp2_with fail
   refine (KeptGrammar_any w9 b1 d1 b2 d2 a1 n1 c1 a2 n2 c2 g m1 m2 H3.out.2.2.2.2.1 H3.out.2.2.2.2.2 (H3.out.2.2.2.1.chg0 (HW.out.tr F4.out)) (H.out.1.keep (H3.out.2.2.1.tr (HW.out.tr F4.out)).kp) H.out.2.2.1 H.out.2.2.2.1 H.out.2.2.2.2).mono ?_
   rintro e wa ⟨rfl, hz5⟩
   have F5 := Lib.hid (F4.out.tr hz5)
   clear hz5 x0 x1 x2 x3 F4
   go_wp2_with fail
   obtain ⟨wb, hwb⟩ : ∃ z, z = wa.alloc (.cells #[.slice s6 l1 y6, .slice s7 l2 y7, .slice s8 l1 y8, .slice s9 l2 y9] 34) := ⟨_, rfl⟩
   have hcb : Chg [] w4 wb := by rw [hwb]; exact (HV.out.tr F5.out).alloc _
   have hc3 : Chg [] w3 wb := by rw [hwb]; exact (HW.out.tr F5.out).alloc _
   have hbb : wb.heap[wa.heap.size]? = some (.cells #[.slice s6 l1 y6, .slice s7 l2 y7, .slice s8 l1 y8, .slice s9 l2 y9] 34) := by rw [hwb]; exact heap_alloc_same _ _
   rw [← hwb]
   have HB := Lib.hid (And.intro hcb (And.intro hc3 hbb))
   have HWB := Lib.hid hwb
   clear hcb hc3 hbb hwb
   have r0 : ∃ xs, wb.ownsRow w3.heap.size 3 1 (.slice s6 l1 y6) l1 xs := by
    rw [HL.out.1]
    exact ⟨_, HB.out.1.row HP.out.1 (by simp)⟩
   have r1 : ∃ xs, wb.ownsRow w3.heap.size 3 1 (.slice s7 l2 y7) l2 xs := by
    rw [HL.out.2]
    exact ⟨_, HB.out.1.row HP.out.2.1 (by simp)⟩
   have r2 : ∃ xs, wb.ownsRow w3.heap.size 3 1 (.slice s8 l1 y8) l1 xs := by
    rw [HL.out.1]
    exact ⟨_, HB.out.1.row HP.out.2.2.1 (by simp)⟩
   have r3 : ∃ xs, wb.ownsRow w3.heap.size 3 1 (.slice s9 l2 y9) l2 xs := by
    rw [HL.out.2]
    exact ⟨_, HB.out.1.row HP.out.2.2.2.1 (by simp)⟩
   have e0 := HP.out.2.2.2.2.1
   have e1 := HP.out.2.2.2.2.2.1
   have e2 := HP.out.2.2.2.2.2.2.1
   have e3 := HP.out.2.2.2.2.2.2.2
   have q := HQ.out
   rw [← e0, ← e1, ← e2, ← e3] at q
   obtain ⟨q01, q02, q03, q12, q13, q23⟩ := q
   clear e0 e1 e2 e3
   obtain ⟨R, hR⟩ : ∃ R : Nat → IR, R = fun j => if j = 0 then ⟨s6, l1, y6⟩ else if j = 1 then ⟨s7, l2, y7⟩ else if j = 2 then ⟨s8, l1, y8⟩ else ⟨s9, l2, y9⟩ := ⟨_, rfl⟩
   have hR0 : R 0 = ⟨s6, l1, y6⟩ := by rw [hR]; rfl
   have hR1 : R 1 = ⟨s7, l2, y7⟩ := by rw [hR]; rfl
   have hR2 : R 2 = ⟨s8, l1, y8⟩ := by rw [hR]; rfl
   have hR3 : R 3 = ⟨s9, l2, y9⟩ := by rw [hR]; rfl
   clear hR
   have hrow : ∀ j, j < 4 → ∃ xs, wb.ownsRow w3.heap.size 3 1 (R j).v (R j).n xs := fun j hj => by
    rcases (show j = 0 ∨ j = 1 ∨ j = 2 ∨ j = 3 by omega) with rfl | rfl | rfl | rfl
    ·rw [hR0]; exact r0
    ·rw [hR1]; exact r1
    ·rw [hR2]; exact r2
    ·rw [hR3]; exact r3
   have hapt : ∀ i j, i < 4 → j < 4 → i < j → ∀ x, (R i).blk = some x → (R j).blk ≠ some x := fun i j hi hj hij => by
    rcases (show (i = 0 ∧ j = 1) ∨ (i = 0 ∧ j = 2) ∨ (i = 0 ∧ j = 3) ∨ (i = 1 ∧ j = 2) ∨ (i = 1 ∧ j = 3) ∨ (i = 2 ∧ j = 3) by omega) with ⟨rfl, rfl⟩ | ⟨rfl, rfl⟩ | ⟨rfl, rfl⟩ | ⟨rfl, rfl⟩ | ⟨rfl, rfl⟩ | ⟨rfl, rfl⟩
    ·rw [hR0, hR1]; exact q01
    ·rw [hR0, hR2]; exact q02
    ·rw [hR0, hR3]; exact q03
    ·rw [hR1, hR2]; exact q12
    ·rw [hR1, hR3]; exact q13
    ·rw [hR2, hR3]; exact q23
   obtain ⟨S, hS⟩ : ∃ S, S = (List.range 4).filterMap fun j => (R j).blk := ⟨_, rfl⟩
   have hSm : ∀ x ∈ S, w3.heap.size ≤ x ∧ x < wb.heap.size ∧ NotRow wb 34 x := fun x hx => by
    rw [hS] at hx
    obtain ⟨j, hj, hjx⟩ := List.mem_filterMap.1 hx
    obtain ⟨xs, hxs⟩ := hrow j (List.mem_range.1 hj)
    obtain ⟨z1, z2, cur, z3⟩ := row_beyond hxs hjx
    exact ⟨z1, z2, NotRow.of_cells z3 (by decide)⟩
   have hA : Apart 4 wb S R := ⟨fun j hj => by
     obtain ⟨xs, hxs⟩ := hrow j hj
     exact ⟨xs, row_base hxs (Nat.zero_le _), fun i hi => absurd hi (by omega)⟩, fun i j hi hj hij x hx => by
     rcases Nat.lt_or_ge i j with h | h
     ·exact hapt i j hi hj h x hx
     ·exact fun hy => hapt j i hj hi (by omega) x hy hx, fun j hj x hx => by
     rw [hS]; exact List.mem_filterMap.2 ⟨j, List.mem_range.2 hj, hx⟩, fun x hx => (hSm x hx).2.2⟩
   have hlen : ∀ j, j < 4 → (R j).n ≤ 1000000000 := fun j hj => by
    have := HR9.out.1
    have := HR9.out.2
    have := HL.out.1
    have := HL.out.2
    rcases (show j = 0 ∨ j = 1 ∨ j = 2 ∨ j = 3 by omega) with rfl | rfl | rfl | rfl
    ·rw [hR0]; simp only; omega
    ·rw [hR1]; simp only; omega
    ·rw [hR2]; simp only; omega
    ·rw [hR3]; simp only; omega
   have hcl : ∀ j, j < 4 → ∃ b o, (some ⟨wa.heap.size, 0, none⟩ : Option Addr) = some ⟨b, o, none⟩ ∧ wb.cell? ⟨b, o + j, none⟩ = some (R j).v := fun j hj => by
    refine ⟨wa.heap.size, 0, rfl, ?_⟩
    rw [Nat.zero_add]
    rcases (show j = 0 ∨ j = 1 ∨ j = 2 ∨ j = 3 by omega) with rfl | rfl | rfl | rfl
    ·rw [hR0]; exact cell_of_cells HB.out.2.2 0
    ·rw [hR1]; exact cell_of_cells HB.out.2.2 1
    ·rw [hR2]; exact cell_of_cells HB.out.2.2 2
    ·rw [hR3]; exact cell_of_cells HB.out.2.2 3
   have hp := ApartInts_any wb (some ⟨wa.heap.size, 0, none⟩) 4 4 S R (by omega) hlen hcl (by omega) (by simp [maxLen]) hA (fun x hx => (hSm x hx).2.1)
   have hSb : ∀ x ∈ S, w3.heap.size ≤ x := fun x hx => (hSm x hx).1
   clear hA hSm hS hlen hcl hapt hrow hR0 hR1 hR2 hR3 q01 q02 q03 q12 q13 q23 r0 r1 r2 r3
   refine hp.mono ?_
   rintro e wc ⟨rfl, hz6⟩
   have F6 : Hid (Chg [] w3 wc) := Lib.hid (HB.out.2.1.trans hz6 fun j hj => .inr (hSb j hj))
   clear hz6 hp hSb
   obtain ⟨x0, x1⟩ := cells2 (F6.out.heap H3.out.1 (by simp))
   obtain ⟨x2, x3⟩ := cells2 (F6.out.heap H3.out.2.1 (by simp))
   go_wp2_with fail
   refine (KeptGrammar_any wc b1 d1 b2 d2 a1 n1 c1 a2 n2 c2 g m1 m2 H3.out.2.2.2.2.1 H3.out.2.2.2.2.2 (H3.out.2.2.2.1.chg0 F6.out) (H.out.1.keep (H3.out.2.2.1.tr F6.out).kp) H.out.2.2.1 H.out.2.2.2.1 H.out.2.2.2.2).mono ?_
   rintro e wd ⟨rfl, hz7⟩
   have F7 := Lib.hid (H3.out.2.2.1.tr (F6.out.tr hz7))
   clear hz7 x0 x1 x2 x3
   go_wp2_with fail
   go_ret
   exact ⟨rfl, F7.out⟩
end Go.Proofs.YtlklmpjakeedcaaGreatDoor

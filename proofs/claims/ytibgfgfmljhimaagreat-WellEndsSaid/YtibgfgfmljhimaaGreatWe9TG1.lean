/-
  WellTells: what is told of a grammar and a node is what the document tells.
  Conditions: the grammar reads as data, within the reach, and is small.
-/
import Derived.Test.YtibgfgfmljhimaaGreatWe9TG0
import Derived.Test.YtibgfgfmljhimaaGreatWe9Ln5
import Derived.Test.YtibgfgfmljhimaaGreatWe9WeF
import Derived.Test.YtibgfgfmljhimaaGreatWe9Bp1
import Derived.Test.YtibgfgfmljhimaaGreatWe9GAny2
set_option linter.unusedVariables false
set_option linter.unusedSimpArgs false
set_option linter.unnecessarySimpa false
namespace Go.Proofs.YtibgfgfmljhimaaGreat
open Go.RowKit Go.MapKept Go.Shelf

def OwnM (B : Nat) (W : World) (x1 : Option Addr) (d1 : Nat) (x2 : Option Addr) (d2 : Nat) (g : Gr) : Prop := ∃ L : List Cp, L.map (·.1) = g.nodes ∧ OwnG B W x1 d1 x2 d2 L g.rules
theorem OwnM.chg0 {B : Nat} {W W' : World} {x1 : Option Addr} {d1 : Nat} {x2 : Option Addr} {d2 : Nat} {g : Gr} (h : OwnM B W x1 d1 x2 d2 g) (hc : Chg [] W W') : OwnM B W' x1 d1 x2 d2 g := by
  obtain ⟨L, h1, h2⟩ := h
  exact ⟨L, h1, h2.chg0 hc⟩
theorem OwnM.under {B T : Nat} {W W' : World} {S : List Nat} {x1 : Option Addr} {d1 : Nat} {x2 : Option Addr} {d2 : Nat} {g : Gr} (h : OwnM B W x1 d1 x2 d2 g) (hc : Chg S W W') (hS : ∀ x ∈ S, x < T) (hT : T ≤ B) : OwnM B W' x1 d1 x2 d2 g := by
  obtain ⟨L, h1, h2⟩ := h
  have key : ∀ {e size n : Nat} {v : Value} {xs : List Value}, W.ownsRow B e size v n xs → W'.ownsRow B e size v n xs := fun h1 => hc.row h1 (fun k hk hm => by have := (row_beyond h1 hk).1; have := hS k hm; omega)
  exact ⟨L, h1, key h2.rules, key h2.nodes, fun p hp => key (h2.kids p hp), h2.apart⟩
theorem OwnM.gram {B : Nat} {W : World} {x1 : Option Addr} {d1 : Nat} {x2 : Option Addr} {d2 : Nat} {g : Gr} (h : OwnM B W x1 d1 x2 d2 g) (wf : g.Wf) : GramAt W x1 g.rules.length d1 x2 g.nodes.length d2 g := by
  obtain ⟨L, h1, h2⟩ := h
  have e : (⟨g.rules, L.map (·.1)⟩ : Gr) = g := by rw [h1]
  have := h2.gram (by rw [e]; exact wf)
  rw [e] at this
  have hl : L.length = g.nodes.length := by rw [← h1, List.length_map]
  rw [hl] at this
  exact this
theorem mendU_wf {g : Gr} (h : g.Wf) : (mendU g).Wf := by
  unfold mendU
  split
  · exact mendG_wf h
  · exact ⟨(fun x hx => by cases hx), (fun x hx => by cases hx), (fun x hx => by cases hx)⟩

set_option maxRecDepth 100000 in
set_option maxHeartbeats 64000000 in
theorem tells15_any (w : World) (a1 : Option Addr) (n1 c1 : Nat) (a2 : Option Addr) (n2 c2 : Nat) (g : Gr) (hg : GramAt w a1 n1 c1 a2 n2 c2 g) (hre : Reach g) (hs1 : n1 ≤ 300) (hs2 : n2 ≤ 300) (hk : ∀ x ∈ g.nodes, x.kids.length ≤ 300) (n : Int) :
    Calls Tryz.prog 32 #[.agg #[.slice a1 n1 c1, .slice a2 n2 c2], .int .i64 n] w fun e w' => e = .returned (.bool true) ∧ Chg [] w w' := by
  have H := Lib.hid (And.intro hg (And.intro hre (And.intro hs1 (And.intro hs2 hk))))
  clear hg hre hs1 hs2 hk
  go_enter Tryz.func32, Tryz.ntmps32
  go_wp2_with fail
  refine (LentGrammar_any _ a1 n1 c1 a2 n2 c2 g (H.out.1.keep ((Chg.refl [] w).alloc _).kp) (by have := H.out.2.2.1; omega) (by have := H.out.2.2.2.1; omega) (fun x hx => by have := H.out.2.2.2.2 x hx; omega)).mono ?_
  rintro e w2 ⟨b1, d1, b2, d2, rfl, hl, hc2⟩
  obtain ⟨m1, hm1⟩ : ∃ m1, m1 = g.rules.length := ⟨_, rfl⟩
  obtain ⟨m2, hm2⟩ : ∃ m2, m2 = g.nodes.length := ⟨_, rfl⟩
  rw [← hm1, ← hm2]
  have hca := (Chg.refl [] w2).alloc (.cells #[.slice (some ⟨b1, 0, none⟩) m1 d1, .slice (some ⟨b2, 0, none⟩) m2 d2] 25)
  have hcw := (((Chg.refl [] w).alloc (.cells #[.slice a1 n1 c1, .slice a2 n2 c2] 25)).tr hc2).tr hca
  have hbg := (hc2.tr hca).heap (heap_alloc_same w (.cells #[.slice a1 n1 c1, .slice a2 n2 c2] 25)) (by simp)
  have hbi := heap_alloc_same w2 (.cells #[.slice (some ⟨b1, 0, none⟩) m1 d1, .slice (some ⟨b2, 0, none⟩) m2 d2] 25)
  obtain ⟨BG, hBG⟩ : ∃ B, B = w.heap.size := ⟨_, rfl⟩
  obtain ⟨BI, hBI⟩ : ∃ B, B = w2.heap.size := ⟨_, rfl⟩
  obtain ⟨w3, e3⟩ : ∃ w3, w3 = w2.alloc (.cells #[.slice (some ⟨b1, 0, none⟩) m1 d1, .slice (some ⟨b2, 0, none⟩) m2 d2] 25) := ⟨_, rfl⟩
  have hl3 : LentG 0 w3 b1 d1 b2 d2 g := by
    rw [e3]
    obtain ⟨q1, ⟨L, q2, q3⟩, q4⟩ := hl.chg0 hca
    exact ⟨row_base q1 (Nat.zero_le _), ⟨L, q2, q3.below (Nat.zero_le _)⟩, q4⟩
  rw [← e3] at hcw hbg hbi
  rw [← hBG] at hbg
  rw [← hBI] at hbi
  have H3 := Lib.hid (And.intro hbg (And.intro hbi (And.intro hcw (And.intro hl3 (And.intro hm1 hm2)))))
  have HE := Lib.hid (And.intro e3 (And.intro hBG hBI))
  obtain ⟨A1, hA1⟩ : ∃ A, A = idleL g := ⟨_, rfl⟩
  obtain ⟨LA1, hl1⟩ : ∃ l1, l1 = A1.length := ⟨_, rfl⟩
  obtain ⟨f0, hf0⟩ : ∃ f, f = (idleL g).headD 0 := ⟨_, rfl⟩
  obtain ⟨fb, hfb⟩ : ∃ f, f = !(idleL g).isEmpty := ⟨_, rfl⟩
  obtain ⟨wb, hwb⟩ : ∃ f, f = wellB g := ⟨_, rfl⟩
  obtain ⟨ib, hib⟩ : ∃ f, f = decide (n ∈ idleL g) := ⟨_, rfl⟩
  obtain ⟨rb, hrb⟩ : ∃ f, f = rightB g := ⟨_, rfl⟩
  obtain ⟨mr, hmr⟩ : ∃ f, f = (mendU g).rules.length := ⟨_, rfl⟩
  obtain ⟨mn, hmn⟩ : ∃ f, f = (mendU g).nodes.length := ⟨_, rfl⟩
  have hgi : GramAt w3 (some ⟨b1, 0, none⟩) m1 d1 (some ⟨b2, 0, none⟩) m2 d2 g := by rw [hm1, hm2]; exact hl3.gram
  have hA9 : A1.length ≤ 2048 := by rw [hA1]; exact idle_few
  have hm13 : m1 ≤ 300 := by have := H.out.1.e1; have := H.out.2.2.1; omega
  have hm23 : m2 ≤ 300 := by have := H.out.1.e2; have := H.out.2.2.2.1; omega
  have HAl : Hid (∀ W, Chg [] w3 W → Calls Tryz.prog 70 #[.agg #[.slice (some ⟨b1, 0, none⟩) m1 d1, .slice (some ⟨b2, 0, none⟩) m2 d2]] W fun e W' => ∃ a c, e = .returned (.slice a LA1 c) ∧ FreshInts W.heap.size W' a c A1 ∧ Chg [] W W') := Lib.hid fun W hW => by
    have := wellAll_any W _ _ _ _ _ _ g (hgi.keep hW.kp) H.out.2.1
    rw [hl1, hA1]
    exact this
  have HFi3 : Hid (∀ W, Chg [] w3 W → Calls Tryz.prog 68 #[.agg #[.slice (some ⟨b1, 0, none⟩) m1 d1, .slice (some ⟨b2, 0, none⟩) m2 d2]] W fun e W' => e = .returned (.tuple #[.int .i64 f0, .bool fb]) ∧ Chg [] W W') := Lib.hid fun W hW => by
    rw [hf0, hfb]
    exact wellFirst_any W _ _ _ _ _ _ g (hgi.keep hW.kp) H.out.2.1
  have HRF3 : Hid (∀ W, Chg [] w W → Calls Tryz.prog 72 #[.agg #[.slice a1 n1 c1, .slice a2 n2 c2]] W fun e W' => e = .returned (.tuple #[.int .i64 f0, .bool fb]) ∧ Chg [] W W') := Lib.hid fun W hW => by
    rw [hf0, hfb]
    exact ref15First_any W _ _ _ _ _ _ g (H.out.1.keep hW.kp)
  have HId3 : Hid (∀ W, Chg [] w3 W → Calls Tryz.prog 73 #[.agg #[.slice (some ⟨b1, 0, none⟩) m1 d1, .slice (some ⟨b2, 0, none⟩) m2 d2], .int .i64 n] W fun e W' => e = .returned (.bool ib) ∧ Chg [] W W') := Lib.hid fun W hW => by
    rw [hib]
    exact wellIdle_any W _ _ _ _ _ _ g (hgi.keep hW.kp) H.out.2.1 n
  have HRI3 : Hid (∀ W, Chg [] w W → Calls Tryz.prog 74 #[.agg #[.slice a1 n1 c1, .slice a2 n2 c2], .int .i64 n] W fun e W' => e = .returned (.bool ib) ∧ Chg [] W W') := Lib.hid fun W hW => by
    have h := ref15Idle_any W _ _ _ _ _ _ g (H.out.1.keep hW.kp) n
    have e9 : (idleL g).contains n = ib := by rw [hib]; simp
    rw [e9] at h
    exact h
  have HWl3 : Hid (∀ W, Chg [] w3 W → Calls Tryz.prog 71 #[.agg #[.slice (some ⟨b1, 0, none⟩) m1 d1, .slice (some ⟨b2, 0, none⟩) m2 d2]] W fun e W' => e = .returned (.bool wb) ∧ Chg [] W W') := Lib.hid fun W hW => by
    rw [hwb]
    exact wellWell_any W _ _ _ _ _ _ g (hgi.keep hW.kp) H.out.2.1
  have HRW3 : Hid (∀ W, Chg [] w W → Calls Tryz.prog 75 #[.agg #[.slice a1 n1 c1, .slice a2 n2 c2]] W fun e W' => e = .returned (.bool wb) ∧ Chg [] W W') := Lib.hid fun W hW => by
    rw [hwb]
    exact ref15Well_any W _ _ _ _ _ _ g (H.out.1.keep hW.kp)
  have HRA3 : Hid (∀ W, Chg [] w W → Calls Tryz.prog 76 #[.agg #[.slice a1 n1 c1, .slice a2 n2 c2]] W fun e W' => ∃ a c, e = .returned (.slice a LA1 c) ∧ FreshInts W.heap.size W' a c A1 ∧ Chg [] W W') := Lib.hid fun W hW => by
    have := ref15All_any W _ _ _ _ _ _ g (H.out.1.keep hW.kp)
    rw [hl1, hA1]
    exact this
  have HMe3 : Hid (∀ W, Chg [] w3 W → Calls Tryz.prog 69 #[.agg #[.slice (some ⟨b1, 0, none⟩) m1 d1, .slice (some ⟨b2, 0, none⟩) m2 d2]] W fun e W' => ∃ x1 e1 x2 e2, e = .returned (.tuple #[.agg #[.slice x1 mr e1, .slice x2 mn e2], .bool rb]) ∧ OwnM W.heap.size W' x1 e1 x2 e2 (mendU g) ∧ Chg [] W W') := Lib.hid fun W hW => by
    refine (wellMend_any W _ _ _ _ _ _ g (hgi.keep hW.kp) H.out.2.1 hm13 hm23 H.out.2.2.2.2).mono fun e W' h => ?_
    obtain ⟨x1, e1, x2, e2, L, q1, q2, q3, q4⟩ := mend_uni h
    rw [hmr, hmn, hrb]
    exact ⟨x1, e1, x2, e2, q1, ⟨L, q2, q3⟩, q4⟩
  have HMR3 : Hid (∀ W, Chg [] w W → Calls Tryz.prog 77 #[.agg #[.slice a1 n1 c1, .slice a2 n2 c2]] W fun e W' => ∃ x1 e1 x2 e2, e = .returned (.tuple #[.agg #[.slice x1 mr e1, .slice x2 mn e2], .bool rb]) ∧ GramAt W' x1 mr e1 x2 mn e2 (mendU g) ∧ Chg [] W W') := Lib.hid fun W hW => by
    refine (ref15Mend_any W _ _ _ _ _ _ g (H.out.1.keep hW.kp) (fun x hx => by have := H.out.2.2.2.2 x hx; omega)).mono fun e W' h => ?_
    obtain ⟨x1, e1, x2, e2, q1, q2, q3⟩ := mend_uniR h
    rw [hmr, hmn, hrb]
    exact ⟨x1, e1, x2, e2, q1, q2, q3⟩
  have HKe3 : Hid (∀ W, Chg [] w3 W → Calls Tryz.prog 49 #[.agg #[.slice (some ⟨b1, 0, none⟩) m1 d1, .slice (some ⟨b2, 0, none⟩) m2 d2], .agg #[.slice a1 n1 c1, .slice a2 n2 c2]] W fun e W' => e = .returned (.bool true) ∧ Chg [] W W') := Lib.hid fun W hW =>
    KeptGrammar_any W b1 d1 b2 d2 a1 n1 c1 a2 n2 c2 g m1 m2 H3.out.2.2.2.2.1 H3.out.2.2.2.2.2 (H3.out.2.2.2.1.chg0 hW) (H.out.1.keep (H3.out.2.2.1.tr hW).kp) (by have := H.out.2.2.1; omega) (by have := H.out.2.2.2.1; omega) (fun x hx => by have := H.out.2.2.2.2 x hx; omega)
  have HL := Lib.hid hl1
  have HM := Lib.hid (And.intro hA9 (And.intro hmr hmn))
  clear hl hc2 hm1 hm2 hca hcw hbg hbi e3 hl3 hl1 hgi hA1 hA9 hf0 hfb hwb hib hrb hmr hmn hm13 hm23 hBG hBI
  go_wp2_with fail
  rw [← HE.out.1, ← HE.out.2.1, ← HE.out.2.2]
  refine wp_region_st2 (by kernel_rfl) (by kernel_rfl) [20, 21, 22, 23, 6, 7] (by kernel_rfl) (fun rI rV rW => match rI with | 0 => rV = .agg #[.slice (some ⟨b1, 0, none⟩) m1 d1, .slice (some ⟨b2, 0, none⟩) m2 d2] | 1 => ∃ r21 c21, rV = .slice r21 LA1 c21 ∧ FreshInts w3.heap.size rW r21 c21 A1 | 2 => rV = .agg #[.slice (some ⟨b1, 0, none⟩) m1 d1, .slice (some ⟨b2, 0, none⟩) m2 d2] | 3 => ∃ r23 c23, rV = .slice r23 LA1 c23 ∧ FreshInts w3.heap.size rW r23 c23 A1 | 4 => ∃ s6 y6, rV = .slice s6 LA1 y6 ∧ FreshInts w3.heap.size rW s6 y6 A1 | 5 => ∃ s7 y7, rV = .slice s7 LA1 y7 ∧ FreshInts w3.heap.size rW s7 y7 A1 | _ => True) ?hS2 (fun i v j u => (i ∈ [1, 3] → j ∈ [1, 3] → ∀ x, v.ownBlock = some x → u.ownBlock ≠ some x) ∧ ((i, j) ∈ [(4, 1), (5, 3)] → v = u)) ?hstep2 ?hdone2
  case hS2 =>
    intro rI rV rW rW' hc rP
    match rI, rP with
    | 0, rP => exact rP
    | 1, rP => exact (by obtain ⟨r21, c21, e9, hp⟩ := rP; exact ⟨r21, c21, e9, hc.row hp (fun _ _ => by simp)⟩)
    | 2, rP => exact rP
    | 3, rP => exact (by obtain ⟨r23, c23, e9, hp⟩ := rP; exact ⟨r23, c23, e9, hc.row hp (fun _ _ => by simp)⟩)
    | 4, rP => exact (by obtain ⟨s6, y6, e9, hp⟩ := rP; exact ⟨s6, y6, e9, hc.row hp (fun _ _ => by simp)⟩)
    | 5, rP => exact (by obtain ⟨s7, y7, e9, hp⟩ := rP; exact ⟨s7, y7, e9, hc.row hp (fun _ _ => by simp)⟩)
    | _ + 6, _ => trivial
  case hstep2 =>
    intro rI rH us W hC hdep K hK
    have hiN : rI < 6 := rH
    simp only [actU, Act.put, List.setIfInBounds_toArray, List.set_cons_succ, List.set_cons_zero, Nat.reduceAdd] at hK ⊢
    obtain ⟨x0, x1⟩ := cells2 (hC.heap H3.out.2.1 (by simp))
    rcases (show rI = 0 ∨ rI = 1 ∨ rI = 2 ∨ rI = 3 ∨ rI = 4 ∨ rI = 5 by omega) with rfl | rfl | rfl | rfl | rfl | rfl
    · simp only [List.getD_cons_succ, List.getD_cons_zero, List.setIfInBounds_toArray, List.set_cons_succ, List.set_cons_zero] at hK ⊢
      refine wpOp_at rfl rfl ?_
      go_simp
      exact hK _ _ _ rfl (Chg.refl _ _) rfl (fun j9 hj9 hne9 hw9 hq9 => ⟨fun hi9 => absurd hi9 (by decide), fun hl9 => by simp at hl9⟩)
    · have l0 := hdep 0 (by kernel_rfl)
      replace l0 : us 0 = .agg #[.slice (some ⟨b1, 0, none⟩) m1 d1, .slice (some ⟨b2, 0, none⟩) m2 d2] := l0
      simp only [List.getD_cons_succ, List.getD_cons_zero, List.setIfInBounds_toArray, List.set_cons_succ, List.set_cons_zero, l0] at hK ⊢
      refine wpOp_at rfl rfl ?_
      go_simp
      refine (HAl.out W hC).mono ?_
      rintro e wz ⟨r21, c21, rfl, hf, hz⟩
      exact hK _ _ _ rfl hz ⟨r21, c21, rfl, row_base hf hC.size⟩ (fun j9 hj9 hne9 hw9 hq9 => ⟨fun _ hjT x hx hy => by (simp only [List.mem_cons, List.not_mem_nil, or_false] at hjT; rcases hjT with rfl | rfl <;> first | exact absurd rfl hne9 | (obtain ⟨a9, c9, e9, h9⟩ := hq9; rw [e9] at hy; (try simp only [HL.out] at hx); (try simp only [HL.out] at hy); have q1 := (row_beyond hf hx).1; have q2 := (row_beyond h9 hy).2.1; omega)), fun hl9 => by simp at hl9⟩)
    · simp only [List.getD_cons_succ, List.getD_cons_zero, List.setIfInBounds_toArray, List.set_cons_succ, List.set_cons_zero] at hK ⊢
      refine wpOp_at rfl rfl ?_
      go_simp
      exact hK _ _ _ rfl (Chg.refl _ _) rfl (fun j9 hj9 hne9 hw9 hq9 => ⟨fun hi9 => absurd hi9 (by decide), fun hl9 => by simp at hl9⟩)
    · have l2 := hdep 2 (by kernel_rfl)
      replace l2 : us 2 = .agg #[.slice (some ⟨b1, 0, none⟩) m1 d1, .slice (some ⟨b2, 0, none⟩) m2 d2] := l2
      simp only [List.getD_cons_succ, List.getD_cons_zero, List.setIfInBounds_toArray, List.set_cons_succ, List.set_cons_zero, l2] at hK ⊢
      refine wpOp_at rfl rfl ?_
      go_simp
      refine (HAl.out W hC).mono ?_
      rintro e wz ⟨r23, c23, rfl, hf, hz⟩
      exact hK _ _ _ rfl hz ⟨r23, c23, rfl, row_base hf hC.size⟩ (fun j9 hj9 hne9 hw9 hq9 => ⟨fun _ hjT x hx hy => by (simp only [List.mem_cons, List.not_mem_nil, or_false] at hjT; rcases hjT with rfl | rfl <;> first | exact absurd rfl hne9 | (obtain ⟨a9, c9, e9, h9⟩ := hq9; rw [e9] at hy; (try simp only [HL.out] at hx); (try simp only [HL.out] at hy); have q1 := (row_beyond hf hx).1; have q2 := (row_beyond h9 hy).2.1; omega)), fun hl9 => by simp at hl9⟩)
    · have l1 := hdep 1 (by kernel_rfl)
      obtain ⟨r21, c21, l1, p1⟩ := l1
      simp only [List.getD_cons_succ, List.getD_cons_zero, List.setIfInBounds_toArray, List.set_cons_succ, List.set_cons_zero, l1] at hK ⊢
      refine wpOp_at rfl rfl ?_
      go_simp
      exact hK _ _ _ rfl (Chg.refl _ _) ⟨r21, c21, rfl, p1⟩ (fun j9 hj9 hne9 hw9 hq9 => ⟨fun hi9 => absurd hi9 (by decide), fun hl9 => by simp at hl9; subst hl9; exact l1.symm⟩)
    · have l3 := hdep 3 (by kernel_rfl)
      obtain ⟨r23, c23, l3, p3⟩ := l3
      simp only [List.getD_cons_succ, List.getD_cons_zero, List.setIfInBounds_toArray, List.set_cons_succ, List.set_cons_zero, l3] at hK ⊢
      refine wpOp_at rfl rfl ?_
      go_simp
      exact hK _ _ _ rfl (Chg.refl _ _) ⟨r23, c23, rfl, p3⟩ (fun j9 hj9 hne9 hw9 hq9 => ⟨fun hi9 => absurd hi9 (by decide), fun hl9 => by simp at hl9; subst hl9; exact l3.symm⟩)
  case hdone2 =>
    intro us W hC hall hpw
    have lk4 : us 4 = us 1 := by
      rcases hpw 4 1 (by decide) (by decide) (by decide) with h | h
      · exact h.1.2 (by decide)
      · exact absurd (h.2.symm.trans (show waits _ 4 1 = true by kernel_rfl)) (by decide)
    have lk5 : us 5 = us 3 := by
      rcases hpw 5 3 (by decide) (by decide) (by decide) with h | h
      · exact h.1.2 (by decide)
      · exact absurd (h.2.symm.trans (show waits _ 5 3 = true by kernel_rfl)) (by decide)
    have qp1_3 : ∀ x, (us 1).ownBlock = some x → (us 3).ownBlock ≠ some x := by
      rcases hpw 1 3 (by decide) (by decide) (by decide) with h | h
      · exact h.1.1 (by decide) (by decide)
      · exact fun x hx hy => h.1.1 (by decide) (by decide) x hy hx
    have l0 := hall 0 (by decide)
    replace l0 : us 0 = .agg #[.slice (some ⟨b1, 0, none⟩) m1 d1, .slice (some ⟨b2, 0, none⟩) m2 d2] := l0
    have l1 := hall 1 (by decide)
    obtain ⟨r21, c21, l1, p1⟩ := l1
    have l2 := hall 2 (by decide)
    replace l2 : us 2 = .agg #[.slice (some ⟨b1, 0, none⟩) m1 d1, .slice (some ⟨b2, 0, none⟩) m2 d2] := l2
    have l3 := hall 3 (by decide)
    obtain ⟨r23, c23, l3, p3⟩ := l3
    have l4 := hall 4 (by decide)
    obtain ⟨s6, y6, l4, p4⟩ := l4
    have l5 := hall 5 (by decide)
    obtain ⟨s7, y7, l5, p5⟩ := l5
    rw [l4, l1] at lk4
    rw [l5, l3] at lk5
    rw [l1, l3] at qp1_3
    clear hpw
    simp only [actU, Act.put, List.setIfInBounds_toArray, List.set_cons_succ, List.set_cons_zero, Nat.reduceAdd, l0, l1, l2, l3, l4, l5]
    clear hall l0 l1 l2 l3 l4 l5
    have HP := Lib.hid (And.intro p4 (And.intro p5 (And.intro lk4 (And.intro lk5 qp1_3))))
    have hbi := hC.heap H3.out.2.1 (by simp)
    have hbg := hC.heap H3.out.1 (by simp)
    obtain ⟨w4, rfl⟩ : ∃ wz, wz = W := ⟨_, rfl⟩
    have H4 := Lib.hid (And.intro hbg (And.intro hbi hC))
    obtain ⟨x2, x3⟩ := cells2 hbi
    clear hbi hbg p1 p3 p4 p5 lk4 lk5 qp1_3 hC
    go_wp2_with fail
    refine (HFi3.out w4 H4.out.2.2).mono ?_
    rintro e w5 ⟨rfl, hc5⟩
    have H5 := Lib.hid (And.intro (hc5.heap H4.out.1 (by simp)) (And.intro (hc5.heap H4.out.2.1 (by simp)) (H4.out.2.2.tr hc5)))
    clear x2 x3
    obtain ⟨x0, x1⟩ := cells2 H5.out.1
    have HC5 := Lib.hid hc5
    clear hc5
    go_wp2_with fail
    refine (HRF3.out w5 (H3.out.2.2.1.tr H5.out.2.2)).mono ?_
    rintro e w6 ⟨rfl, hc6⟩
    have H6 := Lib.hid (And.intro (hc6.heap H5.out.1 (by simp)) (And.intro (hc6.heap H5.out.2.1 (by simp)) (And.intro (H5.out.2.2.tr hc6) (HC5.out.tr hc6))))
    have HId : Hid (∀ W, Chg [] w6 W → Calls Tryz.prog 73 #[.agg #[.slice (some ⟨b1, 0, none⟩) m1 d1, .slice (some ⟨b2, 0, none⟩) m2 d2], .int .i64 n] W fun e W' => e = .returned (.bool ib) ∧ Chg [] W W') := Lib.hid fun W hW => HId3.out W (H6.out.2.2.1.tr hW)
    have HRI : Hid (∀ W, Chg [] w6 W → Calls Tryz.prog 74 #[.agg #[.slice a1 n1 c1, .slice a2 n2 c2], .int .i64 n] W fun e W' => e = .returned (.bool ib) ∧ Chg [] W W') := Lib.hid fun W hW => HRI3.out W (H3.out.2.2.1.tr (H6.out.2.2.1.tr hW))
    have HWl : Hid (∀ W, Chg [] w6 W → Calls Tryz.prog 71 #[.agg #[.slice (some ⟨b1, 0, none⟩) m1 d1, .slice (some ⟨b2, 0, none⟩) m2 d2]] W fun e W' => e = .returned (.bool wb) ∧ Chg [] W W') := Lib.hid fun W hW => HWl3.out W (H6.out.2.2.1.tr hW)
    have HRW : Hid (∀ W, Chg [] w6 W → Calls Tryz.prog 75 #[.agg #[.slice a1 n1 c1, .slice a2 n2 c2]] W fun e W' => e = .returned (.bool wb) ∧ Chg [] W W') := Lib.hid fun W hW => HRW3.out W (H3.out.2.2.1.tr (H6.out.2.2.1.tr hW))
    have HRA : Hid (∀ W, Chg [] w6 W → Calls Tryz.prog 76 #[.agg #[.slice a1 n1 c1, .slice a2 n2 c2]] W fun e W' => ∃ a c, e = .returned (.slice a LA1 c) ∧ FreshInts W.heap.size W' a c A1 ∧ Chg [] W W') := Lib.hid fun W hW => HRA3.out W (H3.out.2.2.1.tr (H6.out.2.2.1.tr hW))
    have HS1 : Hid (∀ W, Chg [] w6 W → ∀ r c, FreshInts w6.heap.size W r c A1 → Calls Tryz.prog 46 #[.slice s6 LA1 y6, .slice r LA1 c] W fun e W' => e = .returned (.bool true) ∧ Chg [] W W') := Lib.hid fun W hW r c hr => by
      have hp := sameInts_any W s6 r LA1 y6 LA1 c A1 A1 HL.out HL.out (by have := HM.out.1; have := HL.out; omega) ((ownInts_read HP.out.1.own).1.keep (H6.out.2.2.2.tr hW).kp) (ownInts_read hr.own).1
      rw [decide_eq_true rfl] at hp
      exact hp
    have hgg : (ib == ib) = true := by simp
    have hgw : (wb == wb) = true := by simp
    have hgf : (fb == fb) = true := by simp
    clear hc6 x0 x1
    go_wp2_with fail
    refine wp_region_st (by kernel_rfl) (by kernel_rfl) [34, 35, 36, 37, 38, 39, 40, 41, 42, 43, 44, 45, 46, 47, 48, 49, 50, 51, 52, 53, 54, 55, 56, 57, 58, 59, 60, 61, 62, 63, 64] (by kernel_rfl) (fun rI rV rW => match rI with | 0 => rV = .agg #[.slice (some ⟨b1, 0, none⟩) m1 d1, .slice (some ⟨b2, 0, none⟩) m2 d2] | 1 => rV = .int .i64 n | 2 => rV = .bool ib | 3 => rV = .agg #[.slice a1 n1 c1, .slice a2 n2 c2] | 4 => rV = .int .i64 n | 5 => rV = .bool ib | 6 => rV = .bool false | 7 => rV = .bool false | 8 => rV = .int .i64 f0 | 9 => rV = .int .i64 f0 | 10 => rV = .bool false | 11 => rV = .bool false | 12 => rV = .bool false | 13 => rV = .bool fb | 14 => rV = .bool fb | 15 => rV = .bool false | 16 => rV = .bool false | 17 => rV = .bool false | 18 => rV = .agg #[.slice (some ⟨b1, 0, none⟩) m1 d1, .slice (some ⟨b2, 0, none⟩) m2 d2] | 19 => rV = .bool wb | 20 => rV = .agg #[.slice a1 n1 c1, .slice a2 n2 c2] | 21 => rV = .bool wb | 22 => rV = .bool false | 23 => rV = .bool false | 24 => rV = .bool false | 25 => rV = .slice s6 LA1 y6 | 26 => rV = .agg #[.slice a1 n1 c1, .slice a2 n2 c2] | 27 => ∃ r61 c61, rV = .slice r61 LA1 c61 ∧ FreshInts w6.heap.size rW r61 c61 A1 | 28 => rV = .bool true | 29 => rV = .bool false | 30 => rV = .bool false | _ => True) ?hS2 ?hstep2 ?hdone2
    case hS2 =>
      intro rI rV rW rW' hc rP
      match rI, rP with
      | 0, rP => exact rP
      | 1, rP => exact rP
      | 2, rP => exact rP
      | 3, rP => exact rP
      | 4, rP => exact rP
      | 5, rP => exact rP
      | 6, rP => exact rP
      | 7, rP => exact rP
      | 8, rP => exact rP
      | 9, rP => exact rP
      | 10, rP => exact rP
      | 11, rP => exact rP
      | 12, rP => exact rP
      | 13, rP => exact rP
      | 14, rP => exact rP
      | 15, rP => exact rP
      | 16, rP => exact rP
      | 17, rP => exact rP
      | 18, rP => exact rP
      | 19, rP => exact rP
      | 20, rP => exact rP
      | 21, rP => exact rP
      | 22, rP => exact rP
      | 23, rP => exact rP
      | 24, rP => exact rP
      | 25, rP => exact rP
      | 26, rP => exact rP
      | 27, rP => exact (by obtain ⟨r61, c61, e9, hp⟩ := rP; exact ⟨r61, c61, e9, hc.row hp (fun _ _ => by simp)⟩)
      | 28, rP => exact rP
      | 29, rP => exact rP
      | 30, rP => exact rP
      | _ + 31, _ => trivial
    case hstep2 =>
      intro rI rH us W hC hdep K hK
      have hiN : rI < 31 := rH
      simp only [actU, Act.put, List.setIfInBounds_toArray, List.set_cons_succ, List.set_cons_zero, Nat.reduceAdd] at hK ⊢
      obtain ⟨x0, x1⟩ := cells2 (hC.heap H6.out.1 (by simp))
      obtain ⟨x2, x3⟩ := cells2 (hC.heap H6.out.2.1 (by simp))
      rcases (show rI = 0 ∨ rI = 1 ∨ rI = 2 ∨ rI = 3 ∨ rI = 4 ∨ rI = 5 ∨ rI = 6 ∨ rI = 7 ∨ rI = 8 ∨ rI = 9 ∨ rI = 10 ∨ rI = 11 ∨ rI = 12 ∨ rI = 13 ∨ rI = 14 ∨ rI = 15 ∨ rI = 16 ∨ rI = 17 ∨ rI = 18 ∨ rI = 19 ∨ rI = 20 ∨ rI = 21 ∨ rI = 22 ∨ rI = 23 ∨ rI = 24 ∨ rI = 25 ∨ rI = 26 ∨ rI = 27 ∨ rI = 28 ∨ rI = 29 ∨ rI = 30 by omega) with rfl | rfl | rfl | rfl | rfl | rfl | rfl | rfl | rfl | rfl | rfl | rfl | rfl | rfl | rfl | rfl | rfl | rfl | rfl | rfl | rfl | rfl | rfl | rfl | rfl | rfl | rfl | rfl | rfl | rfl | rfl
      · simp only [List.getD_cons_succ, List.getD_cons_zero, List.setIfInBounds_toArray, List.set_cons_succ, List.set_cons_zero] at hK ⊢
        refine wpOp_at rfl rfl ?_
        go_simp
        exact hK _ _ _ rfl (Chg.refl _ _) rfl
      · simp only [List.getD_cons_succ, List.getD_cons_zero, List.setIfInBounds_toArray, List.set_cons_succ, List.set_cons_zero] at hK ⊢
        refine wpOp_at rfl rfl ?_
        go_simp
        exact hK _ _ _ rfl (Chg.refl _ _) rfl
      · have l0 := hdep 0 (by kernel_rfl)
        replace l0 : us 0 = .agg #[.slice (some ⟨b1, 0, none⟩) m1 d1, .slice (some ⟨b2, 0, none⟩) m2 d2] := l0
        have l1 := hdep 1 (by kernel_rfl)
        replace l1 : us 1 = .int .i64 n := l1
        simp only [List.getD_cons_succ, List.getD_cons_zero, List.setIfInBounds_toArray, List.set_cons_succ, List.set_cons_zero, l0, l1] at hK ⊢
        refine wpOp_at rfl rfl ?_
        go_simp
        refine (HId.out W hC).mono ?_
        rintro e wz ⟨rfl, hz⟩
        exact hK _ _ _ rfl hz rfl
      · simp only [List.getD_cons_succ, List.getD_cons_zero, List.setIfInBounds_toArray, List.set_cons_succ, List.set_cons_zero] at hK ⊢
        refine wpOp_at rfl rfl ?_
        go_simp
        exact hK _ _ _ rfl (Chg.refl _ _) rfl
      · simp only [List.getD_cons_succ, List.getD_cons_zero, List.setIfInBounds_toArray, List.set_cons_succ, List.set_cons_zero] at hK ⊢
        refine wpOp_at rfl rfl ?_
        go_simp
        exact hK _ _ _ rfl (Chg.refl _ _) rfl
      · have l3 := hdep 3 (by kernel_rfl)
        replace l3 : us 3 = .agg #[.slice a1 n1 c1, .slice a2 n2 c2] := l3
        have l4 := hdep 4 (by kernel_rfl)
        replace l4 : us 4 = .int .i64 n := l4
        simp only [List.getD_cons_succ, List.getD_cons_zero, List.setIfInBounds_toArray, List.set_cons_succ, List.set_cons_zero, l3, l4] at hK ⊢
        refine wpOp_at rfl rfl ?_
        go_simp
        refine (HRI.out W hC).mono ?_
        rintro e wz ⟨rfl, hz⟩
        exact hK _ _ _ rfl hz rfl
      · have l2 := hdep 2 (by kernel_rfl)
        replace l2 : us 2 = .bool ib := l2
        have l5 := hdep 5 (by kernel_rfl)
        replace l5 : us 5 = .bool ib := l5
        simp only [List.getD_cons_succ, List.getD_cons_zero, List.setIfInBounds_toArray, List.set_cons_succ, List.set_cons_zero, l2, l5] at hK ⊢
        refine wpOp_at rfl rfl ?_
        go_simp
        exact hK _ _ _ rfl (Chg.refl _ _) rfl
      · have l6 := hdep 6 (by kernel_rfl)
        replace l6 : us 6 = .bool false := l6
        simp only [List.getD_cons_succ, List.getD_cons_zero, List.setIfInBounds_toArray, List.set_cons_succ, List.set_cons_zero, l6] at hK ⊢
        refine wpOp_at rfl rfl ?_
        go_simp
        exact hK _ _ _ rfl (Chg.refl _ _) rfl
      · have l7 := hdep 7 (by kernel_rfl)
        replace l7 : us 7 = .bool false := l7
        simp only [List.getD_cons_succ, List.getD_cons_zero, List.setIfInBounds_toArray, List.set_cons_succ, List.set_cons_zero, l7] at hK ⊢
        refine wpOp_want rfl (by rfl) ?_
        go_simp
        exact hK _ _ _ rfl (Chg.refl _ _) rfl
      · have l7 := hdep 7 (by kernel_rfl)
        replace l7 : us 7 = .bool false := l7
        simp only [List.getD_cons_succ, List.getD_cons_zero, List.setIfInBounds_toArray, List.set_cons_succ, List.set_cons_zero, l7] at hK ⊢
        refine wpOp_want rfl (by rfl) ?_
        go_simp
        exact hK _ _ _ rfl (Chg.refl _ _) rfl
      · have l7 := hdep 7 (by kernel_rfl)
        replace l7 : us 7 = .bool false := l7
        have l8 := hdep 8 (by kernel_rfl)
        replace l8 : us 8 = .int .i64 f0 := l8
        have l9 := hdep 9 (by kernel_rfl)
        replace l9 : us 9 = .int .i64 f0 := l9
        simp only [List.getD_cons_succ, List.getD_cons_zero, List.setIfInBounds_toArray, List.set_cons_succ, List.set_cons_zero, l7, l8, l9] at hK ⊢
        refine wpOp_want rfl (by rfl) ?_
        go_simp
        exact hK _ _ _ rfl (Chg.refl _ _) rfl
      · have l7 := hdep 7 (by kernel_rfl)
        replace l7 : us 7 = .bool false := l7
        have l10 := hdep 10 (by kernel_rfl)
        replace l10 : us 10 = .bool false := l10
        simp only [List.getD_cons_succ, List.getD_cons_zero, List.setIfInBounds_toArray, List.set_cons_succ, List.set_cons_zero, l7, l10] at hK ⊢
        refine wpOp_at rfl rfl ?_
        go_simp
        exact hK _ _ _ rfl (Chg.refl _ _) rfl
      · have l11 := hdep 11 (by kernel_rfl)
        replace l11 : us 11 = .bool false := l11
        simp only [List.getD_cons_succ, List.getD_cons_zero, List.setIfInBounds_toArray, List.set_cons_succ, List.set_cons_zero, l11] at hK ⊢
        refine wpOp_at rfl rfl ?_
        go_simp
        exact hK _ _ _ rfl (Chg.refl _ _) rfl
      · have l12 := hdep 12 (by kernel_rfl)
        replace l12 : us 12 = .bool false := l12
        simp only [List.getD_cons_succ, List.getD_cons_zero, List.setIfInBounds_toArray, List.set_cons_succ, List.set_cons_zero, l12] at hK ⊢
        refine wpOp_want rfl (by rfl) ?_
        go_simp
        exact hK _ _ _ rfl (Chg.refl _ _) rfl
      · have l12 := hdep 12 (by kernel_rfl)
        replace l12 : us 12 = .bool false := l12
        simp only [List.getD_cons_succ, List.getD_cons_zero, List.setIfInBounds_toArray, List.set_cons_succ, List.set_cons_zero, l12] at hK ⊢
        refine wpOp_want rfl (by rfl) ?_
        go_simp
        exact hK _ _ _ rfl (Chg.refl _ _) rfl
      · have l12 := hdep 12 (by kernel_rfl)
        replace l12 : us 12 = .bool false := l12
        have l13 := hdep 13 (by kernel_rfl)
        replace l13 : us 13 = .bool fb := l13
        have l14 := hdep 14 (by kernel_rfl)
        replace l14 : us 14 = .bool fb := l14
        simp only [List.getD_cons_succ, List.getD_cons_zero, List.setIfInBounds_toArray, List.set_cons_succ, List.set_cons_zero, l12, l13, l14] at hK ⊢
        refine wpOp_want rfl (by rfl) ?_
        go_simp
        exact hK _ _ _ rfl (Chg.refl _ _) rfl
      · have l12 := hdep 12 (by kernel_rfl)
        replace l12 : us 12 = .bool false := l12
        have l15 := hdep 15 (by kernel_rfl)
        replace l15 : us 15 = .bool false := l15
        simp only [List.getD_cons_succ, List.getD_cons_zero, List.setIfInBounds_toArray, List.set_cons_succ, List.set_cons_zero, l12, l15] at hK ⊢
        refine wpOp_at rfl rfl ?_
        go_simp
        exact hK _ _ _ rfl (Chg.refl _ _) rfl
      · have l16 := hdep 16 (by kernel_rfl)
        replace l16 : us 16 = .bool false := l16
        simp only [List.getD_cons_succ, List.getD_cons_zero, List.setIfInBounds_toArray, List.set_cons_succ, List.set_cons_zero, l16] at hK ⊢
        refine wpOp_at rfl rfl ?_
        go_simp
        exact hK _ _ _ rfl (Chg.refl _ _) rfl
      · have l17 := hdep 17 (by kernel_rfl)
        replace l17 : us 17 = .bool false := l17
        simp only [List.getD_cons_succ, List.getD_cons_zero, List.setIfInBounds_toArray, List.set_cons_succ, List.set_cons_zero, l17] at hK ⊢
        refine wpOp_want rfl (by rfl) ?_
        go_simp
        exact hK _ _ _ rfl (Chg.refl _ _) rfl
      · have l17 := hdep 17 (by kernel_rfl)
        replace l17 : us 17 = .bool false := l17
        have l18 := hdep 18 (by kernel_rfl)
        replace l18 : us 18 = .agg #[.slice (some ⟨b1, 0, none⟩) m1 d1, .slice (some ⟨b2, 0, none⟩) m2 d2] := l18
        simp only [List.getD_cons_succ, List.getD_cons_zero, List.setIfInBounds_toArray, List.set_cons_succ, List.set_cons_zero, l17, l18] at hK ⊢
        refine wpOp_want rfl (by rfl) ?_
        go_simp
        refine (HWl.out W hC).mono ?_
        rintro e wz ⟨rfl, hz⟩
        exact hK _ _ _ rfl hz rfl
      · have l17 := hdep 17 (by kernel_rfl)
        replace l17 : us 17 = .bool false := l17
        simp only [List.getD_cons_succ, List.getD_cons_zero, List.setIfInBounds_toArray, List.set_cons_succ, List.set_cons_zero, l17] at hK ⊢
        refine wpOp_want rfl (by rfl) ?_
        go_simp
        exact hK _ _ _ rfl (Chg.refl _ _) rfl
      · have l17 := hdep 17 (by kernel_rfl)
        replace l17 : us 17 = .bool false := l17
        have l20 := hdep 20 (by kernel_rfl)
        replace l20 : us 20 = .agg #[.slice a1 n1 c1, .slice a2 n2 c2] := l20
        simp only [List.getD_cons_succ, List.getD_cons_zero, List.setIfInBounds_toArray, List.set_cons_succ, List.set_cons_zero, l17, l20] at hK ⊢
        refine wpOp_want rfl (by rfl) ?_
        go_simp
        refine (HRW.out W hC).mono ?_
        rintro e wz ⟨rfl, hz⟩
        exact hK _ _ _ rfl hz rfl
      · have l17 := hdep 17 (by kernel_rfl)
        replace l17 : us 17 = .bool false := l17
        have l19 := hdep 19 (by kernel_rfl)
        replace l19 : us 19 = .bool wb := l19
        have l21 := hdep 21 (by kernel_rfl)
        replace l21 : us 21 = .bool wb := l21
        simp only [List.getD_cons_succ, List.getD_cons_zero, List.setIfInBounds_toArray, List.set_cons_succ, List.set_cons_zero, l17, l19, l21] at hK ⊢
        refine wpOp_want rfl (by rfl) ?_
        go_simp
        exact hK _ _ _ rfl (Chg.refl _ _) rfl
      · have l17 := hdep 17 (by kernel_rfl)
        replace l17 : us 17 = .bool false := l17
        have l22 := hdep 22 (by kernel_rfl)
        replace l22 : us 22 = .bool false := l22
        simp only [List.getD_cons_succ, List.getD_cons_zero, List.setIfInBounds_toArray, List.set_cons_succ, List.set_cons_zero, l17, l22] at hK ⊢
        refine wpOp_at rfl rfl ?_
        go_simp
        exact hK _ _ _ rfl (Chg.refl _ _) rfl
      · have l23 := hdep 23 (by kernel_rfl)
        replace l23 : us 23 = .bool false := l23
        simp only [List.getD_cons_succ, List.getD_cons_zero, List.setIfInBounds_toArray, List.set_cons_succ, List.set_cons_zero, l23] at hK ⊢
        refine wpOp_at rfl rfl ?_
        go_simp
        exact hK _ _ _ rfl (Chg.refl _ _) rfl
      · have l24 := hdep 24 (by kernel_rfl)
        replace l24 : us 24 = .bool false := l24
        simp only [List.getD_cons_succ, List.getD_cons_zero, List.setIfInBounds_toArray, List.set_cons_succ, List.set_cons_zero, l24] at hK ⊢
        refine wpOp_want rfl (by rfl) ?_
        go_simp
        exact hK _ _ _ rfl (Chg.refl _ _) rfl
      · have l24 := hdep 24 (by kernel_rfl)
        replace l24 : us 24 = .bool false := l24
        simp only [List.getD_cons_succ, List.getD_cons_zero, List.setIfInBounds_toArray, List.set_cons_succ, List.set_cons_zero, l24] at hK ⊢
        refine wpOp_want rfl (by rfl) ?_
        go_simp
        exact hK _ _ _ rfl (Chg.refl _ _) rfl
      · have l24 := hdep 24 (by kernel_rfl)
        replace l24 : us 24 = .bool false := l24
        have l26 := hdep 26 (by kernel_rfl)
        replace l26 : us 26 = .agg #[.slice a1 n1 c1, .slice a2 n2 c2] := l26
        simp only [List.getD_cons_succ, List.getD_cons_zero, List.setIfInBounds_toArray, List.set_cons_succ, List.set_cons_zero, l24, l26] at hK ⊢
        refine wpOp_want rfl (by rfl) ?_
        go_simp
        refine (HRA.out W hC).mono ?_
        rintro e wz ⟨r61, c61, rfl, hf, hz⟩
        exact hK _ _ _ rfl hz ⟨r61, c61, rfl, row_base hf hC.size⟩
      · have l24 := hdep 24 (by kernel_rfl)
        replace l24 : us 24 = .bool false := l24
        have l25 := hdep 25 (by kernel_rfl)
        replace l25 : us 25 = .slice s6 LA1 y6 := l25
        have l27 := hdep 27 (by kernel_rfl)
        obtain ⟨r61, c61, l27, p27⟩ := l27
        simp only [List.getD_cons_succ, List.getD_cons_zero, List.setIfInBounds_toArray, List.set_cons_succ, List.set_cons_zero, l24, l25, l27] at hK ⊢
        refine wpOp_want rfl (by rfl) ?_
        go_simp
        refine (HS1.out W hC r61 c61 p27).mono ?_
        rintro e wz ⟨rfl, hz⟩
        exact hK _ _ _ rfl hz rfl
      · have l24 := hdep 24 (by kernel_rfl)
        replace l24 : us 24 = .bool false := l24
        have l28 := hdep 28 (by kernel_rfl)
        replace l28 : us 28 = .bool true := l28
        simp only [List.getD_cons_succ, List.getD_cons_zero, List.setIfInBounds_toArray, List.set_cons_succ, List.set_cons_zero, l24, l28] at hK ⊢
        refine wpOp_want rfl (by rfl) ?_
        go_simp
        exact hK _ _ _ rfl (Chg.refl _ _) rfl
      · have l24 := hdep 24 (by kernel_rfl)
        replace l24 : us 24 = .bool false := l24
        have l29 := hdep 29 (by kernel_rfl)
        replace l29 : us 29 = .bool false := l29
        simp only [List.getD_cons_succ, List.getD_cons_zero, List.setIfInBounds_toArray, List.set_cons_succ, List.set_cons_zero, l24, l29] at hK ⊢
        refine wpOp_at rfl rfl ?_
        go_simp
        exact hK _ _ _ rfl (Chg.refl _ _) rfl
    case hdone2 =>
      intro us W hC hall
      have l0 := hall 0 (by decide)
      replace l0 : us 0 = .agg #[.slice (some ⟨b1, 0, none⟩) m1 d1, .slice (some ⟨b2, 0, none⟩) m2 d2] := l0
      have l1 := hall 1 (by decide)
      replace l1 : us 1 = .int .i64 n := l1
      have l2 := hall 2 (by decide)
      replace l2 : us 2 = .bool ib := l2
      have l3 := hall 3 (by decide)
      replace l3 : us 3 = .agg #[.slice a1 n1 c1, .slice a2 n2 c2] := l3
      have l4 := hall 4 (by decide)
      replace l4 : us 4 = .int .i64 n := l4
      have l5 := hall 5 (by decide)
      replace l5 : us 5 = .bool ib := l5
      have l6 := hall 6 (by decide)
      replace l6 : us 6 = .bool false := l6
      have l7 := hall 7 (by decide)
      replace l7 : us 7 = .bool false := l7
      have l8 := hall 8 (by decide)
      replace l8 : us 8 = .int .i64 f0 := l8
      have l9 := hall 9 (by decide)
      replace l9 : us 9 = .int .i64 f0 := l9
      have l10 := hall 10 (by decide)
      replace l10 : us 10 = .bool false := l10
      have l11 := hall 11 (by decide)
      replace l11 : us 11 = .bool false := l11
      have l12 := hall 12 (by decide)
      replace l12 : us 12 = .bool false := l12
      have l13 := hall 13 (by decide)
      replace l13 : us 13 = .bool fb := l13
      have l14 := hall 14 (by decide)
      replace l14 : us 14 = .bool fb := l14
      have l15 := hall 15 (by decide)
      replace l15 : us 15 = .bool false := l15
      have l16 := hall 16 (by decide)
      replace l16 : us 16 = .bool false := l16
      have l17 := hall 17 (by decide)
      replace l17 : us 17 = .bool false := l17
      have l18 := hall 18 (by decide)
      replace l18 : us 18 = .agg #[.slice (some ⟨b1, 0, none⟩) m1 d1, .slice (some ⟨b2, 0, none⟩) m2 d2] := l18
      have l19 := hall 19 (by decide)
      replace l19 : us 19 = .bool wb := l19
      have l20 := hall 20 (by decide)
      replace l20 : us 20 = .agg #[.slice a1 n1 c1, .slice a2 n2 c2] := l20
      have l21 := hall 21 (by decide)
      replace l21 : us 21 = .bool wb := l21
      have l22 := hall 22 (by decide)
      replace l22 : us 22 = .bool false := l22
      have l23 := hall 23 (by decide)
      replace l23 : us 23 = .bool false := l23
      have l24 := hall 24 (by decide)
      replace l24 : us 24 = .bool false := l24
      have l25 := hall 25 (by decide)
      replace l25 : us 25 = .slice s6 LA1 y6 := l25
      have l26 := hall 26 (by decide)
      replace l26 : us 26 = .agg #[.slice a1 n1 c1, .slice a2 n2 c2] := l26
      have l27 := hall 27 (by decide)
      obtain ⟨r61, c61, l27, p27⟩ := l27
      have l28 := hall 28 (by decide)
      replace l28 : us 28 = .bool true := l28
      have l29 := hall 29 (by decide)
      replace l29 : us 29 = .bool false := l29
      have l30 := hall 30 (by decide)
      replace l30 : us 30 = .bool false := l30
      simp only [actU, Act.put, List.setIfInBounds_toArray, List.set_cons_succ, List.set_cons_zero, Nat.reduceAdd, l0, l1, l2, l3, l4, l5, l6, l7, l8, l9, l10, l11, l12, l13, l14, l15, l16, l17, l18, l19, l20, l21, l22, l23, l24, l25, l26, l27, l28, l29, l30]
      clear hall l0 l1 l2 l3 l4 l5 l6 l7 l8 l9 l10 l11 l12 l13 l14 l15 l16 l17 l18 l19 l20 l21 l22 l23 l24 l25 l26 l27 l28 l29 l30
      have hbi := hC.heap H6.out.2.1 (by simp)
      have hbg := hC.heap H6.out.1 (by simp)
      obtain ⟨w7, rfl⟩ : ∃ wz, wz = W := ⟨_, rfl⟩
      have H7 := Lib.hid (And.intro hbg (And.intro hbi (And.intro (H6.out.2.2.1.tr hC) (H6.out.2.2.2.tr hC))))
      obtain ⟨x2, x3⟩ := cells2 hbi
      clear hbi hbg hC p27 hgg hgw hgf HId HRI HWl HRW HRA HS1
      go_wp2_with fail
      refine (HMe3.out w7 H7.out.2.2.1).mono ?_
      rintro e w8 ⟨x1, e1, x2', e2, rfl, hx, hc8⟩
      have hbX := heap_alloc_same w8 (.cells #[.slice x1 mr e1, .slice x2' mn e2] 25)
      have hcX := hc8.alloc (.cells #[.slice x1 mr e1, .slice x2' mn e2] 25)
      obtain ⟨RX, eX⟩ : ∃ R, R = w8.heap.size := ⟨_, rfl⟩
      have hb8 := hc8.heap H7.out.1 (by simp)
      clear x2 x3
      obtain ⟨y0, y1⟩ := cells2 hb8
      have hlt8 := lt_of_block hb8
      have hcx8 := (Chg.refl [] w8).alloc (.cells #[.slice x1 mr e1, .slice x2' mn e2] 25)
      have HX := Lib.hid (And.intro hx (And.intro hc8 (And.intro hcX (And.intro hbX (And.intro eX hcx8)))))
      clear hx hc8 hcX hbX hb8 hcx8
      go_wp2_with fail
      rw [← eX]
      clear eX
      obtain ⟨wX, eW⟩ : ∃ wX, wX = w8.alloc (.cells #[.slice x1 mr e1, .slice x2' mn e2] 25) := ⟨_, rfl⟩
      rw [← eW] at HX ⊢
      clear eW y0 y1 hlt8
      refine (HMR3.out wX (H3.out.2.2.1.tr (H7.out.2.2.1.tr HX.out.2.2.1))).mono ?_
      rintro e w9 ⟨y1, g1, y2, g2, rfl, hy, hc9⟩
      have hb9 := (HX.out.2.2.1.tr hc9).heap H7.out.2.1 (by simp)
      obtain ⟨z0, z1⟩ := cells2 hb9
      have hlt9 := lt_of_block hb9
      obtain ⟨RY, eY⟩ : ∃ R, R = w9.heap.size := ⟨_, rfl⟩
      have hbY := heap_alloc_same w9 (.cells #[.slice y1 mr g1, .slice y2 mn g2] 25)
      have hcY := hc9.alloc (.cells #[.slice y1 mr g1, .slice y2 mn g2] 25)
      have HY := Lib.hid (And.intro hy (And.intro hc9 (And.intro hcY (And.intro hbY eY))))
      clear hy hc9 hcY hbY hb9
      go_wp2_with fail
      rw [← eY]
      clear eY
      obtain ⟨wY, eW⟩ : ∃ wX, wX = w9.alloc (.cells #[.slice y1 mr g1, .slice y2 mn g2] 25) := ⟨_, rfl⟩
      have hgy : GramAt wY y1 mr g1 y2 mn g2 (mendU g) := by rw [eW]; exact HY.out.1.keep ((Chg.refl [] w9).alloc _).kp
      rw [← eW] at HY ⊢
      have HGY := Lib.hid hgy
      clear eW z0 z1 hlt9 hgy
      refine (HMe3.out wY (H7.out.2.2.1.tr (HX.out.2.2.1.tr HY.out.2.2.1))).mono ?_
      rintro e wA ⟨z1, h1, z2, h2, rfl, hz, hcA⟩
      have hbXA := (HY.out.2.2.1.tr hcA).heap HX.out.2.2.2.1 (by simp)
      have hbYA := hcA.heap HY.out.2.2.2.1 (by simp)
      have hbZ := heap_alloc_same wA (.cells #[.slice z1 mr h1, .slice z2 mn h2] 25)
      have hcZ := hcA.alloc (.cells #[.slice z1 mr h1, .slice z2 mn h2] 25)
      rw [← HX.out.2.2.2.2.1] at hbXA
      rw [← HY.out.2.2.2.2] at hbYA
      obtain ⟨u0, u1⟩ := cells2 hbXA
      obtain ⟨v0, v1⟩ := cells2 hbYA
      have hltX := lt_of_block hbXA
      have hltY := lt_of_block hbYA
      obtain ⟨RZ, eZ⟩ : ∃ R, R = wA.heap.size := ⟨_, rfl⟩
      have hne : RX ≠ RZ := by omega
      have hczA := (Chg.refl [] wA).alloc (.cells #[.slice z1 mr h1, .slice z2 mn h2] 25)
      have HZ := Lib.hid (And.intro hz (And.intro hcA (And.intro hcZ (And.intro hbZ (And.intro eZ (And.intro hne (And.intro hbXA (And.intro hbYA hczA))))))))
      clear hz hcA hcZ hbZ hbXA hbYA hne hczA
      go_wp2_with fail
      rw [← eZ]
      clear eZ
      obtain ⟨wZ, eW⟩ : ∃ wX, wX = wA.alloc (.cells #[.slice z1 mr h1, .slice z2 mn h2] 25) := ⟨_, rfl⟩
      have hbX2 : wZ.heap[RX]? = some (.cells #[.slice x1 mr e1, .slice x2' mn e2] 25 (0, 0)) := by rw [eW]; exact heap_alloc_lt HZ.out.2.2.2.2.2.2.1 _
      rw [← eW] at HZ ⊢
      have hbZ2 := HZ.out.2.2.2.1
      rw [← HZ.out.2.2.2.2.1] at hbZ2
      have hc7Z : Chg [] w7 wZ := HX.out.2.2.1.tr (HY.out.2.2.1.tr HZ.out.2.2.1)
      have hc8Z : Chg [] w8 wZ := HX.out.2.2.2.2.2.tr (HY.out.2.2.1.tr HZ.out.2.2.1)
      have hc3Z := H7.out.2.2.1.tr hc7Z
      have hSG : Calls Tryz.prog 78 #[.agg #[.slice x1 mr e1, .slice x2' mn e2], .agg #[.slice y1 mr g1, .slice y2 mn g2]] wZ fun e w' => e = .returned (.bool true) ∧ Chg [] wZ w' := by
        have hx := (HX.out.1.chg0 hc8Z).gram (mendU_wf H.out.1.wf)
        rw [← HM.out.2.1, ← HM.out.2.2] at hx
        have h := kitSameGram_any wZ _ _ _ _ _ _ _ _ _ _ _ _ _ _ hx (HGY.out.keep HZ.out.2.2.1.kp)
        rw [sameG_refl] at h
        exact h
      have HQ := Lib.hid (And.intro hbX2 (And.intro hbZ2 (And.intro hc3Z (And.intro hc8Z hc7Z))))
      clear eW u0 u1 v0 v1 hltX hltY hbX2 hbZ2 hc3Z hc8Z hc7Z
      refine hSG.mono ?_
      clear hSG
      rintro e wB ⟨rfl, hcB⟩
      have h3B := HQ.out.2.2.1.tr hcB
      obtain ⟨x0, x1'⟩ := cells2 (h3B.heap H3.out.1 (by simp))
      obtain ⟨x2, x3⟩ := cells2 (h3B.heap H3.out.2.1 (by simp))
      have HB := Lib.hid (And.intro hcB h3B)
      clear hcB h3B
      go_wp2_with fail
      refine (HKe3.out wB HB.out.2).mono ?_
      rintro e wC ⟨rfl, hcC⟩
      have HC := Lib.hid (And.intro (HB.out.1.tr hcC) (HB.out.2.tr hcC))
      clear hcC x0 x1' x2 x3
      go_wp2_with fail
      have hcD := (Chg.refl [] wC).alloc (.cells #[.slice s6 LA1 y6, .slice s7 LA1 y7] 48)
      have hbD := heap_alloc_same wC (.cells #[.slice s6 LA1 y6, .slice s7 LA1 y7] 48)
      obtain ⟨RD, eD⟩ : ∃ R, R = wC.heap.size := ⟨_, rfl⟩
      obtain ⟨wD, eW⟩ : ∃ wX, wX = wC.alloc (.cells #[.slice s6 LA1 y6, .slice s7 LA1 y7] 48) := ⟨_, rfl⟩
      rw [← eD] at hbD
      rw [← eW] at hcD hbD
      rw [← eD, ← eW]
      clear eD eW
      have h3D := HC.out.2.tr hcD
      have h4D : Chg [] w4 wD := H7.out.2.2.2.tr (HQ.out.2.2.2.2.tr (HC.out.1.tr hcD))
      have hr6 : w4.ownsRow w3.heap.size 3 1 (.slice s6 LA1 y6) LA1 (A1.map (Value.int .i64)) := by rw [HL.out]; exact HP.out.1
      have hr7 : w4.ownsRow w3.heap.size 3 1 (.slice s7 LA1 y7) LA1 (A1.map (Value.int .i64)) := by rw [HL.out]; exact HP.out.2.1
      have hAI := apartTwoI_any wD w3.heap.size w4.heap.size RD s6 LA1 y6 s7 LA1 y7 _ _ (h4D.row hr6 (fun _ _ => by simp)) (h4D.row hr7 (fun _ _ => by simp)) (fun x hx => (row_beyond hr6 hx).2.1) (fun x hx => (row_beyond hr7 hx).2.1)
        (by rw [HP.out.2.2.1, HP.out.2.2.2.1]; exact HP.out.2.2.2.2) hbD (by have := HM.out.1; have := HL.out; omega) (by have := HM.out.1; have := HL.out; omega)
      have HD := Lib.hid (And.intro h3D (HC.out.1.tr hcD))
      clear h3D h4D hr6 hr7 hcD hbD
      refine hAI.mono ?_
      clear hAI
      rintro e wE ⟨rfl, S, hS, hcE⟩
      have h34 := H4.out.2.2.size
      have h47 := H7.out.2.2.2.size
      have h78 := HX.out.2.1.size
      have hX9 : w8.heap.size ≤ RX := by have := HX.out.2.2.2.2.1; omega
      have hlZ := lt_of_block HQ.out.2.1
      have hlZ' : wA.heap.size ≤ RZ := by have := HZ.out.2.2.2.2.1; omega
      have hAZ := HZ.out.2.1.size
      have hYX := HY.out.2.2.1.size
      have hXX := HX.out.2.2.2.2.2.size
      obtain ⟨u0, u1⟩ := cells2 (hcE.heap (HD.out.2.heap HQ.out.1 (by simp)) (fun hm => by have := (hS _ hm).2; omega))
      obtain ⟨v0, v1⟩ := cells2 (hcE.heap (HD.out.2.heap HQ.out.2.1 (by simp)) (fun hm => by have := (hS _ hm).2; omega))
      have h3E : Chg [] w3 wE := HD.out.1.trans hcE (fun j hj => .inr (hS j hj).1)
      have hltX := lt_of_block (hcE.heap (HD.out.2.heap HQ.out.1 (by simp)) (fun hm => by have := (hS _ hm).2; omega))
      have hltZ := lt_of_block (hcE.heap (HD.out.2.heap HQ.out.2.1 (by simp)) (fun hm => by have := (hS _ hm).2; omega))
      have HE2 := Lib.hid (And.intro h3E (And.intro hcE hS))
      clear h3E hcE hS
      go_wp2_with fail
      obtain ⟨wF, eW⟩ : ∃ wX, wX = ((wE.alloc (.cells #[.slice x1 mr e1, .slice x2' mn e2] 25)).alloc (.cells #[.slice z1 mr h1, .slice z2 mn h2] 25)).alloc (.cells #[.slice (some ⟨wE.heap.size, 0, none⟩) 1 1, .slice (some ⟨wE.heap.size + 1, 0, none⟩) 1 1] 74) := ⟨_, rfl⟩
      have hcF : Chg [] wE wF := by rw [eW]; exact (((Chg.refl [] wE).alloc _).alloc _).alloc _
      have hF0 : wF.heap[wE.heap.size]? = some (.cells #[.slice x1 mr e1, .slice x2' mn e2] 25 (0, 0)) := by rw [eW]; exact heap_alloc_lt (heap_alloc_lt (heap_alloc_same wE _) _) _
      have hF1 : wF.heap[wE.heap.size + 1]? = some (.cells #[.slice z1 mr h1, .slice z2 mn h2] 25 (0, 0)) := by
        have := heap_alloc_same (wE.alloc (.cells #[.slice x1 mr e1, .slice x2' mn e2] 25)) (.cells #[.slice z1 mr h1, .slice z2 mn h2] 25)
        rw [World.size_alloc] at this
        rw [eW]; exact heap_alloc_lt this _
      have hF2 : wF.heap[wE.heap.size + 2]? = some (.cells #[.slice (some ⟨wE.heap.size, 0, none⟩) 1 1, .slice (some ⟨wE.heap.size + 1, 0, none⟩) 1 1] 74 (0, 0)) := by
        have := heap_alloc_same ((wE.alloc (.cells #[.slice x1 mr e1, .slice x2' mn e2] 25)).alloc (.cells #[.slice z1 mr h1, .slice z2 mn h2] 25)) (.cells #[.slice (some ⟨wE.heap.size, 0, none⟩) 1 1, .slice (some ⟨wE.heap.size + 1, 0, none⟩) 1 1] 74)
        rw [World.size_alloc, World.size_alloc] at this
        rw [eW]; exact this
      rw [← eW]
      clear eW u0 u1 v0 v1
      obtain ⟨L1, q1, q2⟩ := HX.out.1
      obtain ⟨L2, r1, r2⟩ := HZ.out.1
      have hL1 : L1.length = mn := by rw [HM.out.2.2, ← q1, List.length_map]
      have hL2 : L2.length = mn := by rw [HM.out.2.2, ← r1, List.length_map]
      have hk1 := mendU_kids H.out.2.2.2.2
      obtain ⟨hl1, hl2⟩ := mendU_len g
      have o1 : OwnG w7.heap.size wF x1 e1 x2' e2 L1 (mendU g).rules := (((q2.chg0 HQ.out.2.2.2.1).chg0 HD.out.2).under HE2.out.2.1 (fun k hk => by have := (HE2.out.2.2 k hk).2; omega)).chg0 hcF
      have o2 : OwnG wY.heap.size wF z1 h1 z2 h2 L2 (mendU g).rules := (((r2.chg0 HZ.out.2.2.2.2.2.2.2.2).chg0 HD.out.2).under HE2.out.2.1 (fun k hk => by have := (HE2.out.2.2 k hk).2; omega)).chg0 hcF
      have hAG := apartTwo_any wF w8 w3.heap.size w7.heap.size wY.heap.size wE.heap.size (wE.heap.size + 1) (wE.heap.size + 2) x1 e1 x2' e2 L1 (mendU g).rules z1 h1 z2 h2 L2 (mendU g).rules o1 q2 (by omega) o2
        (by rw [hL1, ← HM.out.2.1]; exact hF0) (by rw [hL2, ← HM.out.2.1]; exact hF1) (by omega) hF2
        ⟨by have := H.out.1.e1; have := H.out.2.2.1; omega, by have := H.out.1.e2; have := H.out.2.2.2.1; have := HM.out.2.2; omega, fun p hp => by have := hk1 p.1 (by rw [← q1]; exact List.mem_map.2 ⟨p, hp, rfl⟩); omega⟩
        ⟨by have := H.out.1.e1; have := H.out.2.2.1; omega, by have := H.out.1.e2; have := H.out.2.2.2.1; have := HM.out.2.2; omega, fun p hp => by have := hk1 p.1 (by rw [← r1]; exact List.mem_map.2 ⟨p, hp, rfl⟩); omega⟩
        (by omega) (by omega) (by have := HE2.out.1.size; omega) (by have := HE2.out.1.size; omega)
      have HF := Lib.hid (HE2.out.1.tr hcF)
      clear o1 o2 hF0 hF1 hF2 q1 q2 r1 r2 hL1 hL2 hk1 hl1 hl2 hcF h34 h47 h78 hX9 hlZ hlZ' hAZ hYX hXX hltX hltZ
      refine hAG.mono ?_
      clear hAG
      rintro e wG ⟨rfl, S2, hS2, hcG⟩
      have h3G : Chg [] w3 wG := HF.out.trans hcG (fun j hj => .inr (hS2 j hj))
      obtain ⟨x0, x1'⟩ := cells2 (h3G.heap H3.out.1 (by simp))
      obtain ⟨x2, x3⟩ := cells2 (h3G.heap H3.out.2.1 (by simp))
      have HG9 := Lib.hid h3G
      clear h3G hcG hS2
      go_wp2_with fail
      refine (HKe3.out wG HG9.out).mono ?_
      rintro e wH ⟨rfl, hcH⟩
      have HH := Lib.hid (H3.out.2.2.1.tr (HG9.out.tr hcH))
      clear hcH x0 x1' x2 x3
      go_wp2_with fail
      go_ret
      exact ⟨rfl, HH.out⟩
end Go.Proofs.YtibgfgfmljhimaaGreat

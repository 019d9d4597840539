/-
  Package seed: Copy.
  Conditions: none.
-/
import Derived.Test.YtffjfkjlahdedaaSnsSeedJ
import Derived.Test.YtffjfkjlahdedaaSnsSr1
import Derived.Test.YtffjfkjlahdedaaSnsGAny
import Derived.Test.YtffjfkjlahdedaaSnsGTail
set_option linter.unusedVariables false
set_option linter.unusedSimpArgs false
set_option linter.unnecessarySimpa false
namespace Go.Proofs.Ytffjfkjlahdedaa
open Go.RowKit Go.MapKept

set_option maxRecDepth 100000 in
set_option maxHeartbeats 800000 in
theorem clone_pairs (w : World) (a : Option Addr) (n c : Nat) (xs : List Value) (h : w.ownsRow 0 71 2 (.slice a n c) n xs) (hn : n ≤ 1000000) (h1 : ∀ u ∈ xs, u.oneCell' = true) :
    Calls Try.prog 38 #[.slice a n c] w fun r w' => ∃ a' c', r = .returned (.slice a' n c') ∧ w'.ownsRow w.heap.size 71 2 (.slice a' n c') n xs ∧ Chg [] w w' := by
  have hz := fun (w : World) (a : Option Addr) (n c : Nat) => Lib.run_eql_slice_nil (P := Try.prog) w 63 _ a n c 0 0 Try.underlying63
  obtain ⟨i0, hi, hz0, hz1, hz2⟩ := info_parts Try.infoPair
  rcases h.2 with ⟨h00, h0⟩ | ⟨g, cap, cur, h00, _, hg, hnc, hc, hs, htk⟩
  · simp only [Value.slice.injEq] at h00
    obtain ⟨rfl, rfl, rfl⟩ := h00
    have hx : xs = [] := List.eq_nil_of_length_eq_zero (by simpa using h.1)
    subst hx
    clear h
    go_enter Try.func38, Try.ntmps38
    go_wp2
    go_ret
    exact ⟨none, 0, rfl, World.ownsRow_nil _ _ _ _, Chg.refl _ _⟩
  · cases h00
    have hlen := h.1
    have hcl : ∀ j u, xs[j]? = some u → w.cell? ((⟨g, 0, none⟩ : Addr).add j) = some u := h.cells rfl
    have H2 := Lib.hid (show 0 + n ≤ maxLen ∧ (0 + n) * 16 ≤ 140737488355328 by simp only [maxLen]; omega)
    have H := Lib.hid (And.intro h (And.intro hlen (And.intro hcl h1)))
    clear h hlen hcl hg hs htk hc hnc h1
    go_enter Try.func38, Try.ntmps38
    go_wp2_with (at_builtin; refine wpList_append_own _ rfl _ _ 63 rfl w.heap.size 71 i0 _ 2 16 Try.underlying63 hi hz0 hz1 hz2 rfl (by decide) _ 0 [] rfl (World.ownsRow_made w #[] 0 (Nat.le_refl _) (by decide) rfl) ⟨g, 0, none⟩ n c xs rfl H.out.2.1 ((H.out.1.alloc _).cells rfl) H.out.2.2.2 H2.out.1 H2.out.2 (by rw [World.size_alloc]; omega) ?_; intro v' w1 hown hgrow _)
    go_ret
    rw [Nat.zero_add, List.nil_append] at hown
    obtain ⟨a', c', rfl⟩ := ownsRow_slice hown
    exact ⟨a', c', rfl, hown, ((Chg.refl _ _).alloc _).grown hgrow (fun k hk => by cases hk; exact .inr (Nat.le_refl _))⟩
theorem pairCells_one (s : St) : ∀ u ∈ pairCells s, u.oneCell' = true := by
  intro u hu
  obtain ⟨x, _, hx⟩ := List.mem_flatMap.1 hu
  simp only [List.mem_cons, List.not_mem_nil, or_false] at hx
  rcases hx with rfl | rfl <;> rfl
theorem cloneMap_any {M : Int × Int → Option Value} (w : World) (b : Nat) (h : MapIs Try.prog 71 pairV w b M) :
    Calls Try.prog 39 #[.map (some b)] w fun e w' => ∃ b', e = .returned (.map (some b')) ∧ w.heap.size ≤ b' ∧ MapIs Try.prog 71 pairV w' b' M ∧ Chg [] w w' := by
  obtain ⟨es, clock, hb, hst, hall, hhas⟩ := h
  refine (AnyW.maps_Clone Try.cloneA b es clock w hb).mono ?_
  rintro e w' ⟨rfl, rfl⟩
  exact ⟨w.heap.size, rfl, Nat.le_refl _, ⟨es, clock, heap_alloc_same _ _, hst, hall, hhas⟩, (Chg.refl [] w).alloc _⟩
def CopyP (NB : Nat) (w : World) (s : St) (e : Ending) (w' : World) : Prop :=
  ∃ b v m, e = .returned (.pointer (some ⟨b, 0, none⟩)) ∧ StoreAt NB w' b v m s ∧ (∀ k ∈ own b v m, w.heap.size ≤ k) ∧ Chg [] w w'

set_option maxRecDepth 100000 in
set_option maxHeartbeats 8000000 in
theorem copy_any {NB : Nat} (w : World) (b m : Nat) (v : Value) (s : St) (h : StoreAt NB w b v m s) (hs : s.length ≤ 1000000) :
    Calls Try.prog 22 #[.pointer (some ⟨b, 0, none⟩)] w (CopyP NB w s) := by
  obtain ⟨a, c, rfl⟩ := ownsRow_slice h.row
  obtain ⟨M, hM, hg⟩ := h.map
  obtain ⟨n, hn⟩ : ∃ n, n = s.length := ⟨_, rfl⟩
  have hrow := h.row
  rw [← hn] at hrow hs
  have x0 := cell_of_cells h.head 0
  have x1 := cell_of_cells h.head 1
  simp at x0 x1
  rw [← hn] at x0
  have hb := lt_of_block h.head
  have HH := Lib.hid (And.intro h (And.intro hn (And.intro hrow (And.intro hM hg))))
  have HX := Lib.hid (And.intro x0 x1)
  have h1 := made_yes w b m x1
  clear h hn hrow hM hg
  go_enter Try.func22, Try.ntmps22
  go_wp2_with fail
  refine h1.mono ?_
  clear h1
  rintro e w1 ⟨rfl, rfl⟩
  go_wp2_with fail
  clear x0 x1
  refine wp_region_st (by kernel_rfl) (by kernel_rfl) [6, 7, 8, 9, 10, 11, 12, 13, 14, 15, 16, 17, 18, 19, 2] (by kernel_rfl) (fun rI rV rW => match rI with | 0 => rV = .pointer (some ⟨b, 0, none⟩) | 1 => rV = .pointer (some ⟨b, 0, none⟩) | 2 => rV = .pointer (some ⟨b, 0, none⟩) | 3 => rV = .pointer (some ⟨b, 0, none⟩) | 4 => rV = .slice a n c | 5 => ∃ a11 c11, rV = .slice a11 n c11 ∧ rW.ownsRow w.heap.size 71 2 (.slice a11 n c11) n (pairCells s) | 6 => ∃ a12 c12, rV = .agg #[.slice a12 n c12] ∧ rW.ownsRow w.heap.size 71 2 (.slice a12 n c12) n (pairCells s) | 7 => rV = .pointer (some ⟨b, 0, none⟩) | 8 => rV = .pointer (some ⟨b, 0, none⟩) | 9 => rV = .pointer (some ⟨b, 1, none⟩) | 10 => rV = .map (some m) | 11 => ∃ m17, rV = .map (some m17) ∧ w.heap.size ≤ m17 ∧ MapIs Try.prog 71 pairV rW m17 M | 12 => ∃ a18 c18 m18, rV = .agg #[.slice a18 n c18, .map (some m18)] ∧ (rW.ownsRow w.heap.size 71 2 (.slice a18 n c18) n (pairCells s)) ∧ w.heap.size ≤ m18 ∧ MapIs Try.prog 71 pairV rW m18 M | 13 => ∃ b19, rV = .pointer (some ⟨b19, 0, none⟩) ∧ w.heap.size ≤ b19 ∧ ∃ a19 c19 m19, rW.heap[b19]? = some (.cells #[.slice a19 n c19, .map (some m19)] 68 (0, 0)) ∧ (rW.ownsRow w.heap.size 71 2 (.slice a19 n c19) n (pairCells s)) ∧ w.heap.size ≤ m19 ∧ MapIs Try.prog 71 pairV rW m19 M | 14 => ∃ b2, rV = .pointer (some ⟨b2, 0, none⟩) ∧ w.heap.size ≤ b2 ∧ ∃ a19 c19 m19, rW.heap[b2]? = some (.cells #[.slice a19 n c19, .map (some m19)] 68 (0, 0)) ∧ (rW.ownsRow w.heap.size 71 2 (.slice a19 n c19) n (pairCells s)) ∧ w.heap.size ≤ m19 ∧ MapIs Try.prog 71 pairV rW m19 M | _ => True) ?hS2 ?hstep2 ?hdone2
  case hS2 =>
    intro rI rV rW rW' hc rP
    match rI, rP with
    | 0, rP => exact rP
    | 1, rP => exact rP
    | 2, rP => exact rP
    | 3, rP => exact rP
    | 4, rP => exact rP
    | 5, rP => exact (by obtain ⟨a11, c11, e9, hp⟩ := rP; exact ⟨a11, c11, e9, hc.row hp (fun _ _ => by simp)⟩)
    | 6, rP => exact (by obtain ⟨a12, c12, e9, hp⟩ := rP; exact ⟨a12, c12, e9, hc.row hp (fun _ _ => by simp)⟩)
    | 7, rP => exact rP
    | 8, rP => exact rP
    | 9, rP => exact rP
    | 10, rP => exact rP
    | 11, rP => exact (by obtain ⟨m17, e9, hp⟩ := rP; exact ⟨m17, e9, ⟨hp.1, hp.2.chg hc (by simp)⟩⟩)
    | 12, rP => exact (by obtain ⟨a18, c18, m18, e9, hp⟩ := rP; exact ⟨a18, c18, m18, e9, ⟨hc.row hp.1 (fun _ _ => by simp), hp.2.1, hp.2.2.chg hc (by simp)⟩⟩)
    | 13, rP => exact (by obtain ⟨b19, e9, hp⟩ := rP; exact ⟨b19, e9, (by obtain ⟨g0, a9, c9, m9, g1, g2, g3, g4⟩ := hp; exact ⟨g0, a9, c9, m9, hc.heap g1 (by simp), hc.row g2 (fun _ _ => by simp), g3, g4.chg hc (by simp)⟩)⟩)
    | 14, rP => exact (by obtain ⟨b2, e9, hp⟩ := rP; exact ⟨b2, e9, (by obtain ⟨g0, a9, c9, m9, g1, g2, g3, g4⟩ := hp; exact ⟨g0, a9, c9, m9, hc.heap g1 (by simp), hc.row g2 (fun _ _ => by simp), g3, g4.chg hc (by simp)⟩)⟩)
    | _ + 15, _ => trivial
  case hstep2 =>
    intro rI rH us W hC hdep K hK
    have hiN : rI < 15 := rH
    simp only [actU, Act.put, List.setIfInBounds_toArray, List.set_cons_succ, List.set_cons_zero, Nat.reduceAdd] at hK ⊢
    have hx0 := hC.cell HX.out.1 (by simp)
    have hx1 := hC.cell HX.out.2 (by simp)
    rcases (show rI = 0 ∨ rI = 1 ∨ rI = 2 ∨ rI = 3 ∨ rI = 4 ∨ rI = 5 ∨ rI = 6 ∨ rI = 7 ∨ rI = 8 ∨ rI = 9 ∨ rI = 10 ∨ rI = 11 ∨ rI = 12 ∨ rI = 13 ∨ rI = 14 by omega) with rfl | rfl | rfl | rfl | rfl | rfl | rfl | rfl | rfl | rfl | rfl | rfl | rfl | rfl | rfl
    · simp only [List.getD_cons_succ, List.getD_cons_zero, List.setIfInBounds_toArray, List.set_cons_succ, List.set_cons_zero] at hK ⊢
      refine wpOp_at rfl rfl ?_
      go_simp
      exact hK _ _ _ rfl (Chg.refl _ _) rfl
    · have l0 := hdep 0 (by kernel_rfl)
      replace l0 : us 0 = .pointer (some ⟨b, 0, none⟩) := l0
      simp only [List.getD_cons_succ, List.getD_cons_zero, List.setIfInBounds_toArray, List.set_cons_succ, List.set_cons_zero, l0] at hK ⊢
      refine wpOp_at rfl rfl ?_
      go_simp
      exact hK _ _ _ rfl (Chg.refl _ _) rfl
    · have l1 := hdep 1 (by kernel_rfl)
      replace l1 : us 1 = .pointer (some ⟨b, 0, none⟩) := l1
      simp only [List.getD_cons_succ, List.getD_cons_zero, List.setIfInBounds_toArray, List.set_cons_succ, List.set_cons_zero, l1] at hK ⊢
      refine wpOp_at rfl rfl ?_
      go_simp
      exact hK _ _ _ rfl (Chg.refl _ _) rfl
    · have l2 := hdep 2 (by kernel_rfl)
      replace l2 : us 2 = .pointer (some ⟨b, 0, none⟩) := l2
      simp only [List.getD_cons_succ, List.getD_cons_zero, List.setIfInBounds_toArray, List.set_cons_succ, List.set_cons_zero, l2] at hK ⊢
      refine wpOp_at rfl rfl ?_
      go_simp
      exact hK _ _ _ rfl (Chg.refl _ _) rfl
    · have l3 := hdep 3 (by kernel_rfl)
      replace l3 : us 3 = .pointer (some ⟨b, 0, none⟩) := l3
      simp only [List.getD_cons_succ, List.getD_cons_zero, List.setIfInBounds_toArray, List.set_cons_succ, List.set_cons_zero, l3] at hK ⊢
      refine wpOp_at rfl rfl ?_
      go_simp
      exact hK _ _ _ rfl (Chg.refl _ _) rfl
    · have l4 := hdep 4 (by kernel_rfl)
      replace l4 : us 4 = .slice a n c := l4
      simp only [List.getD_cons_succ, List.getD_cons_zero, List.setIfInBounds_toArray, List.set_cons_succ, List.set_cons_zero, l4] at hK ⊢
      refine wpOp_at rfl rfl ?_
      go_simp
      refine (clone_pairs W a n c (pairCells s) (hC.row HH.out.2.2.1 (fun _ _ => by simp)) hs (pairCells_one s)).mono ?_
      rintro e wz ⟨a11, c11, rfl, f11, hz⟩
      exact hK _ _ _ rfl hz ⟨a11, c11, rfl, row_base f11 hC.size⟩
    · have l5 := hdep 5 (by kernel_rfl)
      obtain ⟨a11, c11, l5, p5⟩ := l5
      simp only [List.getD_cons_succ, List.getD_cons_zero, List.setIfInBounds_toArray, List.set_cons_succ, List.set_cons_zero, l5] at hK ⊢
      refine wpOp_at rfl rfl ?_
      go_simp
      exact hK _ _ _ rfl (Chg.refl _ _) ⟨a11, c11, rfl, p5⟩
    · simp only [List.getD_cons_succ, List.getD_cons_zero, List.setIfInBounds_toArray, List.set_cons_succ, List.set_cons_zero] at hK ⊢
      refine wpOp_at rfl rfl ?_
      go_simp
      exact hK _ _ _ rfl (Chg.refl _ _) rfl
    · have l7 := hdep 7 (by kernel_rfl)
      replace l7 : us 7 = .pointer (some ⟨b, 0, none⟩) := l7
      simp only [List.getD_cons_succ, List.getD_cons_zero, List.setIfInBounds_toArray, List.set_cons_succ, List.set_cons_zero, l7] at hK ⊢
      refine wpOp_at rfl rfl ?_
      go_simp
      exact hK _ _ _ rfl (Chg.refl _ _) rfl
    · have l8 := hdep 8 (by kernel_rfl)
      replace l8 : us 8 = .pointer (some ⟨b, 0, none⟩) := l8
      simp only [List.getD_cons_succ, List.getD_cons_zero, List.setIfInBounds_toArray, List.set_cons_succ, List.set_cons_zero, l8] at hK ⊢
      refine wpOp_at rfl rfl ?_
      go_simp
      exact hK _ _ _ rfl (Chg.refl _ _) rfl
    · have l9 := hdep 9 (by kernel_rfl)
      replace l9 : us 9 = .pointer (some ⟨b, 1, none⟩) := l9
      simp only [List.getD_cons_succ, List.getD_cons_zero, List.setIfInBounds_toArray, List.set_cons_succ, List.set_cons_zero, l9] at hK ⊢
      refine wpOp_at rfl rfl ?_
      go_simp
      exact hK _ _ _ rfl (Chg.refl _ _) rfl
    · have l10 := hdep 10 (by kernel_rfl)
      replace l10 : us 10 = .map (some m) := l10
      simp only [List.getD_cons_succ, List.getD_cons_zero, List.setIfInBounds_toArray, List.set_cons_succ, List.set_cons_zero, l10] at hK ⊢
      refine wpOp_at rfl rfl ?_
      go_simp
      refine (cloneMap_any W m (HH.out.2.2.2.1.chg hC (by simp))).mono ?_
      rintro e wz ⟨m17, rfl, f17, f18, hz⟩
      exact hK _ _ _ rfl hz ⟨m17, rfl, ⟨Nat.le_trans hC.size f17, f18⟩⟩
    · have l6 := hdep 6 (by kernel_rfl)
      obtain ⟨a12, c12, l6, p6⟩ := l6
      have l11 := hdep 11 (by kernel_rfl)
      obtain ⟨m17, l11, p11⟩ := l11
      simp only [List.getD_cons_succ, List.getD_cons_zero, List.setIfInBounds_toArray, List.set_cons_succ, List.set_cons_zero, l6, l11] at hK ⊢
      refine wpOp_at rfl rfl ?_
      go_simp
      exact hK _ _ _ rfl (Chg.refl _ _) ⟨a12, c12, m17, rfl, ⟨p6, p11⟩⟩
    · have l12 := hdep 12 (by kernel_rfl)
      obtain ⟨a18, c18, m18, l12, p12⟩ := l12
      simp only [List.getD_cons_succ, List.getD_cons_zero, List.setIfInBounds_toArray, List.set_cons_succ, List.set_cons_zero, l12] at hK ⊢
      refine wpOp_at rfl rfl ?_
      go_simp
      exact hK _ _ _ rfl ((Chg.refl _ _).alloc _) ⟨W.heap.size, rfl, ⟨hC.size, a18, c18, m18, heap_alloc_same _ _, ((Chg.refl [] W).alloc (.cells #[.slice a18 n c18, .map (some m18)] 68)).row p12.1 (fun _ _ => by simp), p12.2.1, p12.2.2.chg ((Chg.refl [] W).alloc (.cells #[.slice a18 n c18, .map (some m18)] 68)) (by simp)⟩⟩
    · have l13 := hdep 13 (by kernel_rfl)
      obtain ⟨b19, l13, p13⟩ := l13
      simp only [List.getD_cons_succ, List.getD_cons_zero, List.setIfInBounds_toArray, List.set_cons_succ, List.set_cons_zero, l13] at hK ⊢
      refine wpOp_at rfl rfl ?_
      go_simp
      exact hK _ _ _ rfl (Chg.refl _ _) ⟨b19, rfl, p13⟩
  case hdone2 =>
    intro us W hC hall
    have l0 := hall 0 (by decide)
    replace l0 : us 0 = .pointer (some ⟨b, 0, none⟩) := l0
    have l1 := hall 1 (by decide)
    replace l1 : us 1 = .pointer (some ⟨b, 0, none⟩) := l1
    have l2 := hall 2 (by decide)
    replace l2 : us 2 = .pointer (some ⟨b, 0, none⟩) := l2
    have l3 := hall 3 (by decide)
    replace l3 : us 3 = .pointer (some ⟨b, 0, none⟩) := l3
    have l4 := hall 4 (by decide)
    replace l4 : us 4 = .slice a n c := l4
    have l5 := hall 5 (by decide)
    obtain ⟨a11, c11, l5, p5⟩ := l5
    have l6 := hall 6 (by decide)
    obtain ⟨a12, c12, l6, p6⟩ := l6
    have l7 := hall 7 (by decide)
    replace l7 : us 7 = .pointer (some ⟨b, 0, none⟩) := l7
    have l8 := hall 8 (by decide)
    replace l8 : us 8 = .pointer (some ⟨b, 0, none⟩) := l8
    have l9 := hall 9 (by decide)
    replace l9 : us 9 = .pointer (some ⟨b, 1, none⟩) := l9
    have l10 := hall 10 (by decide)
    replace l10 : us 10 = .map (some m) := l10
    have l11 := hall 11 (by decide)
    obtain ⟨m17, l11, p11⟩ := l11
    have l12 := hall 12 (by decide)
    obtain ⟨a18, c18, m18, l12, p12⟩ := l12
    have l13 := hall 13 (by decide)
    obtain ⟨b19, l13, p13⟩ := l13
    have l14 := hall 14 (by decide)
    obtain ⟨b2, l14, p14⟩ := l14
    simp only [actU, Act.put, List.setIfInBounds_toArray, List.set_cons_succ, List.set_cons_zero, Nat.reduceAdd, l0, l1, l2, l3, l4, l5, l6, l7, l8, l9, l10, l11, l12, l13, l14]
    clear hall l0 l1 l2 l3 l4 l5 l6 l7 l8 l9 l10 l11 l12 l13 l14
    obtain ⟨g0, a9, c9, m9, g1, g2, g3, g4⟩ := p14
    have HP := Lib.hid (And.intro g0 (And.intro g1 (And.intro g2 (And.intro g3 (And.intro g4 hC)))))
    clear g0 g1 g2 g3 g4 hC p5 p6 p11 p12 p13
    go_wp2_with fail
    go_ret
    obtain ⟨g0, g1, g2, g3, g4, hC⟩ := HP.out
    have hn := HH.out.2.1
    refine ⟨b2, .slice a9 n c9, m9, rfl, ⟨g1, ?_, ⟨M, g4, fun q => ?_⟩, HH.out.1.keys, HH.out.1.wf, Nat.lt_of_lt_of_le HH.out.1.ban hC.size⟩, fun k hk => ?_, hC⟩
    · rw [← hn]; exact row_base g2 (Nat.zero_le _)
    · have h0 := HH.out.2.2.2.2 q
      cases hq : s.get q with
      | none => rw [hq] at h0; exact h0
      | some f =>
        rw [hq] at h0
        obtain ⟨val, h3, h4⟩ := h0
        exact ⟨val, h3, h4.keepS hC (by simp)⟩
    · simp only [own, List.mem_cons, Option.mem_toList] at hk
      rcases hk with rfl | rfl | hk
      · exact g0
      · exact g3
      · exact (row_beyond g2 hk).1
end Go.Proofs.Ytffjfkjlahdedaa

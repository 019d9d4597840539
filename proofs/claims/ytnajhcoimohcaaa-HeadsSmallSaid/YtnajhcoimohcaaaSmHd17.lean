/-
  The document's heads: the one on top is left.
  Conditions: none.
-/
import Derived.Test.YtnajhcoimohcaaaSmHd16
import Derived.Test.YtnajhcoimohcaaaSmHd10
import Derived.StillTailTactics
set_option linter.unusedVariables false
set_option linter.unusedSimpArgs false
set_option linter.unnecessarySimpa false
namespace Go.Proofs.Ytnajhcoimohcaaa
open Go.RowKit Go.MapKept

theorem RefAt.pop {NB : Nat} {w : World} {B : Nat} {a : Option Addr} {c : Nat} {l : List Rf} (h : RefAt NB w B a c l) {n : Nat} (hn : n + 1 = l.length) :
    RefAt NB (w.setCell ⟨B, 0, none⟩ (.slice a n c)) B a c (l.take n) ∧ Chg [B] w (w.setCell ⟨B, 0, none⟩ (.slice a n c)) := by
  have hcS := (Chg.refl [B] w).setCell (p := ⟨B, 0, none⟩) (.inl (by simp)) (.slice a n c)
  have hset := heap_setCell_same h.top 0 (.slice a n c)
  have hne : ∀ k ∈ [B], ∀ e, e ≠ 53 → NotRow w e k := fun k hk e he => by
    simp only [List.mem_singleton] at hk
    subst hk
    exact .of_cells h.top (fun e => he e.symm)
  obtain ⟨G, eG, -⟩ := h.at (i := n) (by omega)
  have ht := row_take h.row (m := n) (by omega) (by rw [eG]; simp)
  have e2 : (l.take n).length = n := by rw [List.length_take]; omega
  have e1 : (rfCells l).take (n * 5) = rfCells (l.take n) := by
    have h1 : rfCells l = rfCells (l.take n) ++ rfCells (l.drop n) := by rw [← rfCells_append, List.take_append_drop]
    have h2 : (rfCells (l.take n)).length = n * 5 := by rw [rfCells_len, e2]
    rw [h1, List.take_left' h2]
  rw [e1] at ht
  refine ⟨⟨?_, ?_, fun x hx => ?_, Nat.lt_of_lt_of_le h.ban hcS.size⟩, hcS⟩
  · rw [e2]; simpa using hset
  · rw [e2]; exact hcS.rowOf ht (fun k hk => hne k hk _ (by decide))
  · have := h.rows x (List.mem_of_mem_take hx)
    exact ⟨⟨hcS.rowOf this.1.1 (fun k hk => hne k hk _ (by decide)), this.1.2⟩, ⟨hcS.rowOf this.2.1 (fun k hk => hne k hk _ (by decide)), this.2.2⟩⟩
def LeaveR0 (w : World) (e : Ending) (w' : World) : Prop := e = .returned (.tuple #[.agg #[.int .i64 0, .int .i64 0, .slice none 0 0, .slice none 0 0, .bool false], .int .i64 5]) ∧ Chg [] w w'
def LeaveRP (NB : Nat) (w : World) (B : Nat) (a : Option Addr) (c : Nat) (l : List Rf) (x : Rf) (e : Ending) (w' : World) : Prop :=
  e = .returned (.tuple #[.agg #[.int .i64 x.f.rule, .int .i64 x.f.place, .slice x.ta x.f.tch.length x.tc, .slice x.ia x.f.inv.length x.ic, .bool x.f.tnt], .int .i64 0]) ∧ RefAt NB w' B a c l ∧ FreshInts 0 w' x.ta x.tc x.f.tch ∧ Chg [B] w w'
theorem cellsR5 {w : World} {b : Nat} {v0 v1 v2 v3 v4 : Value} {t : TypeId} {m : Nat × Nat} (h : w.heap[b]? = some (.cells #[v0, v1, v2, v3, v4] t m)) :
    w.cell? ⟨b, 0, none⟩ = some v0 ∧ w.cell? ⟨b, 1, none⟩ = some v1 ∧ w.cell? ⟨b, 2, none⟩ = some v2 ∧ w.cell? ⟨b, 3, none⟩ = some v3 ∧ w.cell? ⟨b, 4, none⟩ = some v4 :=
  ⟨cell_of_cells h 0, cell_of_cells h 1, cell_of_cells h 2, cell_of_cells h 3, cell_of_cells h 4⟩

theorem set5 {w : World} {b : Nat} {z0 z1 z2 z3 z4 : Value} {t : TypeId} (h : w.heap[b]? = some (.cells #[z0, z1, z2, z3, z4] t (0, 0))) (v0 v1 v2 v3 v4 : Value) :
    (((((w.setCell ⟨b, 0, none⟩ v0).setCell ⟨b, 1, none⟩ v1).setCell ⟨b, 2, none⟩ v2).setCell ⟨b, 3, none⟩ v3).setCell ⟨b, 4, none⟩ v4).heap[b]? = some (.cells #[v0, v1, v2, v3, v4] t (0, 0)) ∧
    Chg [b] w (((((w.setCell ⟨b, 0, none⟩ v0).setCell ⟨b, 1, none⟩ v1).setCell ⟨b, 2, none⟩ v2).setCell ⟨b, 3, none⟩ v3).setCell ⟨b, 4, none⟩ v4) := by
  refine ⟨?_, (((((Chg.refl [b] w).setCell (.inl (by simp)) _).setCell (.inl (by simp)) _).setCell (.inl (by simp)) _).setCell (.inl (by simp)) _).setCell (.inl (by simp)) _⟩
  have h1 := heap_setCell_same (heap_setCell_same (heap_setCell_same (heap_setCell_same (heap_setCell_same h 0 v0) 1 v1) 2 v2) 3 v3) 4 v4
  simpa using h1

set_option maxRecDepth 100000 in
set_option maxHeartbeats 4000000 in
theorem leaveR_nil {NB : Nat} (w : World) (B : Nat) (a : Option Addr) (c : Nat) (h : RefAt NB w B a c []) :
    Calls Try.prog 28 #[.pointer (some ⟨B, 0, none⟩)] w (LeaveR0 w) := by
  obtain ⟨i1, hi1, hy0, hy1, hy2⟩ := info_parts Try.infoRFrame
  have x0 := cells1 h.top
  simp only [List.length_nil] at x0
  have hBl := lt_of_block h.top
  clear h
  go_enter Try.func28, Try.ntmps28
  go_wp2_with fail
  have hnew := heap_alloc_same w (.cells #[.int .i64 0, .int .i64 0, .slice none 0 0, .slice none 0 0, .bool false] 69)
  obtain ⟨q0, q1, q2, q3, q4⟩ := cellsR5 hnew
  refine bodyPost_ret (v := .tuple #[.agg #[.int .i64 0, .int .i64 0, .slice none 0 0, .slice none 0 0, .bool false], .int .i64 5]) (by simp [results, Try.results28, go_sem, q0, q1, q2, q3, q4]) rfl ?_
  exact ⟨rfl, (Chg.refl _ _).alloc _⟩

set_option maxRecDepth 100000 in
set_option maxHeartbeats 8000000 in
theorem leaveR_any {NB : Nat} (w : World) (B : Nat) (a : Option Addr) (c : Nat) (l : List Rf) (h : RefAt NB w B a c l) (n : Nat) (hn : n + 1 = l.length) (hn9 : n ≤ 1000000) :
    Calls Try.prog 28 #[.pointer (some ⟨B, 0, none⟩)] w (LeaveRP NB w B a c (l.take n) (l[n]'(by omega))) := by
  obtain ⟨x, hx⟩ : ∃ x, x = l[n]'(by omega) := ⟨_, rfl⟩
  rw [← hx]
  obtain ⟨i1, hi1, hy0, hy1, hy2⟩ := info_parts Try.infoRFrame
  have hca := (Chg.refl [] w).alloc (.cells #[.int .i64 0, .int .i64 0, .slice none 0 0, .slice none 0 0, .bool false] 69)
  have hnew := heap_alloc_same w (.cells #[.int .i64 0, .int .i64 0, .slice none 0 0, .slice none 0 0, .bool false] 69)
  obtain ⟨wa, ea⟩ : ∃ z, z = w.alloc (.cells #[.int .i64 0, .int .i64 0, .slice none 0 0, .slice none 0 0, .bool false] 69) := ⟨_, rfl⟩
  have ha := h.chg0 hca
  rw [← ea] at hca hnew ha
  have x00 := cells1 h.top
  rw [← hn] at x00
  have hBl0 := lt_of_block h.top
  have hBa := lt_of_block ha.top
  have hwB : B < w.heap.size := hBl0
  have HH := Lib.hid (And.intro h (And.intro hn (And.intro hca (And.intro hnew (And.intro ha (⟨by omega, hx⟩ : ∃ h : n < l.length, x = l[n]))))))
  obtain ⟨⟨rule, place, tch, inv, tnt⟩, ta, tc, ia, ic⟩ := x
  have hw1 : IntKind.i64.wrap (((n + 1 : Nat) : Int) - 1) = n := by rw [show ((n + 1 : Nat) : Int) - 1 = n by omega]; exact IntWalk.i64_in _ (by omega)
  have hz0 : (((n + 1 : Nat) : Int) == 0) = false := by simp only [beq_eq_false_iff_ne, ne_eq]; omega
  clear h hn hca hnew ha hx
  go_enter Try.func28, Try.ntmps28
  go_wp2_with fail
  rw [← ea]
  clear ea x00
  have x0 := cells1 HH.out.2.2.2.2.1.top
  rw [← HH.out.2.1] at x0
  obtain ⟨hnl, hxx⟩ := HH.out.2.2.2.2.2
  obtain ⟨G, eG, hc1, hc2, z0, z1, z2, z3, z4, -, hGl, -⟩ := HH.out.2.2.2.2.1.at hnl
  subst eG
  rw [← HH.out.2.1] at hc1
  rw [← hxx] at z0 z1 z2 z3 z4
  simp only at z0 z1 z2 z3 z4
  clear hnl hxx
  have HS := Lib.hid (And.intro x0 (And.intro z0 (And.intro z1 (And.intro z2 (And.intro z3 (And.intro z4 hc1))))))
  have hwn : IntKind.i64.wrap (n : Int) = n := IntWalk.i64_in _ (by omega)
  clear x0 z0 z1 z2 z3 z4
  have hz9 : ((n : Int) + 1 == 0) = false := by simp only [beq_eq_false_iff_ne, ne_eq]; omega
  try simp only [hz9]
  refine wp_region_tail1 (by kernel_rfl) (by kernel_rfl) [12, 13, 14, 15, 16, 17, 18, 19, 20, 21, 22, 23, 4] (by kernel_rfl) (fun rI rV rW => match rI with | 0 => rV = .pointer (some ⟨B, 0, none⟩) | 1 => rV = .pointer (some ⟨B, 0, none⟩) | 2 => rV = .pointer (some ⟨B, 0, none⟩) | 3 => rV = .slice (some ⟨G, 0, none⟩) (n + 1) c | 4 => rV = .pointer (some ⟨B, 0, none⟩) | 5 => rV = .pointer (some ⟨B, 0, none⟩) | 6 => rV = .pointer (some ⟨B, 0, none⟩) | 7 => rV = .slice (some ⟨G, 0, none⟩) (n + 1) c | 8 => rV = .int .i64 ((n : Int) + 1) | 9 => rV = .int .i64 n | 10 => rV = .pointer (some ⟨G, n * 5, none⟩) | 11 => rV = .agg #[.int .i64 rule, .int .i64 place, .slice ta tch.length tc, .slice ia inv.length ic, .bool tnt] | 12 => ∃ b4, rV = .pointer (some ⟨b4, 0, none⟩) ∧ wa.heap.size ≤ b4 ∧ rW.heap[b4]? = some (.cells #[.int .i64 0, .int .i64 0, .slice none 0 0, .slice none 0 0, .bool false] 69 (0, 0)) | _ => True) ?hS2 ?hstep2 ?hdone2
  case hS2 =>
    intro rI rV rW rW' hc rP
    match rI, rP with
    | 0, rP => exact rP
    | 1, rP => exact rP
    | 2, rP => exact rP
    | 3, rP => exact rP
    | 4, rP => exact rP
    | 5, rP => exact rP
    | 6, rP => exact rP
    | 7, rP => exact rP
    | 8, rP => exact rP
    | 9, rP => exact rP
    | 10, rP => exact rP
    | 11, rP => exact rP
    | 12, rP => exact (by obtain ⟨b4, e9, hp⟩ := rP; exact ⟨b4, e9, ⟨hp.1, hc.heap hp.2 (by simp)⟩⟩)
    | _ + 13, _ => trivial
  case hstep2 =>
    intro rI rH us W hC hdep K hK
    have hiN : rI < 13 := rH
    simp only [actU, Act.put, List.setIfInBounds_toArray, List.set_cons_succ, List.set_cons_zero, Nat.reduceAdd] at hK ⊢
    have hx0 := hC.cell HS.out.1 (by simp)
    have hz0 := hC.cell HS.out.2.1 (by simp)
    have hz1 := hC.cell HS.out.2.2.1 (by simp)
    have hz2 := hC.cell HS.out.2.2.2.1 (by simp)
    have hz3 := hC.cell HS.out.2.2.2.2.1 (by simp)
    have hz4 := hC.cell HS.out.2.2.2.2.2.1 (by simp)
    have hnc := HS.out.2.2.2.2.2.2
    have hlt1 : (n : Int) < (n : Int) + 1 := by omega
    rcases (show rI = 0 ∨ rI = 1 ∨ rI = 2 ∨ rI = 3 ∨ rI = 4 ∨ rI = 5 ∨ rI = 6 ∨ rI = 7 ∨ rI = 8 ∨ rI = 9 ∨ rI = 10 ∨ rI = 11 ∨ rI = 12 by omega) with rfl | rfl | rfl | rfl | rfl | rfl | rfl | rfl | rfl | rfl | rfl | rfl | rfl
    · simp only [List.getD_cons_succ, List.getD_cons_zero, List.setIfInBounds_toArray, List.set_cons_succ, List.set_cons_zero] at hK ⊢
      refine wpOp_at rfl rfl ?_
      go_simp
      exact hK _ _ _ rfl (Chg.refl _ _) rfl
    · have l0 := hdep 0 (by kernel_rfl)
      replace l0 : us 0 = .pointer (some ⟨B, 0, none⟩) := l0
      simp only [List.getD_cons_succ, List.getD_cons_zero, List.setIfInBounds_toArray, List.set_cons_succ, List.set_cons_zero, l0] at hK ⊢
      refine wpOp_at rfl rfl ?_
      go_simp
      exact hK _ _ _ rfl (Chg.refl _ _) rfl
    · have l1 := hdep 1 (by kernel_rfl)
      replace l1 : us 1 = .pointer (some ⟨B, 0, none⟩) := l1
      simp only [List.getD_cons_succ, List.getD_cons_zero, List.setIfInBounds_toArray, List.set_cons_succ, List.set_cons_zero, l1] at hK ⊢
      refine wpOp_at rfl rfl ?_
      go_simp
      exact hK _ _ _ rfl (Chg.refl _ _) rfl
    · have l2 := hdep 2 (by kernel_rfl)
      replace l2 : us 2 = .pointer (some ⟨B, 0, none⟩) := l2
      simp only [List.getD_cons_succ, List.getD_cons_zero, List.setIfInBounds_toArray, List.set_cons_succ, List.set_cons_zero, l2] at hK ⊢
      refine wpOp_at rfl rfl ?_
      go_simp
      exact hK _ _ _ rfl (Chg.refl _ _) rfl
    · simp only [List.getD_cons_succ, List.getD_cons_zero, List.setIfInBounds_toArray, List.set_cons_succ, List.set_cons_zero] at hK ⊢
      refine wpOp_at rfl rfl ?_
      go_simp
      exact hK _ _ _ rfl (Chg.refl _ _) rfl
    · have l4 := hdep 4 (by kernel_rfl)
      replace l4 : us 4 = .pointer (some ⟨B, 0, none⟩) := l4
      simp only [List.getD_cons_succ, List.getD_cons_zero, List.setIfInBounds_toArray, List.set_cons_succ, List.set_cons_zero, l4] at hK ⊢
      refine wpOp_at rfl rfl ?_
      go_simp
      exact hK _ _ _ rfl (Chg.refl _ _) rfl
    · have l5 := hdep 5 (by kernel_rfl)
      replace l5 : us 5 = .pointer (some ⟨B, 0, none⟩) := l5
      simp only [List.getD_cons_succ, List.getD_cons_zero, List.setIfInBounds_toArray, List.set_cons_succ, List.set_cons_zero, l5] at hK ⊢
      refine wpOp_at rfl rfl ?_
      go_simp
      exact hK _ _ _ rfl (Chg.refl _ _) rfl
    · have l6 := hdep 6 (by kernel_rfl)
      replace l6 : us 6 = .pointer (some ⟨B, 0, none⟩) := l6
      simp only [List.getD_cons_succ, List.getD_cons_zero, List.setIfInBounds_toArray, List.set_cons_succ, List.set_cons_zero, l6] at hK ⊢
      refine wpOp_at rfl rfl ?_
      go_simp
      exact hK _ _ _ rfl (Chg.refl _ _) rfl
    · have l7 := hdep 7 (by kernel_rfl)
      replace l7 : us 7 = .slice (some ⟨G, 0, none⟩) (n + 1) c := l7
      simp only [List.getD_cons_succ, List.getD_cons_zero, List.setIfInBounds_toArray, List.set_cons_succ, List.set_cons_zero, l7] at hK ⊢
      refine wpOp_at rfl rfl ?_
      go_simp
      exact hK _ _ _ rfl (Chg.refl _ _) rfl
    · have l8 := hdep 8 (by kernel_rfl)
      replace l8 : us 8 = .int .i64 ((n : Int) + 1) := l8
      simp only [List.getD_cons_succ, List.getD_cons_zero, List.setIfInBounds_toArray, List.set_cons_succ, List.set_cons_zero, l8] at hK ⊢
      refine wpOp_at rfl rfl ?_
      go_simp
      exact hK _ _ _ rfl (Chg.refl _ _) rfl
    · have l3 := hdep 3 (by kernel_rfl)
      replace l3 : us 3 = .slice (some ⟨G, 0, none⟩) (n + 1) c := l3
      have l9 := hdep 9 (by kernel_rfl)
      replace l9 : us 9 = .int .i64 n := l9
      simp only [List.getD_cons_succ, List.getD_cons_zero, List.setIfInBounds_toArray, List.set_cons_succ, List.set_cons_zero, l3, l9] at hK ⊢
      refine wpOp_at rfl rfl ?_
      go_simp
      exact hK _ _ _ rfl (Chg.refl _ _) rfl
    · have l10 := hdep 10 (by kernel_rfl)
      replace l10 : us 10 = .pointer (some ⟨G, n * 5, none⟩) := l10
      simp only [List.getD_cons_succ, List.getD_cons_zero, List.setIfInBounds_toArray, List.set_cons_succ, List.set_cons_zero, l10] at hK ⊢
      refine wpOp_at rfl rfl ?_
      go_simp
      exact hK _ _ _ rfl (Chg.refl _ _) rfl
    · simp only [List.getD_cons_succ, List.getD_cons_zero, List.setIfInBounds_toArray, List.set_cons_succ, List.set_cons_zero] at hK ⊢
      refine wpOp_at rfl rfl ?_
      go_simp
      exact hK _ _ _ rfl ((Chg.refl _ _).alloc _) ⟨W.heap.size, rfl, ⟨hC.size, heap_alloc_same _ _⟩⟩
  case hdone2 =>
    intro us W hC hall
    have l0 := hall 0 (by decide)
    replace l0 : us 0 = .pointer (some ⟨B, 0, none⟩) := l0
    have l1 := hall 1 (by decide)
    replace l1 : us 1 = .pointer (some ⟨B, 0, none⟩) := l1
    have l2 := hall 2 (by decide)
    replace l2 : us 2 = .pointer (some ⟨B, 0, none⟩) := l2
    have l3 := hall 3 (by decide)
    replace l3 : us 3 = .slice (some ⟨G, 0, none⟩) (n + 1) c := l3
    have l4 := hall 4 (by decide)
    replace l4 : us 4 = .pointer (some ⟨B, 0, none⟩) := l4
    have l5 := hall 5 (by decide)
    replace l5 : us 5 = .pointer (some ⟨B, 0, none⟩) := l5
    have l6 := hall 6 (by decide)
    replace l6 : us 6 = .pointer (some ⟨B, 0, none⟩) := l6
    have l7 := hall 7 (by decide)
    replace l7 : us 7 = .slice (some ⟨G, 0, none⟩) (n + 1) c := l7
    have l8 := hall 8 (by decide)
    replace l8 : us 8 = .int .i64 ((n : Int) + 1) := l8
    have l9 := hall 9 (by decide)
    replace l9 : us 9 = .int .i64 n := l9
    have l10 := hall 10 (by decide)
    replace l10 : us 10 = .pointer (some ⟨G, n * 5, none⟩) := l10
    have l11 := hall 11 (by decide)
    replace l11 : us 11 = .agg #[.int .i64 rule, .int .i64 place, .slice ta tch.length tc, .slice ia inv.length ic, .bool tnt] := l11
    have l12 := hall 12 (by decide)
    obtain ⟨b4, l12, p12⟩ := l12
    simp only [actU, Act.put, List.setIfInBounds_toArray, List.set_cons_succ, List.set_cons_zero, Nat.reduceAdd, l0, l1, l2, l3, l4, l5, l6, l7, l8, l9, l10, l11, l12]
    clear hall l0 l1 l2 l3 l4 l5 l6 l7 l8 l9 l10 l11 l12
    have hb := p12.2
    have f0 := free_of_cells hb 0
    have f1 := free_of_cells hb 1
    have f2 := free_of_cells hb 2
    have f3 := free_of_cells hb 3
    have f4 := free_of_cells hb 4
    obtain ⟨r0, r1, r2, r3, r4⟩ := cellsR5 hb
    obtain ⟨h5, hc5⟩ := set5 hb (.int .i64 rule) (.int .i64 place) (.slice ta tch.length tc) (.slice ia inv.length ic) (.bool tnt)
    have hb4 := p12.1
    have hR := hC.heap HH.out.2.2.2.1 (by simp)
    have haW := HH.out.2.2.2.2.1.chg0 hC
    have HW := Lib.hid (And.intro h5 (And.intro hc5 (And.intro hR (And.intro haW hC))))
    clear hb p12 h5 hc5 hR haW hC
    refine wpOp_at rfl rfl ?_
    go_simp
    go_wp2_with fail
    obtain ⟨w5, e5⟩ : ∃ z, z = (((((W.setCell ⟨b4, 0, none⟩ (.int .i64 rule)).setCell ⟨b4, 1, none⟩ (.int .i64 place)).setCell ⟨b4, 2, none⟩ (.slice ta tch.length tc)).setCell ⟨b4, 3, none⟩ (.slice ia inv.length ic)).setCell ⟨b4, 4, none⟩ (.bool tnt)) := ⟨_, rfl⟩
    have hb5 := HW.out.1
    have hc5 := HW.out.2.1
    rw [← e5] at hb5 hc5 ⊢
    have hne : ∀ k, k < wa.heap.size → k ∉ [b4] := fun k hk hm => by simp only [List.mem_singleton] at hm; omega
    have hc05 : Chg [] wa w5 := HW.out.2.2.2.2.trans hc5 (fun j hj => .inr (by simp only [List.mem_singleton] at hj; omega))
    have ha5 := HH.out.2.2.2.2.1.chg0 hc05
    have hR5 := hc05.heap HH.out.2.2.2.1 (by simp)
    have x0 := cells1 ha5.top
    rw [← HH.out.2.1] at x0
    have H5 := Lib.hid (And.intro ha5 (And.intro hR5 (And.intro hb5 hc05)))
    have hnc : n ≤ c := by omega
    clear e5 hb5 hc5 hc05 ha5 hR5 f0 f1 f2 f3 f4 r0 r1 r2 r3 r4
    go_still_tail 14, (by kernel_rfl)
    change wpList _ _ _ _ _ w5.drew
    have hdw := (Chg.refl [] w5).drew
    obtain ⟨w6, e6⟩ : ∃ z, z = w5.drew := ⟨_, rfl⟩
    rw [← e6] at hdw ⊢
    have x0 := (H5.out.1.chg0 hdw).top
    have y0 := cells1 x0
    have fB := free_of_cells x0 0
    rw [← HH.out.2.1] at y0
    have hpop := (H5.out.1.chg0 hdw).pop HH.out.2.1
    obtain ⟨w7, e7⟩ : ∃ z, z = w6.setCell ⟨B, 0, none⟩ (.slice (some ⟨G, 0, none⟩) n c) := ⟨_, rfl⟩
    rw [← e7] at hpop
    have hBw : B < w.heap.size := hwB
    have hb7 := hpop.2.heap (hdw.heap H5.out.2.2.1 (by simp)) (by simp only [List.mem_singleton]; have := HH.out.2.2.1.size; omega)
    have hR7 := hpop.2.heap (hdw.heap H5.out.2.1 (by simp)) (by simp only [List.mem_singleton]; omega)
    have H7 := Lib.hid (And.intro hpop (And.intro hdw (And.intro hb7 (And.intro hR7 e7))))
    have hb6 := hdw.heap H5.out.2.2.1 (by simp)
    have hR6 := hdw.heap H5.out.2.1 (by simp)
    obtain ⟨r0, r1, r2, r3, r4⟩ := cellsR5 hb6
    obtain ⟨q0, q1, q2, q3, q4⟩ := cellsR5 hR6
    have fq0 := free_of_cells hR6 0
    have fq1 := free_of_cells hR6 1
    have fq2 := free_of_cells hR6 2
    have fq3 := free_of_cells hR6 3
    have fq4 := free_of_cells hR6 4
    have hRl := lt_of_block HH.out.2.2.2.1
    have n1 : b4 ≠ B := by have := HH.out.2.2.1.size; omega
    have n2 : B ≠ b4 := fun e => n1 e.symm
    have n3 : w.heap.size ≠ B := by omega
    have n4 : B ≠ w.heap.size := by omega
    have n5 : w.heap.size ≠ b4 := by omega
    have n6 : b4 ≠ w.heap.size := by omega
    clear e6 e7 x0 hdw hpop hb7 hR7 hb6 hR6
    go_wp2_with fail
    obtain ⟨h9, hc9⟩ := set5 H7.out.2.2.2.1 (.int .i64 rule) (.int .i64 place) (.slice ta tch.length tc) (.slice ia inv.length ic) (.bool tnt)
    rw [← H7.out.2.2.2.2]
    obtain ⟨w9, e9⟩ : ∃ z, z = (((((w7.setCell ⟨w.heap.size, 0, none⟩ (.int .i64 rule)).setCell ⟨w.heap.size, 1, none⟩ (.int .i64 place)).setCell ⟨w.heap.size, 2, none⟩ (.slice ta tch.length tc)).setCell ⟨w.heap.size, 3, none⟩ (.slice ia inv.length ic)).setCell ⟨w.heap.size, 4, none⟩ (.bool tnt)) := ⟨_, rfl⟩
    rw [← e9] at h9 hc9 ⊢
    clear q0 q1 q2 q3 q4
    obtain ⟨q0, q1, q2, q3, q4⟩ := cellsR5 h9
    refine bodyPost_ret (v := .tuple #[.agg #[.int .i64 rule, .int .i64 place, .slice ta tch.length tc, .slice ia inv.length ic, .bool tnt], .int .i64 0]) (by simp [results, Try.results28, go_sem, q0, q1, q2, q3, q4]) rfl ?_
    have hcB : Chg [B] w w9 := (((HH.out.2.2.1.tr H5.out.2.2.2).tr H7.out.2.1).any.tr H7.out.1.2).trans hc9 (fun j hj => .inr (by simp only [List.mem_singleton] at hj; omega))
    have hR9 : RefAt NB w9 B (some ⟨G, 0, none⟩) c (l.take n) := by
      have hp := H7.out.1.1
      have hGw := (row_beyond HH.out.1.row (j := G) rfl).2.1
      refine ⟨hc9.heap hp.top (by simp only [List.mem_singleton]; exact n4), hc9.row hp.row (fun k hk hm => ?_), fun x hx => ⟨⟨hc9.rowOf (hp.rows x hx).1.1 (fun k hk => ?_), (hp.rows x hx).1.2⟩, ⟨hc9.rowOf (hp.rows x hx).2.1 (fun k hk => ?_), (hp.rows x hx).2.2⟩⟩, Nat.lt_of_lt_of_le hp.ban hc9.size⟩
      · simp only [List.mem_singleton] at hm
        have hk2 : G = k := by simpa [Value.ownBlock] using hk
        omega
      · simp only [List.mem_singleton] at hk
        subst hk
        exact .of_cells H7.out.2.2.2.1 (by decide)
      · simp only [List.mem_singleton] at hk
        subst hk
        exact .of_cells H7.out.2.2.2.1 (by decide)
    obtain ⟨hnl, hxx⟩ := HH.out.2.2.2.2.2
    have hrw := (HH.out.1.rows _ (List.getElem_mem hnl)).1.1
    rw [← hxx] at hrw
    refine ⟨rfl, hR9, hcB.rowOf hrw (fun k hk => ?_), hcB⟩
    simp only [List.mem_singleton] at hk
    subst hk
    exact .of_cells HH.out.1.top (by decide)
end Go.Proofs.Ytnajhcoimohcaaa

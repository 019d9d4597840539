/-
  Package heads: the activation on top left.
  Conditions: none.
-/
import Derived.Test.YtnajhcoimohcaaaSmHd9
import Derived.Test.YtnajhcoimohcaaaSmGTail
set_option linter.unusedVariables false
set_option linter.unusedSimpArgs false
set_option linter.unnecessarySimpa false
namespace Go.Proofs.Ytnajhcoimohcaaa
open Go.RowKit Go.MapKept

theorem Try.infoLeft : (Try.prog.info? 65).map (fun i => (i.zero, i.size, i.bytes)) = some (some (.agg #[.int .i64 0, .int .i64 0, .slice none 0 0, .bool false]), 4, 48) := by kernel_rfl
def LeaveN (w : World) (no : Int) (e : Ending) (w' : World) : Prop := e = .returned (.tuple #[.agg #[.int .i64 0, .int .i64 0, .slice none 0 0, .bool false], .int .i64 no]) ∧ Chg [] w w'
def LeaveP (w : World) (B : Nat) (a : Option Addr) (c : Nat) (l : List Fr) (x : Fr) (e : Ending) (w' : World) : Prop :=
  ∃ ra rn rc, e = .returned (.tuple #[.agg #[.int .i64 x.f.rule, .int .i64 x.f.place, .slice ra rn rc, .bool x.f.tnt], .int .i64 0]) ∧ rn = x.f.tch.length ∧ FreshInts w.heap.size w' ra rc x.f.tch ∧ StackAt w' B a c l ∧ Chg [B] w w'
theorem mapsOf_take (n : Nat) (l : List Fr) : (mapsOf (l.take n)).Sublist (mapsOf l) := by
  have h := mapsOf_append (l.take n) (l.drop n)
  rw [List.take_append_drop] at h
  rw [h]
  exact List.sublist_append_left _ _
theorem cellsL4 {w : World} {b : Nat} {v0 v1 v2 v3 : Value} {t : TypeId} {m : Nat × Nat} (h : w.heap[b]? = some (.cells #[v0, v1, v2, v3] t m)) :
    w.cell? ⟨b, 0, none⟩ = some v0 ∧ w.cell? ⟨b, 1, none⟩ = some v1 ∧ w.cell? ⟨b, 2, none⟩ = some v2 ∧ w.cell? ⟨b, 3, none⟩ = some v3 :=
  ⟨cell_of_cells h 0, cell_of_cells h 1, cell_of_cells h 2, cell_of_cells h 3⟩
theorem cellsL5 {w : World} {b : Nat} {v0 v1 v2 v3 v4 : Value} {t : TypeId} {m : Nat × Nat} (h : w.heap[b]? = some (.cells #[v0, v1, v2, v3, v4] t m)) :
    w.cell? ⟨b, 0, none⟩ = some v0 ∧ w.cell? ⟨b, 1, none⟩ = some v1 ∧ w.cell? ⟨b, 2, none⟩ = some v2 ∧ w.cell? ⟨b, 3, none⟩ = some v3 ∧ w.cell? ⟨b, 4, none⟩ = some v4 :=
  ⟨cell_of_cells h 0, cell_of_cells h 1, cell_of_cells h 2, cell_of_cells h 3, cell_of_cells h 4⟩
theorem set4 {w : World} {b : Nat} {u0 u1 u2 u3 : Value} {t : TypeId} {m : Nat × Nat} (h : w.heap[b]? = some (.cells #[u0, u1, u2, u3] t m)) (v0 v1 v2 v3 : Value) :
    ((((w.setCell ⟨b, 0, none⟩ v0).setCell ⟨b, 1, none⟩ v1).setCell ⟨b, 2, none⟩ v2).setCell ⟨b, 3, none⟩ v3).heap[b]? = some (.cells #[v0, v1, v2, v3] t m) ∧
    Chg [b] w ((((w.setCell ⟨b, 0, none⟩ v0).setCell ⟨b, 1, none⟩ v1).setCell ⟨b, 2, none⟩ v2).setCell ⟨b, 3, none⟩ v3) := by
  have h0 := heap_setCell_same h 0 v0
  have h1 := heap_setCell_same h0 1 v1
  have h2 := heap_setCell_same h1 2 v2
  have h3 := heap_setCell_same h2 3 v3
  exact ⟨by simpa using h3, ((((Chg.refl [b] w).setCell (p := ⟨b, 0, none⟩) (.inl (by simp)) v0).setCell (p := ⟨b, 1, none⟩) (.inl (by simp)) v1).setCell (p := ⟨b, 2, none⟩) (.inl (by simp)) v2).setCell (p := ⟨b, 3, none⟩) (.inl (by simp)) v3⟩
/-- The one on top gone. -/
theorem StackAt.pop {w : World} {B : Nat} {a : Option Addr} {c : Nat} {l : List Fr} (h : StackAt w B a c l) {n : Nat} (hn : n + 1 = l.length) :
    StackAt (w.setCell ⟨B, 1, none⟩ (.slice a n c)) B a c (l.take n) ∧ Chg [B] w (w.setCell ⟨B, 1, none⟩ (.slice a n c)) := by
  have hcS := (Chg.refl [B] w).setCell (p := ⟨B, 1, none⟩) (.inl (by simp)) (.slice a n c)
  have hlen : (l.take n).length = n := by rw [List.length_take]; omega
  have hset := heap_setCell_same h.top 1 (.slice a n c)
  have hsub : ∀ x ∈ l.take n, x ∈ l := fun x hx => List.mem_of_mem_take hx
  have hnm : B ∉ mapsOf l := h.notMap h.top
  have hane : a ≠ none := by
    obtain ⟨G, e, _⟩ := h.at (i := n) (by omega)
    rw [e]; simp
  refine ⟨⟨?_, ?_, fun x hx => ?_, h.apart.sublist (mapsOf_take n l), fun x hx => h.wf x (hsub x hx)⟩, hcS⟩
  · rw [hlen]; simpa using hset
  · rw [hlen]
    have h1 := row_take h.row (m := n) (by omega) hane
    have e : (frCells l).take (n * 5) = frCells (l.take n) := by
      have e1 := frCells_append (l.take n) (l.drop n)
      rw [List.take_append_drop] at e1
      rw [e1, List.take_left' (by rw [frCells_len, hlen])]
    rw [e] at h1
    exact hcS.rowOf h1 (fun k hk => by simp only [List.mem_singleton] at hk; subst hk; exact .of_cells h.top (by decide))
  · have hy := h.sets x (hsub x hx)
    exact ⟨hy.1.chg hcS (fun hm => by simp only [List.mem_singleton] at hm; exact hnm (mem_mapsOf.2 ⟨x, hsub x hx, .inl hm.symm⟩)), hy.2.chg hcS (fun hm => by simp only [List.mem_singleton] at hm; exact hnm (mem_mapsOf.2 ⟨x, hsub x hx, .inr hm.symm⟩))⟩

set_option maxRecDepth 100000 in
set_option maxHeartbeats 4000000 in
theorem leaveS_nil (w : World) (B : Nat) (a : Option Addr) (c : Nat) (h : StackAt w B a c []) :
    Calls Try.prog 27 #[.pointer (some ⟨B, 0, none⟩)] w (LeaveN w 5) := by
  obtain ⟨i1, hi1, hy0, hy1, hy2⟩ := info_parts Try.infoLeft
  have hca := (Chg.refl [] w).alloc (.cells #[.int .i64 0, .int .i64 0, .slice none 0 0, .bool false] 65)
  have hnew := heap_alloc_same w (.cells #[.int .i64 0, .int .i64 0, .slice none 0 0, .bool false] 65)
  obtain ⟨wa, ea⟩ : ∃ wa, wa = w.alloc (.cells #[.int .i64 0, .int .i64 0, .slice none 0 0, .bool false] 65) := ⟨_, rfl⟩
  rw [← ea] at hca hnew
  obtain ⟨x0, x1⟩ := cells2 (h.chg0 hca).top
  have h1 := isS_any wa B true x0
  have H := Lib.hid (And.intro h (And.intro hca (And.intro hnew ea)))
  clear h hca hnew ea x0 x1
  go_enter Try.func27, Try.ntmps27
  go_wp2_with fail
  rw [← H.out.2.2.2]
  refine h1.mono ?_
  clear h1
  rintro e w1 ⟨rfl, hc1⟩
  have hb := hc1.heap H.out.2.2.1 (by simp)
  have f0 := free_of_cells hb 0
  have f1 := free_of_cells hb 1
  have f2 := free_of_cells hb 2
  have f3 := free_of_cells hb 3
  obtain ⟨r0, r1, r2, r3⟩ := cellsL4 hb
  obtain ⟨x0, x1⟩ := cells2 ((H.out.1.chg0 H.out.2.1).chg0 hc1).top
  have H1 := Lib.hid (H.out.2.1.tr hc1)
  have HB := Lib.hid hb
  clear hc1 hb
  go_wp2_with fail
  obtain ⟨h4, hc4⟩ := set4 HB.out (.int .i64 0) (.int .i64 0) (.slice none 0 0) (.bool false)
  obtain ⟨q0, q1, q2, q3⟩ := cellsL4 h4
  obtain ⟨w9, e9⟩ : ∃ w9, w9 = ((((w1.setCell ⟨w.heap.size, 0, none⟩ (.int .i64 0)).setCell ⟨w.heap.size, 1, none⟩ (.int .i64 0)).setCell ⟨w.heap.size, 2, none⟩ (.slice none 0 0)).setCell ⟨w.heap.size, 3, none⟩ (.bool false)) := ⟨_, rfl⟩
  rw [← e9] at q0 q1 q2 q3 hc4 ⊢
  refine bodyPost_ret (v := .tuple #[.agg #[.int .i64 0, .int .i64 0, .slice none 0 0, .bool false], .int .i64 5]) (by simp [results, Try.results27, go_sem, q0, q1, q2, q3]) rfl ?_
  exact ⟨rfl, H1.out.trans hc4 (fun j hj => .inr (by simp only [List.mem_singleton] at hj; omega))⟩

set_option maxRecDepth 100000 in
set_option maxHeartbeats 4000000 in
theorem leaveS_any (w : World) (B : Nat) (a : Option Addr) (c : Nat) (l : List Fr) (h : StackAt w B a c l) (n : Nat) (hn : n + 1 = l.length) (hsz : (l[n]'(by omega)).f.tch.length ≤ 1000000) :
    Calls Try.prog 27 #[.pointer (some ⟨B, 0, none⟩)] w (LeaveP w B a c (l.take n) (l[n]'(by omega))) := by
  obtain ⟨x, hx⟩ : ∃ x, x = l[n]'(by omega) := ⟨_, rfl⟩
  rw [← hx] at hsz ⊢
  have HX : Hid (∃ h : n < l.length, x = l[n]) := Lib.hid ⟨by omega, hx⟩
  obtain ⟨⟨rule, place, tch, inv, tnt⟩, bt, bi⟩ := x
  obtain ⟨i1, hi1, hy0, hy1, hy2⟩ := info_parts Try.infoLeft
  obtain ⟨i0, hi0, hz0, hz1, hz2⟩ := info_parts Try.infoFrame
  have hca := (Chg.refl [] w).alloc (.cells #[.int .i64 0, .int .i64 0, .slice none 0 0, .bool false] 65)
  have hnew := heap_alloc_same w (.cells #[.int .i64 0, .int .i64 0, .slice none 0 0, .bool false] 65)
  obtain ⟨wa, ea⟩ : ∃ wa, wa = w.alloc (.cells #[.int .i64 0, .int .i64 0, .slice none 0 0, .bool false] 65) := ⟨_, rfl⟩
  rw [← ea] at hca hnew
  obtain ⟨x0, x1⟩ := cells2 (h.chg0 hca).top
  have h1 := isS_any wa B true x0
  have H := Lib.hid (And.intro h (And.intro hca (And.intro hnew (And.intro ea (And.intro hn hsz)))))
  clear h hca hnew ea x0 x1 hx hsz hn
  go_enter Try.func27, Try.ntmps27
  go_wp2_with fail
  rw [← H.out.2.2.2.1]
  refine h1.mono ?_
  clear h1
  rintro e w1 ⟨rfl, hc1⟩
  have hb := hc1.heap H.out.2.2.1 (by simp)
  have f0 := free_of_cells hb 0
  have f1 := free_of_cells hb 1
  have f2 := free_of_cells hb 2
  have f3 := free_of_cells hb 3
  obtain ⟨r0, r1, r2, r3⟩ := cellsL4 hb
  have hs1 := (H.out.1.chg0 H.out.2.1).chg0 hc1
  obtain ⟨x0, x1⟩ := cells2 hs1.top
  obtain ⟨G, rfl, hcc1, hcc2, z0, z1, z2, z3, z4, -, hG, -⟩ := hs1.at (i := n) (by have := H.out.2.2.2.2.1; omega)
  rw [← H.out.2.2.2.2.1] at x1 hcc1
  have H1 := Lib.hid (And.intro (H.out.2.1.tr hc1) (And.intro hs1 hb))
  obtain ⟨hnl, hxx⟩ := HX.out
  rw [← hxx] at z0 z1 z2 z3 z4
  simp only at z0 z1 z2 z3 z4
  have hBl := lt_of_block hs1.top
  have fB := free_of_cells hs1.top 1
  have hsub : IntKind.i64.wrap (((n + 1 : Nat) : Int) - 1) = n := by rw [show ((n + 1 : Nat) : Int) - 1 = n by omega]; exact IntWalk.i64_in _ (by omega)
  have hn0 : decide ((n : Int) < 0) = false := decide_eq_false (by omega)
  have hnc : n ≤ c := by omega
  clear hc1 hs1 hb hnl hxx
  go_wp2_with fail
  -- BEGIN
  obtain ⟨hpop, hcp⟩ := H1.out.2.1.pop H.out.2.2.2.2.1
  obtain ⟨w2, e2⟩ : ∃ w2, w2 = w1.setCell ⟨B, 1, none⟩ (.slice (some ⟨G, 0, none⟩) n c) := ⟨_, rfl⟩
  rw [← e2] at hpop hcp ⊢
  have hsz2 : w2.heap.size = w1.heap.size := by rw [e2]; simp [World.setCell]
  have hal := (Chg.refl [] w2).alloc (.cells #[.int .i64 rule, .int .i64 place, .map (some bt), .map (some bi), .bool tnt] 83)
  have hF := heap_alloc_same w2 (.cells #[.int .i64 rule, .int .i64 place, .map (some bt), .map (some bi), .bool tnt] 83)
  rw [hsz2] at hF
  obtain ⟨ws, es⟩ : ∃ ws, ws = w2.alloc (.cells #[.int .i64 rule, .int .i64 place, .map (some bt), .map (some bi), .bool tnt] 83) := ⟨_, rfl⟩
  rw [← es] at hal hF ⊢
  have hBw := lt_of_block H.out.1.top
  obtain ⟨hnl, hxx⟩ := HX.out
  have hset := (H1.out.2.1.sets _ (List.getElem_mem hnl)).1
  rw [← hxx] at hset
  have hc12 : Chg [B] w1 ws := hcp.tr hal.any
  have hset2 : SetIs ws bt tch := hset.chg hc12 (fun hm => by
    simp only [List.mem_singleton] at hm
    exact H1.out.2.1.notMap H1.out.2.1.top (mem_mapsOf.2 ⟨_, List.getElem_mem hnl, .inl (by rw [← hxx]; exact hm.symm)⟩))
  have hR := hc12.heap H1.out.2.2 (by simp only [List.mem_singleton]; omega)
  have HS := Lib.hid (And.intro hset2 (And.intro H.out.2.2.2.2.2 (And.intro hBw (And.intro hR (And.intro (hpop.chg0 hal) (H1.out.1.any.tr hc12))))))
  have HF := Lib.hid hF
  clear hpop hcp e2 hsz2 hal hF es hBw hnl hxx hset hc12 hset2 hR x0 x1 z0 z1 z2 z3 z4 r0 r1 r2 r3 f0 f1 f2 f3 fB
  refine wp_region_tail2 (by kernel_rfl) (by kernel_rfl) [35, 36, 37, 38, 39, 40, 41, 42] (by kernel_rfl) (fun rI rV rW => match rI with | 0 => rV = .pointer (some ⟨w1.heap.size, 0, none⟩) | 1 => rV = .agg #[.int .i64 rule, .int .i64 place] | 2 => rV = .pointer (some ⟨w1.heap.size, 2, none⟩) | 3 => rV = .map (some bt) | 4 => ∃ r39 c39, rV = .slice r39 tch.length c39 ∧ FreshInts ws.heap.size rW r39 c39 tch | 5 => rV = .pointer (some ⟨w1.heap.size, 4, none⟩) | 6 => rV = .bool tnt | 7 => ∃ r42 c42, rV = .agg #[.int .i64 rule, .int .i64 place, .slice r42 tch.length c42, .bool tnt] ∧ FreshInts ws.heap.size rW r42 c42 tch | _ => True) ?hS2 ?hstep2 ?hdone2
  case hS2 =>
    intro rI rV rW rW' hc rP
    match rI, rP with
    | 0, rP => exact rP
    | 1, rP => exact rP
    | 2, rP => exact rP
    | 3, rP => exact rP
    | 4, rP => exact (by obtain ⟨r39, c39, e9, hp⟩ := rP; exact ⟨r39, c39, e9, hc.row hp (fun _ _ => by simp)⟩)
    | 5, rP => exact rP
    | 6, rP => exact rP
    | 7, rP => exact (by obtain ⟨r42, c42, e9, hp⟩ := rP; exact ⟨r42, c42, e9, hc.row hp (fun _ _ => by simp)⟩)
    | _ + 8, _ => trivial
  case hstep2 =>
    intro rI rH us W hC hdep K hK
    have hiN : rI < 8 := rH
    simp only [actU, Act.put, List.setIfInBounds_toArray, List.set_cons_succ, List.set_cons_zero, Nat.reduceAdd] at hK ⊢
    obtain ⟨g0, g1, g2, g3, g4⟩ := cellsL5 (hC.heap HF.out (by simp))
    rcases (show rI = 0 ∨ rI = 1 ∨ rI = 2 ∨ rI = 3 ∨ rI = 4 ∨ rI = 5 ∨ rI = 6 ∨ rI = 7 by omega) with rfl | rfl | rfl | rfl | rfl | rfl | rfl | rfl
    · simp only [List.getD_cons_succ, List.getD_cons_zero, List.setIfInBounds_toArray, List.set_cons_succ, List.set_cons_zero] at hK ⊢
      refine wpOp_at rfl rfl ?_
      go_simp
      exact hK _ _ _ rfl (Chg.refl _ _) rfl
    · have l0 := hdep 0 (by kernel_rfl)
      replace l0 : us 0 = .pointer (some ⟨w1.heap.size, 0, none⟩) := l0
      simp only [List.getD_cons_succ, List.getD_cons_zero, List.setIfInBounds_toArray, List.set_cons_succ, List.set_cons_zero, l0] at hK ⊢
      refine wpOp_at rfl rfl ?_
      go_simp
      exact hK _ _ _ rfl (Chg.refl _ _) rfl
    · simp only [List.getD_cons_succ, List.getD_cons_zero, List.setIfInBounds_toArray, List.set_cons_succ, List.set_cons_zero] at hK ⊢
      refine wpOp_at rfl rfl ?_
      go_simp
      exact hK _ _ _ rfl (Chg.refl _ _) rfl
    · have l2 := hdep 2 (by kernel_rfl)
      replace l2 : us 2 = .pointer (some ⟨w1.heap.size, 2, none⟩) := l2
      simp only [List.getD_cons_succ, List.getD_cons_zero, List.setIfInBounds_toArray, List.set_cons_succ, List.set_cons_zero, l2] at hK ⊢
      refine wpOp_at rfl rfl ?_
      go_simp
      exact hK _ _ _ rfl (Chg.refl _ _) rfl
    · have l3 := hdep 3 (by kernel_rfl)
      replace l3 : us 3 = .map (some bt) := l3
      simp only [List.getD_cons_succ, List.getD_cons_zero, List.setIfInBounds_toArray, List.set_cons_succ, List.set_cons_zero, l3] at hK ⊢
      refine wpOp_at rfl rfl ?_
      go_simp
      refine (rising_any W bt tch (HS.out.1.chg0 hC) HS.out.2.1).mono ?_
      rintro e wz ⟨r39, c39, rfl, f39, hz⟩
      exact hK _ _ _ rfl hz ⟨r39, c39, rfl, row_base f39 hC.size⟩
    · simp only [List.getD_cons_succ, List.getD_cons_zero, List.setIfInBounds_toArray, List.set_cons_succ, List.set_cons_zero] at hK ⊢
      refine wpOp_at rfl rfl ?_
      go_simp
      exact hK _ _ _ rfl (Chg.refl _ _) rfl
    · have l5 := hdep 5 (by kernel_rfl)
      replace l5 : us 5 = .pointer (some ⟨w1.heap.size, 4, none⟩) := l5
      simp only [List.getD_cons_succ, List.getD_cons_zero, List.setIfInBounds_toArray, List.set_cons_succ, List.set_cons_zero, l5] at hK ⊢
      refine wpOp_at rfl rfl ?_
      go_simp
      exact hK _ _ _ rfl (Chg.refl _ _) rfl
    · have l1 := hdep 1 (by kernel_rfl)
      replace l1 : us 1 = .agg #[.int .i64 rule, .int .i64 place] := l1
      have l4 := hdep 4 (by kernel_rfl)
      obtain ⟨r39, c39, l4, p4⟩ := l4
      have l6 := hdep 6 (by kernel_rfl)
      replace l6 : us 6 = .bool tnt := l6
      simp only [List.getD_cons_succ, List.getD_cons_zero, List.setIfInBounds_toArray, List.set_cons_succ, List.set_cons_zero, l1, l4, l6] at hK ⊢
      refine wpOp_at rfl rfl ?_
      go_simp
      exact hK _ _ _ rfl (Chg.refl _ _) ⟨r39, c39, rfl, p4⟩
  case hdone2 =>
    intro us W hC hall
    have l0 := hall 0 (by decide)
    replace l0 : us 0 = .pointer (some ⟨w1.heap.size, 0, none⟩) := l0
    have l1 := hall 1 (by decide)
    replace l1 : us 1 = .agg #[.int .i64 rule, .int .i64 place] := l1
    have l2 := hall 2 (by decide)
    replace l2 : us 2 = .pointer (some ⟨w1.heap.size, 2, none⟩) := l2
    have l3 := hall 3 (by decide)
    replace l3 : us 3 = .map (some bt) := l3
    have l4 := hall 4 (by decide)
    obtain ⟨r39, c39, l4, p4⟩ := l4
    have l5 := hall 5 (by decide)
    replace l5 : us 5 = .pointer (some ⟨w1.heap.size, 4, none⟩) := l5
    have l6 := hall 6 (by decide)
    replace l6 : us 6 = .bool tnt := l6
    have l7 := hall 7 (by decide)
    obtain ⟨r42, c42, l7, p7⟩ := l7
    simp only [actU, Act.put, List.setIfInBounds_toArray, List.set_cons_succ, List.set_cons_zero, Nat.reduceAdd, l0, l1, l2, l3, l4, l5, l6, l7]
    clear hall l0 l1 l2 l3 l4 l5 l6 l7
    have hb := hC.heap HS.out.2.2.2.1 (by simp)
    have f0 := free_of_cells hb 0
    have f1 := free_of_cells hb 1
    have f2 := free_of_cells hb 2
    have f3 := free_of_cells hb 3
    obtain ⟨r0, r1, r2, r3⟩ := cellsL4 hb
    obtain ⟨h4, hc4⟩ := set4 hb (.int .i64 rule) (.int .i64 place) (.slice r42 tch.length c42) (.bool tnt)
    obtain ⟨q0, q1, q2, q3⟩ := cellsL4 h4
    have hcW := HS.out.2.2.2.2.2.tr hC.any
    have HW := Lib.hid (And.intro hcW (And.intro p7 (And.intro ((HS.out.2.2.2.2.1.chg0 hC)) hc4)))
    clear hb p7 p4 hC h4 hc4 hcW
    refine wpOp_at rfl rfl ?_
    go_simp
    refine wpOp_at rfl rfl ?_
    go_simp
    go_wp2_with fail
    obtain ⟨w9, e9⟩ : ∃ w9, w9 = ((((W.setCell ⟨w.heap.size, 0, none⟩ (.int .i64 rule)).setCell ⟨w.heap.size, 1, none⟩ (.int .i64 place)).setCell ⟨w.heap.size, 2, none⟩ (.slice r42 tch.length c42)).setCell ⟨w.heap.size, 3, none⟩ (.bool tnt)) := ⟨_, rfl⟩
    have hc4 := HW.out.2.2.2
    rw [← e9] at q0 q1 q2 q3 hc4 ⊢
    refine bodyPost_ret (v := .tuple #[.agg #[.int .i64 rule, .int .i64 place, .slice r42 tch.length c42, .bool tnt], .int .i64 0]) (by simp [results, Try.results27, go_sem, q0, q1, q2, q3]) rfl ?_
    have hwB := lt_of_block H.out.1.top
    have hsz0 : w.heap.size ≤ ws.heap.size := HS.out.2.2.2.2.2.size
    refine ⟨r42, _, c42, rfl, rfl, ?_, HW.out.2.2.1.chg hc4 (fun x hx hm => ?_), HW.out.1.trans hc4 (fun j hj => .inr (by simp only [List.mem_singleton] at hj; omega))⟩
    · refine hc4.row (row_base HW.out.2.1 hsz0) (fun k hk hm => ?_)
      simp only [List.mem_singleton] at hm
      have := (row_beyond HW.out.2.1 hk).1
      have := lt_of_block HS.out.2.2.2.1
      omega
    · simp only [List.mem_singleton] at hm
      subst hm
      have h7 := (H.out.1.pop H.out.2.2.2.2.1).1.fpLt hx
      simp [World.setCell] at h7
end Go.Proofs.Ytnajhcoimohcaaa

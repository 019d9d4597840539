/-
  Package heads: of no stack (nil, or one that was not made).
  Conditions: none.
-/
import Derived.Test.YtnajhcoimohcaaaSmHd26
set_option linter.unusedVariables false
set_option linter.unusedSimpArgs false
set_option linter.unnecessarySimpa false
namespace Go.Proofs.Ytnajhcoimohcaaa
open Go.RowKit Go.MapKept

/-- No stack. -/
def NoS (w : World) (v : Option Addr) : Prop := v = none ∨ ∃ B, v = some ⟨B, 0, none⟩ ∧ w.cell? ⟨B, 0, none⟩ = some (.bool false)
theorem NoS.chg0 {w w' : World} {v : Option Addr} (h : NoS w v) (hc : Chg [] w w') : NoS w' v := by
  rcases h with h | ⟨B, h, h2⟩
  · exact .inl h
  · exact .inr ⟨B, h, hc.cell h2 (by simp)⟩
theorem isS_no (w : World) (v : Option Addr) (h : NoS w v) : Calls Try.prog 39 #[.pointer v] w fun e w' => e = .returned (.bool false) ∧ Chg [] w w' := by
  rcases h with rfl | ⟨B, rfl, h⟩
  · exact isS_nil w
  · exact isS_any w B false h
set_option maxRecDepth 100000 in
set_option maxHeartbeats 1000000 in
theorem enterS_no (w : World) (v : Option Addr) (h : NoS w v) (r p : Int) : Calls Try.prog 21 #[.pointer v, .int .i64 r, .int .i64 p] w fun e w' => e = .returned (.int .i64 1) ∧ Chg [] w w' := by
  have h1 := isS_no w v h
  clear h
  go_enter Try.func21, Try.ntmps21
  go_wp2_with fail
  refine h1.mono ?_
  clear h1
  rintro e w1 ⟨rfl, hc1⟩
  go_wp2_with fail
  go_ret
  exact ⟨rfl, hc1⟩
set_option maxRecDepth 100000 in
set_option maxHeartbeats 1000000 in
theorem readS_no (w : World) (v : Option Addr) (h : NoS w v) (r p : Int) : Calls Try.prog 23 #[.pointer v, .int .i64 r, .int .i64 p] w fun e w' => e = .returned (.int .i64 1) ∧ Chg [] w w' := by
  have h1 := isS_no w v h
  clear h
  go_enter Try.func23, Try.ntmps23
  go_wp2_with fail
  refine h1.mono ?_
  clear h1
  rintro e w1 ⟨rfl, hc1⟩
  go_wp2_with fail
  go_ret
  exact ⟨rfl, hc1⟩
set_option maxRecDepth 100000 in
set_option maxHeartbeats 1000000 in
theorem useS_no (w : World) (v : Option Addr) (h : NoS w v) (p : Int) : Calls Try.prog 25 #[.pointer v, .int .i64 p, .slice none 0 0] w fun e w' => e = .returned (.int .i64 1) ∧ Chg [] w w' := by
  have h1 := isS_no w v h
  clear h
  go_enter Try.func25, Try.ntmps25
  go_wp2_with fail
  refine h1.mono ?_
  clear h1
  rintro e w1 ⟨rfl, hc1⟩
  go_wp2_with fail
  go_ret
  exact ⟨rfl, hc1⟩
set_option maxRecDepth 100000 in
set_option maxHeartbeats 1000000 in
theorem involvedS_no (w : World) (v : Option Addr) (h : NoS w v) (r p : Int) : Calls Try.prog 11 #[.pointer v, .int .i64 r, .int .i64 p] w fun e w' => e = .returned (.slice none 0 0) ∧ Chg [] w w' := by
  have h1 := isS_no w v h
  clear h
  go_enter Try.func11, Try.ntmps11
  go_wp2_with fail
  refine h1.mono ?_
  clear h1
  rintro e w1 ⟨rfl, hc1⟩
  go_wp2_with fail
  go_ret
  exact ⟨rfl, hc1⟩
set_option maxRecDepth 100000 in
set_option maxHeartbeats 1000000 in
theorem pairsS_no (w : World) (v : Option Addr) (h : NoS w v) : Calls Try.prog 54 #[.pointer v] w fun e w' => e = .returned (.slice none 0 0) ∧ Chg [] w w' := by
  have h1 := isS_no w v h
  clear h
  go_enter Try.func54, Try.ntmps54
  go_wp2_with fail
  refine h1.mono ?_
  clear h1
  rintro e w1 ⟨rfl, hc1⟩
  go_wp2_with fail
  go_ret
  exact ⟨rfl, hc1⟩
set_option maxRecDepth 100000 in
set_option maxHeartbeats 1000000 in
theorem copyS_no (w : World) (v : Option Addr) (h : NoS w v) : Calls Try.prog 30 #[.pointer v] w fun e w' => e = .returned (.pointer none) ∧ Chg [] w w' := by
  have h1 := isS_no w v h
  clear h
  go_enter Try.func30, Try.ntmps30
  go_wp2_with fail
  refine h1.mono ?_
  clear h1
  rintro e w1 ⟨rfl, hc1⟩
  go_wp2_with fail
  go_ret
  exact ⟨rfl, hc1⟩
set_option maxRecDepth 100000 in
set_option maxHeartbeats 1000000 in
theorem freeS_no (w : World) (v : Option Addr) (h : NoS w v) (p : Int) : Calls Try.prog 17 #[.pointer v, .int .i64 p, .slice none 0 0] w fun e w' => e = .returned (.bool false) ∧ Chg [] w w' := by
  have hca := ((Chg.refl [] w).alloc (.cells #[.pointer v] 25)).alloc (.cells #[.int .i64 p] 3)
  have g1 := heap_alloc_lt (heap_alloc_same w (.cells #[.pointer v] 25)) (.cells #[.int .i64 p] 3)
  have h1 := isS_no _ v (h.chg0 hca)
  obtain ⟨w0, e0⟩ : ∃ w0, w0 = (w.alloc (.cells #[.pointer v] 25)).alloc (.cells #[.int .i64 p] 3) := ⟨_, rfl⟩
  rw [← e0] at hca h1 g1
  have hcells := cells1 g1
  have H := Lib.hid (And.intro hca e0)
  clear h hca g1 e0
  go_enter Try.func17, Try.ntmps17
  go_wp2_with fail
  rw [← H.out.2]
  refine h1.mono ?_
  clear h1 hcells
  rintro e w1 ⟨rfl, hc1⟩
  go_wp2_with fail
  go_ret
  exact ⟨rfl, H.out.1.tr hc1⟩
set_option maxRecDepth 100000 in
set_option maxHeartbeats 1000000 in
theorem taintedS_no (w : World) (v : Option Addr) (h : NoS w v) : Calls Try.prog 13 #[.pointer v] w fun e w' => e = .returned (.bool false) ∧ Chg [] w w' := by
  have cA := calls_rg (w := w) (fun w1 h1 => isS_no w1 v (h.chg0 h1))
  clear h
  go_enter Try.func13, Try.ntmps13
  go_wp2_with fail
  refine wp_region_quiet_below (by kernel_rfl) (by kernel_rfl) ?_
  repeat (go_big_quiet_step (with_reducible exact cA _ _))
  refine wpQuiet_nil ?_
  intro w4 hw4
  have HW := Lib.hid (chg_of_rg hw4)
  clear hw4 cA
  go_wp2_with fail
  go_ret
  exact ⟨rfl, HW.out⟩
set_option maxRecDepth 100000 in
set_option maxHeartbeats 4000000 in
theorem leaveS_no (w : World) (v : Option Addr) (h : NoS w v) : Calls Try.prog 27 #[.pointer v] w (LeaveN w 1) := by
  obtain ⟨i1, hi1, hy0, hy1, hy2⟩ := info_parts Try.infoLeft
  have hca := (Chg.refl [] w).alloc (.cells #[.int .i64 0, .int .i64 0, .slice none 0 0, .bool false] 65)
  have hnew := heap_alloc_same w (.cells #[.int .i64 0, .int .i64 0, .slice none 0 0, .bool false] 65)
  obtain ⟨wa, ea⟩ : ∃ wa, wa = w.alloc (.cells #[.int .i64 0, .int .i64 0, .slice none 0 0, .bool false] 65) := ⟨_, rfl⟩
  rw [← ea] at hca hnew
  have h1 := isS_no wa v (h.chg0 hca)
  have H := Lib.hid (And.intro hca (And.intro hnew ea))
  clear h hca hnew ea
  go_enter Try.func27, Try.ntmps27
  go_wp2_with fail
  rw [← H.out.2.2]
  refine h1.mono ?_
  clear h1
  rintro e w1 ⟨rfl, hc1⟩
  have hb := hc1.heap H.out.2.1 (by simp)
  have f0 := free_of_cells hb 0
  have f1 := free_of_cells hb 1
  have f2 := free_of_cells hb 2
  have f3 := free_of_cells hb 3
  obtain ⟨r0, r1, r2, r3⟩ := cellsL4 hb
  have H1 := Lib.hid (H.out.1.tr hc1)
  have HB := Lib.hid hb
  clear hc1 hb
  go_wp2_with fail
  obtain ⟨h4, hc4⟩ := set4 HB.out (.int .i64 0) (.int .i64 0) (.slice none 0 0) (.bool false)
  obtain ⟨q0, q1, q2, q3⟩ := cellsL4 h4
  obtain ⟨w9, e9⟩ : ∃ w9, w9 = ((((w1.setCell ⟨w.heap.size, 0, none⟩ (.int .i64 0)).setCell ⟨w.heap.size, 1, none⟩ (.int .i64 0)).setCell ⟨w.heap.size, 2, none⟩ (.slice none 0 0)).setCell ⟨w.heap.size, 3, none⟩ (.bool false)) := ⟨_, rfl⟩
  rw [← e9] at q0 q1 q2 q3 hc4 ⊢
  refine bodyPost_ret (v := .tuple #[.agg #[.int .i64 0, .int .i64 0, .slice none 0 0, .bool false], .int .i64 1]) (by simp [results, Try.results27, go_sem, q0, q1, q2, q3]) rfl ?_
  exact ⟨rfl, H1.out.trans hc4 (fun j hj => .inr (by simp only [List.mem_singleton] at hj; omega))⟩
end Go.Proofs.Ytnajhcoimohcaaa

/-
  Package seed: of no store (nil, or one that was not made).
  Conditions: none.
-/
import Derived.Test.YtffjfkjlahdedaaSnsSs0
set_option linter.unusedVariables false
set_option linter.unusedSimpArgs false
set_option linter.unnecessarySimpa false
namespace Go.Proofs.Ytffjfkjlahdedaa
open Go.RowKit Go.MapKept

/-- No store. -/
def NoT (w : World) (v : Option Addr) : Prop := v = none ∨ ∃ B, v = some ⟨B, 0, none⟩ ∧ w.cell? ⟨B, 1, none⟩ = some (.map none)
theorem NoT.chg0 {w w' : World} {v : Option Addr} (h : NoT w v) (hc : Chg [] w w') : NoT w' v := by
  rcases h with h | ⟨B, h, h2⟩
  · exact .inl h
  · exact .inr ⟨B, h, hc.cell h2 (by simp)⟩
set_option maxRecDepth 100000 in
set_option maxHeartbeats 400000 in
theorem made_no (w : World) (v : Option Addr) (h : NoT w v) : Calls Try.prog 26 #[.pointer v] w fun e w' => e = .returned (.bool false) ∧ w = w' := by
  rcases h with rfl | ⟨B, rfl, h⟩
  · go_enter Try.func26, Try.ntmps26
    go_wp2
    go_ret
    exact ⟨rfl, rfl⟩
  · have q := fun (w : World) (r : Option Nat) => run_neq_map_nil (P := Try.prog) w _ _ _ r Try.underlying66
    go_enter Try.func26, Try.ntmps26
    go_wp2
    go_ret
    exact ⟨rfl, rfl⟩
set_option maxRecDepth 100000 in
set_option maxHeartbeats 1000000 in
theorem beginT_no (w : World) (v : Option Addr) (h : NoT w v) (r p : Int) : Calls Try.prog 9 #[.pointer v, .int .i64 r, .int .i64 p] w fun e w' => e = .returned (.int .i64 1) ∧ Chg [] w w' := by
  have h1 := fun W (hc : Chg [] w W) => made_no W v (h.chg0 hc)
  have HH := Lib.hid h1
  have h2 := h1 w (Chg.refl _ _)
  clear h h1
  go_enter Try.func9, Try.ntmps9
  go_wp2_with fail
  refine h2.mono ?_
  clear h2
  rintro e w1 ⟨rfl, rfl⟩
  go_wp2_with fail
  go_ret
  exact ⟨rfl, Chg.refl _ _⟩
set_option maxRecDepth 100000 in
set_option maxHeartbeats 1000000 in
theorem readT_no (w : World) (v : Option Addr) (h : NoT w v) (r p k : Int) : Calls Try.prog 12 #[.pointer v, .int .i64 r, .int .i64 p, .int .i64 k] w fun e w' => e = .returned (.tuple #[.agg #[.int .i64 0, .int .i64 0, .slice none 0 0], .int .i64 1]) ∧ Chg [] w w' := by
  have h1 := fun W (hc : Chg [] w W) => made_no W v (h.chg0 hc)
  have HH := Lib.hid h1
  have h2 := h1 _ ((Chg.refl _ _).alloc (.cells #[.int .i64 0, .int .i64 0, .slice none 0 0] 36))
  clear h h1
  go_enter Try.func12, Try.ntmps12
  go_wp2_with fail
  refine h2.mono ?_
  clear h2
  rintro e w1 ⟨rfl, rfl⟩
  go_wp2_with fail
  refine bodyPost_ret (v := .tuple #[.agg #[.int .i64 0, .int .i64 0, .slice none 0 0], .int .i64 1]) (by simp [results, Try.results12, go_sem]) rfl ?_
  exact ⟨rfl, (Chg.refl _ _).alloc _⟩
set_option maxRecDepth 100000 in
set_option maxHeartbeats 1000000 in
theorem lastT_no (w : World) (v : Option Addr) (h : NoT w v) : Calls Try.prog 14 #[.pointer v] w fun e w' => e = .returned (.tuple #[.int .i64 0, .int .i64 0, .bool false]) ∧ Chg [] w w' := by
  have h1 := fun W (hc : Chg [] w W) => made_no W v (h.chg0 hc)
  have HH := Lib.hid h1
  have h2 := h1 w (Chg.refl _ _)
  clear h h1
  go_enter Try.func14, Try.ntmps14
  go_wp2_with fail
  refine h2.mono ?_
  clear h2
  rintro e w1 ⟨rfl, rfl⟩
  go_wp2_with fail
  refine bodyPost_ret (v := .tuple #[.int .i64 0, .int .i64 0, .bool false]) (by simp [results, Try.results14, go_sem]) rfl ?_
  exact ⟨rfl, Chg.refl _ _⟩
set_option maxRecDepth 100000 in
set_option maxHeartbeats 1000000 in
theorem liveT_no (w : World) (v : Option Addr) (h : NoT w v) (p : Int) : Calls Try.prog 15 #[.pointer v, .int .i64 p] w fun e w' => e = .returned (.slice none 0 0) ∧ Chg [] w w' := by
  have h1 := fun W (hc : Chg [] w W) => made_no W v (h.chg0 hc)
  have HH := Lib.hid h1
  have h2 := h1 w (Chg.refl _ _)
  clear h h1
  go_enter Try.func15, Try.ntmps15
  go_wp2_with fail
  refine h2.mono ?_
  clear h2
  rintro e w1 ⟨rfl, rfl⟩
  go_wp2_with fail
  go_ret
  exact ⟨rfl, Chg.refl _ _⟩
set_option maxRecDepth 100000 in
set_option maxHeartbeats 1000000 in
theorem lenT_no (w : World) (v : Option Addr) (h : NoT w v) : Calls Try.prog 13 #[.pointer v] w fun e w' => e = .returned (.int .i64 0) ∧ Chg [] w w' := by
  have h1 := fun W (hc : Chg [] w W) => made_no W v (h.chg0 hc)
  have HH := Lib.hid h1
  have h2 := h1 w (Chg.refl _ _)
  clear h h1
  go_enter Try.func13, Try.ntmps13
  go_wp2_with fail
  refine h2.mono ?_
  clear h2
  rintro e w1 ⟨rfl, rfl⟩
  go_wp2_with fail
  go_ret
  exact ⟨rfl, Chg.refl _ _⟩
set_option maxRecDepth 100000 in
set_option maxHeartbeats 1000000 in
theorem copyT_no (w : World) (v : Option Addr) (h : NoT w v) : Calls Try.prog 22 #[.pointer v] w fun e w' => e = .returned (.pointer none) ∧ Chg [] w w' := by
  have h1 := fun W (hc : Chg [] w W) => made_no W v (h.chg0 hc)
  have HH := Lib.hid h1
  have h2 := h1 w (Chg.refl _ _)
  clear h h1
  go_enter Try.func22, Try.ntmps22
  go_wp2_with fail
  refine h2.mono ?_
  clear h2
  rintro e w1 ⟨rfl, rfl⟩
  go_wp2_with fail
  go_ret
  exact ⟨rfl, Chg.refl _ _⟩
set_option maxRecDepth 100000 in
set_option maxHeartbeats 1000000 in
theorem endI_no (w : World) (v : Option Addr) (h : NoT w v) (f : Value) : Calls Try.prog 28 #[.pointer v, f] w fun e w' => e = .returned (.int .i64 1) ∧ Chg [] w w' := by
  have h1 := fun W (hc : Chg [] w W) => made_no W v (h.chg0 hc)
  have HH := Lib.hid h1
  have h2 := h1 w (Chg.refl _ _)
  clear h h1
  go_enter Try.func28, Try.ntmps28
  go_wp2_with fail
  refine h2.mono ?_
  clear h2
  rintro e w1 ⟨rfl, rfl⟩
  go_wp2_with fail
  go_ret
  exact ⟨rfl, Chg.refl _ _⟩
set_option maxRecDepth 100000 in
set_option maxHeartbeats 1000000 in
theorem endT_no (w : World) (v : Option Addr) (h : NoT w v) : Calls Try.prog 16 #[.pointer v] w fun e w' => e = .returned (.int .i64 1) ∧ Chg [] w w' := by
  have HH := Lib.hid h
  clear h
  go_enter Try.func16, Try.ntmps16
  go_wp2_with fail
  refine (endI_no _ v HH.out _).mono ?_
  rintro e w1 ⟨rfl, hc1⟩
  go_wp2_with fail
  go_ret
  exact ⟨rfl, hc1⟩
set_option maxRecDepth 100000 in
set_option maxHeartbeats 1000000 in
theorem growT_no (w : World) (v : Option Addr) (h : NoT w v) : Calls Try.prog 11 #[.pointer v, .agg #[.int .i64 0, .int .i64 0, .slice none 0 0]] w fun e w' => e = .returned (.int .i64 1) ∧ Chg [] w w' := by
  have hc : Chg [] w ((w.alloc (.cells #[.pointer v] 24)).alloc (.cells #[.int .i64 0, .int .i64 0, .slice none 0 0] 36)) := ((Chg.refl _ _).alloc _).alloc _
  have HH := Lib.hid (And.intro (h.chg0 hc) hc)
  clear h hc
  go_enter Try.func11, Try.ntmps11
  go_wp2_with fail
  refine (endI_no _ v HH.out.1 _).mono ?_
  rintro e w1 ⟨rfl, hc1⟩
  go_wp2_with fail
  go_ret
  exact ⟨rfl, HH.out.2.tr hc1⟩
end Go.Proofs.Ytffjfkjlahdedaa

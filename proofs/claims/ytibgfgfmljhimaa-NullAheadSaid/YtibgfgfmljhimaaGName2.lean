/-
  Names: the walks of the program's test and of the document's.
  Conditions: the text is no longer than a slice can be.
-/
import Derived.Test.YtibgfgfmljhimaaGName
import Derived.Lib.Strings
import Derived.Deep.DrawnRows
set_option linter.unusedVariables false
set_option linter.unusedSimpArgs false
namespace Go.Proofs.Ytibgfgfmljhimaa
open Go.RowKit Go.MapKept Go.Proofs Go.Lib
attribute [local go_sem ↓] Go.wp_at_zero Go.wp_at_succ

theorem odd_idx (w : World) (s : ByteArray) (B : Nat) (hB : B < w.heap.size) (hc : w.cell? ⟨B, 0, none⟩ = some (.func (.func 81) #[] #[])) :
    Calls Try.prog 83 #[.string s, .func (.func 82) #[] #[.pointer (some ⟨B, 0, none⟩)]] w fun e w' => e = .returned (.int .i64 (Lib.idxFunc oddN true s)) ∧ Chg [] w w' :=
  (Try.strings_IndexFunc 82 _ (enters_of Try.func82 (by kernel_rfl) rfl) oddN s w (odd_at w B hB hc)).mono fun _ _ ⟨h1, h2⟩ => ⟨h1, .of_below h2⟩

theorem letter_chg (r : Int) (w : World) : Calls Try.prog 81 #[.int .i32 r] w fun e w' => e = .returned (.bool (letR r)) ∧ Chg [] w w' :=
  (letter_any r w).mono fun e w' h => ⟨h.1, h.2 ▸ Chg.refl [] w⟩

set_option maxRecDepth 100000 in
set_option maxHeartbeats 1000000 in
theorem Name_any (s : ByteArray) (w : World) (hs : s.size ≤ maxLen) : Calls Try.prog 21 #[.string s] w fun e w' => e = .returned (.bool (nameB s)) ∧ Chg [] w w' := by
  unfold maxLen at hs
  by_cases h0 : s.size = 0
  · have hb := name_empty h0
    have hd : s.toList = [] := by
      have : s.toList.length = 0 := by rw [Lib.toList_data]; simpa using h0
      exact List.eq_nil_of_length_eq_zero this
    have hd2 : s.toList.isEmpty = true := by rw [hd]; rfl
    rw [hb]
    clear hb h0
    go_enter Try.func21, Try.ntmps21
    go_wp2_with fail
    go_quiet (fail)
    all_goals go_wp2
    all_goals go_ret
    all_goals exact ⟨rfl, ((Chg.refl _ _).alloc _).drewN _⟩
  · have hd : ¬ s.toList = [] := by
      rw [Lib.toList_data]
      intro h
      have := congrArg List.length h
      exact h0 (by simpa using this)
    have hd2 : s.toList.isEmpty = false := by simpa using hd
    have hb := nameB_eq (s := s) (by omega)
    by_cases hl : s.size ≤ 32
    · obtain ⟨I, hI⟩ : ∃ I, Lib.idxFunc oddN true s = I := ⟨_, rfl⟩
      rw [hI] at hb
      have hl2 : decide ((s.size : Int) ≤ 32) = true := by simp; omega
      have hsz : 0 < s.size := by omega
      have HB := Lib.hid (And.intro hb hI)
      clear hb hI
      have hx : decide (I < 0) = true ∨ decide (I < 0) = false := by cases decide (I < 0) <;> simp
      rcases hx with hx | hx
      all_goals
        go_enter Try.func21, Try.ntmps21
        go_wp2_with fail
        have hc0 := cells1 (heap_alloc_same w (.cells #[.func (.func 81) #[] #[]] 82))
        have kc := cell_rg hc0
        have cI := calls_rg (w := w.alloc (.cells #[.func (.func 81) #[] #[]] 82)) (fun w1 h1 => odd_idx w1 s w.heap.size (Nat.lt_of_lt_of_le (by simp) h1.size) (h1.cell hc0 List.not_mem_nil))
        have cL := fun r => calls_rg (w := w.alloc (.cells #[.func (.func 81) #[] #[]] 82)) (fun w1 _ => letter_chg r w1)
        rw [HB.out.2] at cI
        clear hc0
        refine wp_region_quiet_below (by kernel_rfl) (by kernel_rfl) ?_
        repeat (go_big_quiet_step (first | (with_reducible exact cI _ _) | (with_reducible exact cL _ _ _)))
        refine wpQuiet_nil ?_
        intro w1 hw'
        have h1 := Lib.hid (chg_of_rg hw')
        clear hw'
        go_wp2
        go_ret
        refine ⟨ret_bool ?_, ((Chg.refl _ _).alloc _).tr h1.out⟩
        have hw : wrap32 ((s[0]'hsz).toNat : Int) = ((s[0]'hsz).toNat : Int) := by have := (s[0]'hsz).toNat_lt; unfold wrap32; omega
        rw [HB.out.1, hx]
        try rw [hw]
        simp [hl]
    · have hl2 : decide ((s.size : Int) ≤ 32) = false := by simp; omega
      have hb2 : nameB s = false := by rw [hb]; simp [hl]
      rw [hb2]
      clear hb hb2
      go_enter Try.func21, Try.ntmps21
      go_wp2_with fail
      go_quiet (fail)
      all_goals go_wp2
      all_goals go_ret
      all_goals exact ⟨rfl, ((Chg.refl _ _).alloc _).drewN _⟩
end Go.Proofs.Ytibgfgfmljhimaa

/-
  The kit: a number of so many.
  Conditions: there is one at least.
-/
import Derived.Test.YtlklmpjakeedcaaGreatDoorSTlGRule
import Derived.Test.YtlklmpjakeedcaaGreatDoorSTlSoT
import Derived.Test.YtlklmpjakeedcaaGreatDoorSTlSo9
import Derived.Test.YtlklmpjakeedcaaGreatDoorSTlWeR
import Derived.Test.YtlklmpjakeedcaaGreatDoorSTlGCopy
import Derived.Test.YtlklmpjakeedcaaGreatDoorSTlGRefR
import Derived.Test.YtlklmpjakeedcaaGreatDoorSTlGNode
set_option linter.unusedVariables false
set_option linter.unusedSimpArgs false
namespace Go.Proofs.YtlklmpjakeedcaaGreatDoor
open Go.RowKit Go.MapKept Go.Shelf

theorem tmod_emodK (x n : Int) : x.tmod n % n = x % n := by
  have h := Int.mul_tdiv_add_tmod x n
  have : x.tmod n = x - n * x.tdiv n := by omega
  rw [this, Int.sub_mul_emod_self_left]
theorem pick_posK (x n : Int) (hn : 1 ≤ n) (h : 0 ≤ x.tmod n) : x.tmod n = x % n := by
  have t1 := Int.tmod_lt_of_pos x (show 0 < n by omega)
  rw [← tmod_emodK, Int.emod_eq_of_lt h t1]
theorem pick_negK (x n : Int) (hn : 1 ≤ n) (h : x.tmod n < 0) : x.tmod n + n = x % n := by
  have t2 := Int.lt_tmod_of_pos x (show 0 < n by omega)
  rw [← tmod_emodK, ← Int.add_emod_right, Int.emod_eq_of_lt (by omega) (by omega)]
set_option maxHeartbeats 400000 in
theorem pickK_any (x n : Int) (w : World) (hn : 1 ≤ n) (hn2 : n ≤ 1000000) (h1 : -9223372036854775808 ≤ x) (h2 : x ≤ 9223372036854775807) :
    Calls Tryz.prog 9 #[.int .i64 x, .int .i64 n] w fun e w' => e = .returned (.int .i64 (x % n)) ∧ Chg [] w w' := by
  have t1 := Int.tmod_lt_of_pos x (show 0 < n by omega)
  have t2 := Int.lt_tmod_of_pos x (show 0 < n by omega)
  go_enter Tryz.func9, Tryz.ntmps9
  go_wp2
  all_goals go_ret
  all_goals refine ⟨ret_int ?_, Chg.refl _ _⟩
  · exact pick_negK x n hn (by assumption)
  · exact pick_posK x n hn (by assumption)
end Go.Proofs.YtlklmpjakeedcaaGreatDoor
set_option linter.unusedVariables false
set_option linter.unusedSimpArgs false
set_option linter.unnecessarySimpa false
namespace Go.Proofs.YtlklmpjakeedcaaGreatDoor
open Go.RowKit Go.MapKept Go.Shelf

set_option maxHeartbeats 400000 in
theorem pickK0_any (x : Int) (w : World) :
    Calls Tryz.prog 9 #[.int .i64 x, .int .i64 0] w fun e w' => e = .returned (.int .i64 0) ∧ Chg [] w w' := by
  go_enter Tryz.func9, Tryz.ntmps9
  go_wp2
  all_goals go_ret
  all_goals exact ⟨rfl, Chg.refl _ _⟩
theorem pickKn_any (x : Int) (n : Nat) (w : World) (hn2 : n ≤ 1000000) (h : I64 x) :
    Calls Tryz.prog 9 #[.int .i64 x, .int .i64 (n : Int)] w fun e w' => e = .returned (.int .i64 (if n = 0 then 0 else x % n)) ∧ Chg [] w w' := by
  by_cases h0 : n = 0
  · subst h0
    rw [if_pos rfl]
    exact pickK0_any x w
  · rw [if_neg h0]
    exact pickK_any x n w (by omega) (by omega) h.1 h.2

end Go.Proofs.YtlklmpjakeedcaaGreatDoor
set_option linter.unusedVariables false
set_option linter.unusedSimpArgs false
set_option linter.unnecessarySimpa false
namespace Go.Proofs.YtlklmpjakeedcaaGreatDoor
open Go.RowKit Go.MapKept Go.Shelf

set_option maxRecDepth 100000 in
set_option maxHeartbeats 16000000 in
theorem sortTellsLaw_any (w : World) (hw : WordsAt w) (a1 : Option Addr) (n1 c1 : Nat) (a2 : Option Addr) (n2 c2 : Nat) (g : Gr) (hg : GramAt w a1 n1 c1 a2 n2 c2 g) (hre : Reach g) (n : Int) (hi1 : I64 n) :
    Calls Tryz.prog 5 #[.agg #[.slice a1 n1 c1, .slice a2 n2 c2], .int .i64 n] w fun e w' => e = .returned (.bool true) ∧ Chg [] w w' := by
  have H := Lib.hid (And.intro hg (And.intro hre (And.intro hg.e1 hg.e2)))
  have HWD := Lib.hid hw
  clear hg hre hw
  go_enter Tryz.func5, Tryz.ntmps5
  have hb1 := heap_alloc_same w (.cells #[.slice a1 n1 c1, .slice a2 n2 c2] 31)
  have H1 := Lib.hid (And.intro hb1 ((Chg.refl [] w).alloc (.cells #[.slice a1 n1 c1, .slice a2 n2 c2] 31)))
  clear hb1
  obtain ⟨x0, x1⟩ := cells2 H1.out.1
  go_wp2_with fail
  refine (size14_any _ a1 n1 c1 a2 n2 c2 g (H.out.1.keep H1.out.2.kp) H.out.2.1).mono ?_
  rintro e w2 ⟨m, rfl, hm1, hm2, hc2⟩
  have H2 := Lib.hid (And.intro (hc2.heap H1.out.1 (by simp)) (H1.out.2.tr hc2))
  clear hc2 x0 x1
  by_cases hm : (300 : Int) < m
  · go_wp2_with fail
    refine (awake14_any _ (HWD.out.chg H2.out.2)).mono ?_
    rintro e w3 ⟨rfl, hc3⟩
    go_wp2_with fail
    go_ret
    exact ⟨rfl, H2.out.2.tr hc3⟩
  · have hsm : smallG g := by
      by_cases hq : smallG g
      · exact hq
      · exact absurd (hm2 hq) hm
    obtain ⟨z1, z2, z3⟩ := kids_few hsm
    have hn1 : n1 ≤ 300 := by have := H.out.2.2.1; omega
    have hn2 : n2 ≤ 300 := by have := H.out.2.2.2; omega
    have hG : ∀ W, Chg [] w2 W → GramAt W a1 n1 c1 a2 n2 c2 g := fun W hW => H.out.1.keep (H2.out.2.tr hW).kp
    have hre := H.out.2.1
    have k1 := calls_rg (w := w2) (fun w1 h1 => tells14_any w1 a1 n1 c1 a2 n2 c2 g (hG w1 h1) hre (by omega) (by omega) (fun x hx => by have := z3 x hx; omega) n)
    obtain ⟨p1, hp1⟩ : ∃ p1, p1 = (if n1 = 0 then 0 else n % n1) := ⟨_, rfl⟩
    have k2 := calls_rg (w := w2) (fun w1 h1 => tells14_any w1 a1 n1 c1 a2 n2 c2 g (hG w1 h1) hre (by omega) (by omega) (fun x hx => by have := z3 x hx; omega) p1)
    have k3 := calls_rg (w := w2) (fun w1 h1 => pickKn_any n n1 w1 (by omega) hi1)
    have k5 := calls_rg (w := w2) (fun w1 h1 => awake14_any w1 (HWD.out.chg (H2.out.2.tr h1)))
    rw [← hp1] at k3
    obtain ⟨x0, x1⟩ := cells2 H2.out.1
    have kx0 := cell_rg x0
    have kx1 := cell_rg x1
    clear x0 x1 hp1 hG hre z1 z2 z3 hsm hm1 hm2
    go_wp2_with fail
    refine wp_region_quiet_below (by kernel_rfl) (by kernel_rfl) ?_
    repeat (go_big_quiet_step (first | (with_reducible exact k1 _ _) | (with_reducible exact k2 _ _) | (with_reducible exact k3 _ _) | (with_reducible exact k5 _ _)))
    refine wpQuiet_nil ?_
    intro w4 hw4
    have HW := Lib.hid (H2.out.2.tr (chg_of_rg hw4))
    clear hw4 k1 k2 k3 k5 kx0 kx1
    go_wp2_with fail
    go_ret
    exact ⟨rfl, HW.out⟩
end Go.Proofs.YtlklmpjakeedcaaGreatDoor

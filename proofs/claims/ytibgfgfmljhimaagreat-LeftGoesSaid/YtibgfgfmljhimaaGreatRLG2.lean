/-
  LeftGoes: what the law computes.
  Conditions: the grammar reads as data, within the reach.
-/
import Derived.Test.YtibgfgfmljhimaaGreatRLG1
import Derived.Test.YtibgfgfmljhimaaGreatRLfJ
import Derived.Test.YtibgfgfmljhimaaGreatRLf4
import Derived.Test.YtibgfgfmljhimaaGreatRLfW
set_option linter.unusedVariables false
set_option linter.unusedSimpArgs false
set_option linter.unnecessarySimpa false
namespace Go.Proofs.YtibgfgfmljhimaaGreat
open Go.RowKit Go.MapKept Go.Shelf

set_option maxRecDepth 100000 in
set_option maxHeartbeats 16000000 in
theorem leftGoesLaw_any (w : World) (a1 : Option Addr) (n1 c1 : Nat) (a2 : Option Addr) (n2 c2 : Nat) (g : Gr) (hg : GramAt w a1 n1 c1 a2 n2 c2 g) (hre : Reach g) (i k : Int) (hi1 : I64 i) (hi2 : I64 k) :
    Calls Tryz.prog 5 #[.agg #[.slice a1 n1 c1, .slice a2 n2 c2], .int .i64 i, .int .i64 k] w fun e w' => e = .returned (.bool true) ∧ Chg [] w w' := by
  have H := Lib.hid (And.intro hg (And.intro hre (And.intro hg.e1 hg.e2)))
  clear hg hre
  go_enter Tryz.func5, Tryz.ntmps5
  have hb1 := heap_alloc_same w (.cells #[.slice a1 n1 c1, .slice a2 n2 c2] 25)
  have H1 := Lib.hid (And.intro hb1 ((Chg.refl [] w).alloc (.cells #[.slice a1 n1 c1, .slice a2 n2 c2] 25)))
  clear hb1
  obtain ⟨x0, x1⟩ := cells2 H1.out.1
  go_wp2_with fail
  refine (size12_any _ a1 n1 c1 a2 n2 c2 g (H.out.1.keep H1.out.2.kp) H.out.2.1).mono ?_
  rintro e w2 ⟨m, rfl, hm1, hm2, hc2⟩
  have H2 := Lib.hid (And.intro (hc2.heap H1.out.1 (by simp)) (H1.out.2.tr hc2))
  clear hc2 x0 x1
  by_cases hm : (300 : Int) < m
  · go_wp2_with fail
    refine (awake12_any _).mono ?_
    rintro e w3 ⟨rfl, hc3⟩
    go_wp2_with fail
    go_ret
    exact ⟨rfl, H2.out.2.tr hc3⟩
  · have hsm : smallG g := by
      by_cases hq : smallG g
      · exact hq
      · exact absurd (hm2 hq) hm
    obtain ⟨z1, z2, z3⟩ := kids_few hsm
    have hn1 : n1 ≤ 300 := by have := H.out.2.2.1; omega
    have hn2 : n2 ≤ 300 := by have := H.out.2.2.2; omega
    have hG : ∀ W, Chg [] w2 W → GramAt W a1 n1 c1 a2 n2 c2 g := fun W hW => H.out.1.keep (H2.out.2.tr hW).kp
    have hre := H.out.2.1
    have k1 := calls_rg (w := w2) (fun w1 h1 => goes12_any w1 a1 n1 c1 a2 n2 c2 g (hG w1 h1) hre (by omega) (by omega) (fun x hx => by have := z3 x hx; omega) i k)
    obtain ⟨p1, hp1⟩ : ∃ p1, p1 = (if n1 = 0 then 0 else i % n1) := ⟨_, rfl⟩
    obtain ⟨p2, hp2⟩ : ∃ p2, p2 = (if n1 = 0 then 0 else k % n1) := ⟨_, rfl⟩
    have k2 := calls_rg (w := w2) (fun w1 h1 => goes12_any w1 a1 n1 c1 a2 n2 c2 g (hG w1 h1) hre (by omega) (by omega) (fun x hx => by have := z3 x hx; omega) p1 p2)
    have k3 := calls_rg (w := w2) (fun w1 h1 => pickKn_any i n1 w1 (by omega) hi1)
    have k4 := calls_rg (w := w2) (fun w1 h1 => pickKn_any k n1 w1 (by omega) hi2)
    have k5 := calls_rg (w := w2) (fun w1 h1 => awake12_any w1)
    rw [← hp1] at k3
    rw [← hp2] at k4
    obtain ⟨x0, x1⟩ := cells2 H2.out.1
    have kx0 := cell_rg x0
    have kx1 := cell_rg x1
    clear x0 x1 hp1 hp2 hG hre z1 z2 z3 hsm hm1 hm2
    go_wp2_with fail
    refine wp_region_quiet_below (by kernel_rfl) (by kernel_rfl) ?_
    repeat (go_big_quiet_step (first | (with_reducible exact k1 _ _) | (with_reducible exact k2 _ _) | (with_reducible exact k3 _ _) | (with_reducible exact k4 _ _) | (with_reducible exact k5 _ _)))
    refine wpQuiet_nil ?_
    intro w4 hw4
    have HW := Lib.hid (H2.out.2.tr (chg_of_rg hw4))
    clear hw4 k1 k2 k3 k4 k5 kx0 kx1
    go_wp2_with fail
    go_ret
    exact ⟨rfl, HW.out⟩
end Go.Proofs.YtibgfgfmljhimaaGreat

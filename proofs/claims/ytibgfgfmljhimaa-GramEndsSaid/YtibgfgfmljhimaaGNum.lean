/-
  The law's numbers, and Pick.
  Conditions: the grammars read as data; they are the same.
-/
import Derived.Test.YtibgfgfmljhimaaGSame2
import Derived.Test.YtibgfgfmljhimaaGRight
import Derived.Test.YtibgfgfmljhimaaGRefR
import Derived.Test.YtibgfgfmljhimaaGRefS
import Derived.Test.YtibgfgfmljhimaaGName3
import Derived.Test.YtibgfgfmljhimaaGNode
import Derived.Test.YtibgfgfmljhimaaGRef
set_option linter.unusedVariables false
set_option linter.unusedSimpArgs false
namespace Go.Proofs.Ytibgfgfmljhimaa
open Go.RowKit Go.MapKept Go.Shelf

set_option maxRecDepth 100000 in
set_option maxHeartbeats 2000000 in
theorem numbers_any (w : World) (b1 : Option Addr) (m1 d1 : Nat) (b2 : Option Addr) (m2 d2 : Nat) (a1 : Option Addr) (n1 c1 : Nat) (a2 : Option Addr) (n2 c2 : Nat) (g : Gr) (n : Int) (hin : GramAt w b1 m1 d1 b2 m2 d2 g) (hg : GramAt w a1 n1 c1 a2 n2 c2 g) (hs : n2 ≤ 17592186044416) :
    Calls Try.prog 29 #[.agg #[.slice b1 m1 d1, .slice b2 m2 d2], .agg #[.slice a1 n1 c1, .slice a2 n2 c2], .int .i64 n] w fun e w' => e = .returned (.bool true) ∧ Chg [] w w' := by
  have H := Lib.hid (And.intro hin hg)
  clear hin hg
  go_enter Try.func29, Try.ntmps29
  go_wp2_with fail
  have hB := SameAt.new w #[.slice b1 m1 d1, .slice b2 m2 d2] #[.slice a1 n1 c1, .slice a2 n2 c2] 25
  obtain ⟨wq, hwq⟩ : ∃ wq, wq = (w.alloc (.cells #[.slice b1 m1 d1, .slice b2 m2 d2] 25)).alloc (.cells #[.slice a1 n1 c1, .slice a2 n2 c2] 25) := ⟨_, rfl⟩
  rw [← hwq] at hB ⊢
  clear hwq
  obtain ⟨x0, x1⟩ := cells2 hB.bx
  obtain ⟨y0, y1⟩ := cells2 hB.bY
  have hg1 := H.out.1.keep hB.ch.kp
  have hg2 := H.out.2.keep hB.ch.kp
  have cA := calls_rg (w := wq) (fun w1 h1 => Size_any w1 b1 m1 d1 b2 m2 d2 g n (hg1.keep h1.kp))
  have cB := calls_rg (w := wq) (fun w1 h1 => refSize_any w1 a1 n1 c1 a2 n2 c2 g n (hg2.keep h1.kp) hs)
  have cC := calls_rg (w := wq) (fun w1 h1 => Height_any w1 b1 m1 d1 b2 m2 d2 g n (hg1.keep h1.kp))
  have cD := calls_rg (w := wq) (fun w1 h1 => refHeight_any w1 a1 n1 c1 a2 n2 c2 g n (hg2.keep h1.kp) hs)
  have cE := calls_rg (w := wq) (fun w1 h1 => Owner_any w1 b1 m1 d1 b2 m2 d2 g n (hg1.keep h1.kp))
  have cF := calls_rg (w := wq) (fun w1 h1 => refOwner_any w1 a1 n1 c1 a2 n2 c2 g n (hg2.keep h1.kp) hs)
  have HB := Lib.hid hB
  clear hg1 hg2 hB
  have kx0 := cell_rg x0
  have kx1 := cell_rg x1
  have ky0 := cell_rg y0
  have ky1 := cell_rg y1
  refine wp_region_quiet_below (by kernel_rfl) (by kernel_rfl) ?_
  repeat (go_big_quiet_step (first | (with_reducible exact cA _ _) | (with_reducible exact cB _ _) | (with_reducible exact cC _ _) | (with_reducible exact cD _ _) | (with_reducible exact cE _ _) | (with_reducible exact cF _ _)))
  refine wpQuiet_nil ?_
  intro w4 hw4
  have HR4 := Lib.hid (HB.out.keep (chg_of_rg hw4))
  clear hw4
  go_wp2_with fail
  go_ret
  exact ⟨rfl, HR4.out.ch⟩

end Go.Proofs.Ytibgfgfmljhimaa

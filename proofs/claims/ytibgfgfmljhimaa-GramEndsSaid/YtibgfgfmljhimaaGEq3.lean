/-
  The document's sameNode.
  Conditions: both nodes read as data.
-/
import Derived.Test.YtibgfgfmljhimaaGEq
set_option linter.unusedVariables false
set_option linter.unusedSimpArgs false
namespace Go.Proofs.Ytibgfgfmljhimaa
open Go.RowKit Go.MapKept Go.Shelf

set_option maxRecDepth 100000 in
set_option maxHeartbeats 2000000 in
theorem sameNode_any (w : World) (x y : Nd) (a b : Option Addr) (n c m d' : Nat) (hn : n = x.kids.length) (hm : m = y.kids.length) (hs : n ≤ 9223372036854775807) (hx : Ints w a x.kids) (hy : Ints w b y.kids) :
    Calls Try.prog 98 #[.agg (x.cells a n c), .agg (y.cells b m d')] w fun e w' => e = .returned (.bool (sameN x y)) ∧ Chg [] w w' := by
  obtain ⟨R, hR⟩ : ∃ R, R = sameN x y := ⟨_, rfl⟩
  rw [← hR]
  have hk := fun (w1 : World) (h1 : Chg [] w w1) => equalInts_any w1 a b n c m d' x.kids y.kids hn hm hs (hx.keep h1.kp) (hy.keep h1.kp)
  have H := Lib.hid (And.intro hk hR)
  clear hn hm hx hy hR hk
  unfold Nd.cells
  obtain ⟨xk, x0, x1, x2, x3, xs, xr, xl, xkids⟩ := x
  obtain ⟨yk, y0, y1, y2, y3, ys, yr, yl, ykids⟩ := y
  dsimp only at H ⊢
  go_enter Try.func98, Try.ntmps98
  go_wp2_with fail
  all_goals try (go_ret; refine ⟨ret_bool ?_, ((Chg.refl _ _).alloc _).alloc _⟩; have hR := H.out.2; clear H; rw [hR, sameN]; simp only [beq_iff_eq, beq_eq_false_iff_ne, bne_iff_ne, ne_eq, decide_eq_true_eq, decide_eq_false_iff_not] at *; grind)
  refine (H.out.1 _ (((Chg.refl _ _).alloc _).alloc _)).mono ?_
  rintro e w1 ⟨rfl, hc⟩
  have H1 := Lib.hid ((((Chg.refl [] w).alloc _).alloc _).tr hc)
  clear hc
  rename_i e5 e4 e3 e2 e1 _ _
  have HE := Lib.hid (And.intro e5 (And.intro e4 (And.intro e3 (And.intro e2 e1))))
  clear e5 e4 e3 e2 e1
  go_wp2_with fail
  go_ret
  refine ⟨ret_bool ?_, H1.out⟩
  rw [H.out.2, sameN]
  have h := HE.out
  simp only [decide_eq_decide]
  grind
end Go.Proofs.Ytibgfgfmljhimaa

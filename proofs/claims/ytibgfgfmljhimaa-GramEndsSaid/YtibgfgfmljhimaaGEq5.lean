/-
  The document's Same.
  Conditions: both grammars read as data.
-/
import Derived.Test.YtibgfgfmljhimaaGEq2
import Derived.Test.YtibgfgfmljhimaaGEq4
set_option linter.unusedVariables false
set_option linter.unusedSimpArgs false
namespace Go.Proofs.Ytibgfgfmljhimaa
open Go.RowKit Go.MapKept Go.Shelf

set_option maxRecDepth 100000 in
theorem alike_any (w : World) (a b : Option Addr) (n c m d' : Nat) (xs ys : List Nd) (hn : n = xs.length) (hm : m = ys.length) (hs : n ≤ 9223372036854775807) (hx : Nodes w a xs) (hy : Nodes w b ys) :
    Calls Try.prog 97 #[.slice a n c, .slice b m d', .func (.func 98) #[] #[]] w fun e w' => e = .returned (.bool (sameNs xs ys)) ∧ Chg [] w w' := by
  have hk := Lib.hid (equalNodes_any w a b n c m d' xs ys hn hm hs hx hy)
  clear hn hm hx hy
  go_enter Try.func97, Try.ntmps97
  go_wp2_with fail
  refine hk.out.mono ?_
  rintro e w1 ⟨rfl, hc⟩
  have H1 := Lib.hid hc
  clear hc
  go_wp2_with fail
  go_ret
  exact ⟨rfl, H1.out⟩

set_option maxRecDepth 100000 in
set_option maxHeartbeats 2000000 in
theorem gramSame_any (w : World) (a1 : Option Addr) (n1 c1 : Nat) (a2 : Option Addr) (n2 c2 : Nat) (g : Gr) (b1 : Option Addr) (m1 d1 : Nat) (b2 : Option Addr) (m2 d2 : Nat) (h : Gr) (hg : GramAt w a1 n1 c1 a2 n2 c2 g) (hh : GramAt w b1 m1 d1 b2 m2 d2 h) :
    Calls Try.prog 36 #[.agg #[.slice a1 n1 c1, .slice a2 n2 c2], .agg #[.slice b1 m1 d1, .slice b2 m2 d2]] w fun e w' => e = .returned (.bool (sameG g h)) ∧ Chg [] w w' := by
  obtain ⟨R, hR⟩ : ∃ R, R = sameRs g.rules h.rules := ⟨_, rfl⟩
  obtain ⟨S, hS⟩ : ∃ S, S = sameNs g.nodes h.nodes := ⟨_, rfl⟩
  have e : sameG g h = (R && S) := by rw [sameG, hR, hS]
  rw [e]
  have hk := fun (w1 : World) (h1 : Chg [] w w1) => equalRules_any w1 a1 b1 n1 c1 m1 d1 g.rules h.rules hg.e1 hh.e1 hg.small.1 (hg.rules.keep h1.kp) (hh.rules.keep h1.kp)
  have hl := fun (w1 : World) (h1 : Chg [] w w1) => alike_any w1 a2 b2 n2 c2 m2 d2 g.nodes h.nodes hg.e2 hh.e2 hg.small.2 (hg.nodes.keep h1.kp) (hh.nodes.keep h1.kp)
  rw [← hR] at hk
  rw [← hS] at hl
  have H := Lib.hid (And.intro hk hl)
  clear hg hh hR hS hk hl e
  go_enter Try.func36, Try.ntmps36
  go_wp2_with fail
  have HB := SameAt.new w #[.slice a1 n1 c1, .slice a2 n2 c2] #[.slice b1 m1 d1, .slice b2 m2 d2] 25
  refine (H.out.1 _ HB.ch).mono ?_
  rintro e w1 ⟨rfl, hc⟩
  have HB1 := Lib.hid (HB.keep hc)
  clear hc HB
  obtain ⟨x0, x1⟩ := cells2 HB1.out.bx
  obtain ⟨y0, y1⟩ := cells2 HB1.out.bY
  cases R
  · go_wp2_with fail
    go_ret
    exact ⟨rfl, HB1.out.ch⟩
  · go_wp2_with fail
    refine (H.out.2 _ HB1.out.ch).mono ?_
    rintro e w2 ⟨rfl, hc⟩
    have H2 := Lib.hid (HB1.out.ch.tr hc)
    clear hc
    go_wp2_with fail
    go_ret
    exact ⟨rfl, H2.out⟩
end Go.Proofs.Ytibgfgfmljhimaa

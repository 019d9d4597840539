/-
  GramTells: what the law computes.
  Conditions: the grammar and the node read as data, within the reach.
-/
import Derived.Test.YtibgfgfmljhimaaGNum
import Derived.Test.YtibgfgfmljhimaaGRule
set_option linter.unusedVariables false
set_option linter.unusedSimpArgs false
namespace Go.Proofs.Ytibgfgfmljhimaa
open Go.RowKit Go.MapKept Go.Shelf

theorem tmod_emod6 (x n : Int) : x.tmod n % n = x % n := by
  have h := Int.mul_tdiv_add_tmod x n
  have : x.tmod n = x - n * x.tdiv n := by omega
  rw [this, Int.sub_mul_emod_self_left]
theorem pick_pos6 (x n : Int) (hn : 1 ≤ n) (h : 0 ≤ x.tmod n) : x.tmod n = x % n := by
  have t1 := Int.tmod_lt_of_pos x (show 0 < n by omega)
  rw [← tmod_emod6, Int.emod_eq_of_lt h t1]
theorem pick_neg6 (x n : Int) (hn : 1 ≤ n) (h : x.tmod n < 0) : x.tmod n + n = x % n := by
  have t2 := Int.lt_tmod_of_pos x (show 0 < n by omega)
  rw [← tmod_emod6, ← Int.add_emod_right, Int.emod_eq_of_lt (by omega) (by omega)]
set_option maxHeartbeats 400000 in
theorem pick6_any (x n : Int) (w : World) (hn : 1 ≤ n) (hn2 : n ≤ 1000000) (h1 : -9223372036854775808 ≤ x) (h2 : x ≤ 9223372036854775807) :
    Calls Try.prog 30 #[.int .i64 x, .int .i64 n] w fun e w' => e = .returned (.int .i64 (x % n)) ∧ Chg [] w w' := by
  have t1 := Int.tmod_lt_of_pos x (show 0 < n by omega)
  have t2 := Int.lt_tmod_of_pos x (show 0 < n by omega)
  go_enter Try.func30, Try.ntmps30
  go_wp2
  all_goals go_ret
  all_goals refine ⟨ret_int ?_, Chg.refl _ _⟩
  · exact pick_neg6 x n hn (by assumption)
  · exact pick_pos6 x n hn (by assumption)

theorem kids_small {g : Gr} (h : smallG g) : g.rules.length ≤ 300 ∧ g.nodes.length ≤ 300 ∧ ∀ x ∈ g.nodes, x.kids.length ≤ 300 := by
  unfold smallG at h
  refine ⟨by omega, by omega, fun x hx => ?_⟩
  obtain ⟨i, hi, rfl⟩ := List.mem_iff_getElem.1 hx
  have := kids_le_sum g.nodes i hi
  omega

set_option maxRecDepth 100000 in
set_option maxHeartbeats 4000000 in
theorem gramTells_any (w : World) (a1 : Option Addr) (n1 c1 : Nat) (a2 : Option Addr) (n2 c2 : Nat) (g : Gr) (hg : GramAt w a1 n1 c1 a2 n2 c2 g) (hr : Reach g) (s : ByteArray) (hs : s.size ≤ maxLen)
    (x : Nd) (ak : Option Addr) (nk ck : Nat) (hk : nk = x.kids.length) (hk2 : nk ≤ 17592186044416) (hxk : I64 x.k) (rules n : Int) (hn : I64 n) (hsr : s.size ≤ 140737488355328) :
    Calls Try.prog 3 #[.agg #[.slice a1 n1 c1, .slice a2 n2 c2], .string s, .agg (x.cells ak nk ck), .int .i64 rules, .int .i64 n] w fun e w' => e = .returned (.bool true) ∧ Chg [] w w' := by
  have H := Lib.hid (And.intro hg (And.intro hr (And.intro hs (And.intro hk (And.intro hxk hn)))))
  clear hg hr hs hk hxk hn
  unfold Nd.cells
  go_enter Try.func3, Try.ntmps3
  go_wp2_with fail
  refine (size06_any _ a1 n1 c1 a2 n2 c2 g (H.out.1.keep (((Chg.refl [] w).alloc _).alloc _).kp) H.out.2.1).mono ?_
  rintro e w2 ⟨m, rfl, hm1, hm2, hc2⟩
  have hb0 := hc2.heap (heap_alloc_lt (heap_alloc_same _ _) _) (by simp)
  have hb1 := hc2.heap (heap_alloc_same _ _) (by simp)
  have hl := hc2.size
  simp only [World.size_alloc] at hb1 hl
  have hcw := (((Chg.refl [] w).alloc _).alloc _).tr0 hc2
  have H2 := Lib.hid (And.intro hm1 (And.intro hm2 (And.intro hcw (And.intro hb0 hb1))))
  clear hm1 hm2 hcw hb0 hb1 hc2
  by_cases hm : (300 : Int) < m
  · go_wp2_with fail
    refine (awake_any _).mono ?_
    rintro e w3 ⟨rfl, hc3⟩
    have H3 := Lib.hid hc3
    clear hc3
    go_wp2_with fail
    go_ret
    exact ⟨rfl, H2.out.2.2.1.tr H3.out⟩
  · have hsm : smallG g := by
      by_cases h : smallG g
      · exact h
      · exact absurd (H2.out.2.1 h) hm
    obtain ⟨z1, z2, z3⟩ := kids_small hsm
    have HS := Lib.hid (And.intro z1 (And.intro z2 z3))
    clear hsm z1 z2 z3
    obtain ⟨v0, v1, v2, v3, v4, v5, v6, v7, v8⟩ := cells9 H2.out.2.2.2.2
    obtain ⟨x0, x1⟩ := cells2 H2.out.2.2.2.1
    go_wp2_with fail
    · refine (awake_any _).mono ?_
      rintro e w3 ⟨rfl, hc3⟩
      have H3 := Lib.hid hc3
      clear hc3
      go_wp2_with fail
      go_ret
      exact ⟨rfl, H2.out.2.2.1.tr H3.out⟩
    · have g1 := H.out.1.e1
      have g2 := H.out.1.e2
      have hg2 := H.out.1.keep H2.out.2.2.1.kp
      have hc := CopyGrammar_any w2 a1 n1 c1 a2 n2 c2 g hg2 (by have := HS.out.1; omega) (by have := HS.out.2.1; omega) HS.out.2.2
      have hn2 : n2 ≤ 300 := by have := HS.out.2.1; omega
      clear g1 g2 hg2
      refine hc.mono ?_
      clear hc
      rintro e w3 ⟨b1, d1, b2, d2, rfl, hin, hc3⟩
      obtain ⟨m1, hm1⟩ : ∃ m1, m1 = g.rules.length := ⟨_, rfl⟩
      obtain ⟨m2, hm2⟩ : ∃ m2, m2 = g.nodes.length := ⟨_, rfl⟩
      rw [← hm1, ← hm2] at hin ⊢
      have hm3 : m2 ≤ 300 := by rw [hm2]; exact HS.out.2.1
      have hb0 := hc3.heap H2.out.2.2.2.1 (by simp)
      have hb1 := hc3.heap H2.out.2.2.2.2 (by simp)
      have hl3 := hc3.size
      have H3 := Lib.hid (And.intro hin (And.intro hc3 (And.intro hb0 (And.intro hb1 (And.intro hm1 hm2)))))
      clear hin hc3 hb0 hb1 hm1 hm2 v0 v1 v2 v3 v4 v5 v6 v7 v8 x0 x1
      go_wp2_with fail
      obtain ⟨wq, hwq⟩ : ∃ wq, wq = w3.alloc (.cells #[.slice b1 m1 d1, .slice b2 m2 d2] 25) := ⟨_, rfl⟩
      have hB := heap_alloc_same w3 (.cells #[.slice b1 m1 d1, .slice b2 m2 d2] 25)
      have hcq := (Chg.refl [] w3).alloc (.cells #[.slice b1 m1 d1, .slice b2 m2 d2] 25)
      rw [← hwq] at hB hcq ⊢
      clear hwq
      have hin := H3.out.1.keep hcq.kp
      have hcw := (H2.out.2.2.1.tr H3.out.2.1).tr hcq
      have hg := H.out.1.keep hcw.kp
      have HQ := Lib.hid (And.intro hB (And.intro hin (And.intro hcw (And.intro hg (And.intro (hcq.heap H3.out.2.2.1 (by simp)) (hcq.heap H3.out.2.2.2.1 (by simp)))))))
      clear hB hcq hin hcw hg
      obtain ⟨x0, x1⟩ := cells2 HQ.out.1
      obtain ⟨y0, y1⟩ := cells2 HQ.out.2.2.2.2.1
      obtain ⟨v0, v1, v2, v3, v4, v5, v6, v7, v8⟩ := cells9 HQ.out.2.2.2.2.2
      have kx0 := cell_rg x0
      have kx1 := cell_rg x1
      have ky0 := cell_rg y0
      have ky1 := cell_rg y1
      have kv0 := cell_rg v0
      have kv1 := cell_rg v1
      have kv2 := cell_rg v2
      have kv3 := cell_rg v3
      have kv4 := cell_rg v4
      have kv5 := cell_rg v5
      have kv6 := cell_rg v6
      have kv7 := cell_rg v7
      have kv8 := cell_rg v8
      have cA := calls_rg (w := wq) (fun w1 h1 => Name_any s w1 H.out.2.2.1)
      have cB := calls_rg (w := wq) (fun w1 h1 => refName_any s w1 H.out.2.2.1)
      have cC := calls_rg (w := wq) (fun w1 h1 => Node_any w1 x.k x.c0 x.c1 x.c2 x.c3 x.r x.l rules x.s ak nk ck H.out.2.2.2.2.1)
      have cD := calls_rg (w := wq) (fun w1 h1 => refNode_any w1 x.k x.c0 x.c1 x.c2 x.c3 x.r x.l rules x.s ak nk ck)
      have cE := calls_rg (w := wq) (fun w1 h1 => Right_any w1 b1 m1 d1 b2 m2 d2 g (HQ.out.2.1.keep h1.kp))
      have cF := calls_rg (w := wq) (fun w1 h1 => refRight_any w1 a1 n1 c1 a2 n2 c2 g (HQ.out.2.2.2.1.keep h1.kp))
      have cG := calls_rg (w := wq) (fun w1 h1 => Rule_any w1 b1 m1 d1 b2 m2 d2 g.rules s HQ.out.2.1.e1 HQ.out.2.1.small.1 (HQ.out.2.1.rules.keep h1.kp))
      have cH := calls_rg (w := wq) (fun w1 h1 => refRule_any w1 a1 n1 c1 a2 n2 c2 g.rules s HQ.out.2.2.2.1.e1 HQ.out.2.2.2.1.small.1 (HQ.out.2.2.2.1.rules.keep h1.kp))
      refine wp_region_quiet_below (by kernel_rfl) (by kernel_rfl) ?_
      repeat (go_big_quiet_step (first | (with_reducible exact cA _ _) | (with_reducible exact cB _ _) | (with_reducible exact cC _ _) | (with_reducible exact cD _ _) | (with_reducible exact cE _ _) | (with_reducible exact cF _ _) | (with_reducible exact cG _ _) | (with_reducible exact cH _ _)))
      refine wpQuiet_nil ?_
      intro w4 hw4
      have hc4 := chg_of_rg hw4
      have H4 := Lib.hid (And.intro (hc4.heap HQ.out.1 (by simp)) (And.intro (HQ.out.2.1.keep hc4.kp) (And.intro (HQ.out.2.2.1.tr hc4) (And.intro (HQ.out.2.2.2.1.keep hc4.kp) (hc4.heap HQ.out.2.2.2.2.1 (by simp))))))
      clear hw4 hc4 cA cB cC cD cE cF cG cH kx0 kx1 ky0 ky1 kv0 kv1 kv2 kv3 kv4 kv5 kv6 kv7 kv8 x0 x1 y0 y1 v0 v1 v2 v3 v4 v5 v6 v7 v8
      go_wp2_with fail
      obtain ⟨x0, x1⟩ := cells2 H4.out.1
      obtain ⟨y0, y1⟩ := cells2 H4.out.2.2.2.2
      have kx0 := cell_rg x0
      have kx1 := cell_rg x1
      have ky0 := cell_rg y0
      have ky1 := cell_rg y1
      obtain ⟨q1, q2⟩ := H.out.2.2.2.2.2
      have qw : IntKind.i64.wrap ((n2 : Int) + 1) = (n2 : Int) + 1 := IntWalk.i64_in _ (by omega)
      have cA := calls_rg (w := w4) (fun w1 h1 => numbers_any w1 b1 m1 d1 b2 m2 d2 a1 n1 c1 a2 n2 c2 g n (H4.out.2.1.keep h1.kp) (H4.out.2.2.2.1.keep h1.kp) (by omega))
      have cB := calls_rg (w := w4) (fun w1 h1 => pick6_any n ((n2 : Int) + 1) w1 (by omega) (by omega) q1 q2)
      have cC := calls_rg (w := w4) (fun w1 h1 => numbers_any w1 b1 m1 d1 b2 m2 d2 a1 n1 c1 a2 n2 c2 g (n % ((n2 : Int) + 1)) (H4.out.2.1.keep h1.kp) (H4.out.2.2.2.1.keep h1.kp) (by omega))
      have cD := calls_rg (w := w4) (fun w1 h1 => Same_any w1 b1 m1 d1 b2 m2 d2 g a1 n1 c1 a2 n2 c2 g (H4.out.2.1.keep h1.kp) (H4.out.2.2.2.1.keep h1.kp))
      rw [sameG_refl] at cD
      have cE := calls_rg (w := w4) (fun w1 h1 => awake_any w1)
      refine wp_region_quiet_below (by kernel_rfl) (by kernel_rfl) ?_
      repeat (go_big_quiet_step (first | (with_reducible exact cA _ _) | (with_reducible exact cB _ _) | (with_reducible exact cC _ _) | (with_reducible exact cD _ _) | (with_reducible exact cE _ _)))
      refine wpQuiet_nil ?_
      intro w5 hw5
      have hc5 := Lib.hid (H4.out.2.2.1.tr (chg_of_rg hw5))
      clear hw5
      go_wp2_with fail
      go_ret
      exact ⟨rfl, hc5.out⟩
end Go.Proofs.Ytibgfgfmljhimaa

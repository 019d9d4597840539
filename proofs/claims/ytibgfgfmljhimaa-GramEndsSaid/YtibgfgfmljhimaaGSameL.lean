/-
  GramSame: what the law computes.
  Conditions: the two grammars read as data, within the reach.
-/
import Derived.Test.YtibgfgfmljhimaaGSpoil
import Derived.Test.YtibgfgfmljhimaaGTells
import Derived.Test.YtibgfgfmljhimaaGEq5
set_option linter.unusedVariables false
set_option linter.unusedSimpArgs false
namespace Go.Proofs.Ytibgfgfmljhimaa
open Go.RowKit Go.MapKept Go.Shelf

set_option maxRecDepth 100000 in
set_option maxHeartbeats 4000000 in
theorem gramSameLaw_any (w : World) (a1 : Option Addr) (n1 c1 : Nat) (a2 : Option Addr) (n2 c2 : Nat) (g : Gr) (hg : GramAt w a1 n1 c1 a2 n2 c2 g) (hr : Reach g)
    (p1 : Option Addr) (m1 e1 : Nat) (p2 : Option Addr) (m2 e2 : Nat) (h : Gr) (hh : GramAt w p1 m1 e1 p2 m2 e2 h) (hr2 : Reach h) :
    Calls Try.prog 5 #[.agg #[.slice a1 n1 c1, .slice a2 n2 c2], .agg #[.slice p1 m1 e1, .slice p2 m2 e2]] w fun e w' => e = .returned (.bool true) ∧ Chg [] w w' := by
  have H := Lib.hid (And.intro hg (And.intro hr (And.intro hh hr2)))
  clear hg hr hh hr2
  go_enter Try.func5, Try.ntmps5
  go_wp2_with fail
  refine (size06_any _ a1 n1 c1 a2 n2 c2 g (H.out.1.keep (((Chg.refl [] w).alloc _).alloc _).kp) H.out.2.1).mono ?_
  rintro e w2 ⟨m, rfl, hm1, hm2, hc2⟩
  have hb0 := hc2.heap (heap_alloc_lt (heap_alloc_same _ _) _) (by simp)
  have hb1 := hc2.heap (heap_alloc_same _ _) (by simp)
  have hl := hc2.size
  simp only [World.size_alloc] at hb1 hl
  have hcw := (((Chg.refl [] w).alloc _).alloc _).tr0 hc2
  have H2 := Lib.hid (And.intro hm1 (And.intro hm2 (And.intro hcw (And.intro hb0 hb1))))
  clear hm1 hm2 hcw hb0 hb1 hc2
  obtain ⟨y0, y1⟩ := cells2 H2.out.2.2.2.2
  by_cases hm : (300 : Int) < m
  · go_wp2_with fail
    refine (awake_any _).mono ?_
    rintro e w3 ⟨rfl, hc3⟩
    have H3 := Lib.hid hc3
    clear hc3
    go_wp2_with fail
    go_ret
    exact ⟨rfl, H2.out.2.2.1.tr H3.out⟩
  · have hsm : smallG g := by
      by_cases hq : smallG g
      · exact hq
      · exact absurd (H2.out.2.1 hq) hm
    obtain ⟨z1, z2, z3⟩ := kids_small hsm
    have HS := Lib.hid (And.intro z1 (And.intro z2 z3))
    clear hsm z1 z2 z3
    go_wp2_with fail
    refine (size06_any _ p1 m1 e1 p2 m2 e2 h (H.out.2.2.1.keep H2.out.2.2.1.kp) H.out.2.2.2).mono ?_
    rintro e w3 ⟨m', rfl, hm1, hm2, hc3⟩
    have hb0 := hc3.heap H2.out.2.2.2.1 (by simp)
    have hb1 := hc3.heap H2.out.2.2.2.2 (by simp)
    have hl3 := hc3.size
    have H3 := Lib.hid (And.intro hm1 (And.intro hm2 (And.intro (H2.out.2.2.1.tr hc3) (And.intro hb0 hb1))))
    clear hm1 hm2 hb0 hb1 hc3 y0 y1
    by_cases hm' : (300 : Int) < m'
    · go_wp2_with fail
      refine (awake_any _).mono ?_
      rintro e w4 ⟨rfl, hc4⟩
      have H4 := Lib.hid hc4
      clear hc4
      go_wp2_with fail
      go_ret
      exact ⟨rfl, H3.out.2.2.1.tr H4.out⟩
    · go_wp2_with fail
      refine wp_region_inv (by kernel_rfl) (by kernel_rfl) (fun l a' w' => ∃ u5 u6 u19 u20 u21 u22, TwoI w3 g (.agg #[.slice a1 n1 c1, .slice a2 n2 c2]) l u5 u6 u19 u20 u21 u22 w' ∧ a' = { tmps := #[.agg #[.slice a1 n1 c1, .slice a2 n2 c2], .agg #[.slice p1 m1 e1, .slice p2 m2 e2], .pointer (some ⟨w.heap.size, 0, none⟩), .pointer (some ⟨w.heap.size + 1, 0, none⟩), .bool false, u5, u6, undef, undef, undef, .agg #[.slice a1 n1 c1, .slice a2 n2 c2], .int .i64 m, .bool (decide (300 < m)), .bool (decide (300 < m)), .agg #[.slice p1 m1 e1, .slice p2 m2 e2], .int .i64 m', .bool (decide (300 < m')), .bool (decide (300 < m) || decide (300 < m')), undef, u19, u20, u21, u22, undef, undef, undef, undef, undef, undef, undef, undef, undef, undef, undef, undef, undef, undef, undef, undef, undef, undef, undef, undef, undef, undef, undef, undef, undef, undef, undef, undef, undef, undef, undef, undef, undef, undef, undef, undef, undef, undef, undef, undef, undef, undef, undef, undef, undef, undef, undef, undef, undef, undef, undef, undef, undef, undef, undef, undef, undef, undef, undef, undef, undef, undef, undef, undef, undef, undef, undef, undef], defers := [] }) ⟨_, _, _, _, _, _, TwoI.start _ _ _ _ _ _ _ _ _, rfl⟩ ?_ ?_
      · rintro l a' w' ⟨u5, u6, u19, u20, u21, u22, hI, rfl⟩ i hi hli hdep
        obtain ⟨x0, x1⟩ := cells2 (hI.chg.heap H3.out.2.2.2.1 (by simp))
        have hi8 : i < 8 := hi
        rcases (show i = 0 ∨ i = 1 ∨ i = 2 ∨ i = 3 ∨ i = 4 ∨ i = 5 ∨ i = 6 ∨ i = 7 by omega) with rfl | rfl | rfl | rfl | rfl | rfl | rfl | rfl
        · refine wpOp_atK rfl rfl fun K hK => ?_
          go_simp
          exact hK _ _ ⟨_, _, _, _, _, _, hI.step0, rfl⟩
        · have l0 := hdep _ rfl { on := 0, ground := .data } (by simp) (by kernel_rfl)
          obtain rfl := hI.f0 l0
          refine wpOp_atK rfl rfl fun K hK => ?_
          go_simp
          refine (Copy_any _ a1 n1 c1 a2 n2 c2 g (H.out.1.keep (H3.out.2.2.1.tr hI.chg).kp) (by have := HS.out.1; have := H.out.1.e1; omega) (by have := HS.out.2.1; have := H.out.1.e2; omega) HS.out.2.2).mono ?_
          rintro e w4 ⟨b1, d1, b2, d2, L, rfl, q1, q2, q3⟩
          exact hK _ _ ⟨_, _, _, _, _, _, hI.step1 hli q3 ⟨b1, d1, b2, d2, L, rfl, q1, q2, q3⟩, rfl⟩
        · refine wpOp_atK rfl rfl fun K hK => ?_
          go_simp
          exact hK _ _ ⟨_, _, _, _, _, _, hI.step2, rfl⟩
        · have l1 := hdep _ rfl { on := 1, ground := .chain } (by simp) (by kernel_rfl)
          have l2 := hdep _ rfl { on := 2, ground := .data } (by simp) (by kernel_rfl)
          obtain rfl := hI.f2 l2
          refine wpOp_atK rfl rfl fun K hK => ?_
          go_simp
          refine (Copy_any _ a1 n1 c1 a2 n2 c2 g (H.out.1.keep (H3.out.2.2.1.tr hI.chg).kp) (by have := HS.out.1; have := H.out.1.e1; omega) (by have := HS.out.2.1; have := H.out.1.e2; omega) HS.out.2.2).mono ?_
          rintro e w4 ⟨b1, d1, b2, d2, L, rfl, q1, q2, q3⟩
          exact hK _ _ ⟨_, _, _, _, _, _, hI.step3 l1 hli q3 ⟨b1, d1, b2, d2, L, rfl, q1, q2, q3⟩, rfl⟩
        · refine wpOp_atK rfl rfl fun K hK => ?_
          go_simp
          exact hK _ _ ⟨_, _, _, _, _, _, hI.step4 hli, rfl⟩
        · refine wpOp_atK rfl rfl fun K hK => ?_
          go_simp
          exact hK _ _ ⟨_, _, _, _, _, _, hI.step5 hli, rfl⟩
        · have l1 := hdep _ rfl { on := 1, ground := .data } (by simp) (by kernel_rfl)
          have l4 := hdep _ rfl { on := 4, ground := .data } (by simp) (by kernel_rfl)
          obtain ⟨B, rfl, hB, y1, y2, y3, z1, z2, z3, hT⟩ := hI.f4 l4
          obtain ⟨M, ⟨b1, d1, b2, d2, L, hD⟩, _⟩ := hI.c l1
          obtain rfl := hD.val
          obtain ⟨k0, k1⟩ := cells2 hT
          have g0 := free_of_cells hT 0
          have g1 := free_of_cells hT 1
          refine wpOp_atK rfl rfl fun K hK => ?_
          go_simp
          exact hK _ _ ⟨_, _, _, _, _, _, hI.step6 l1 l4 rfl ⟨_, _, _, rfl⟩ ⟨_, _, _, rfl⟩ rfl, rfl⟩
        · have l3 := hdep _ rfl { on := 3, ground := .data } (by simp) (by kernel_rfl)
          have l5 := hdep _ rfl { on := 5, ground := .data } (by simp) (by kernel_rfl)
          obtain ⟨B, rfl, hB, y1, y2, y3, z1, z2, z3, hT⟩ := hI.f5 l5
          obtain ⟨M, _, _, _, hM⟩ := hI.c (hI.d3 l3)
          obtain ⟨M', ⟨b1, d1, b2, d2, L, hD⟩, _⟩ := hM l3
          obtain rfl := hD.val
          obtain ⟨k0, k1⟩ := cells2 hT
          have g0 := free_of_cells hT 0
          have g1 := free_of_cells hT 1
          refine wpOp_atK rfl rfl fun K hK => ?_
          go_simp
          exact hK _ _ ⟨_, _, _, _, _, _, hI.step7 l3 l5 rfl ⟨_, _, _, rfl⟩ ⟨_, _, _, rfl⟩ rfl, rfl⟩
      · rintro l a' w4 ⟨u5, u6, u19, u20, u21, u22, hI, rfl⟩ hall
        obtain ⟨B5, B6, M, M', b1, d1, b2, d2, L, b1', d1', b2', d2', L', rfl, rfl, hB5, hB6, hne, hch, hM0, hM1, hC5, hC6, hD5, hD6⟩ := hI.stop hall
        clear hI hall
        have hg4 := H.out.1.keep (H3.out.2.2.1.tr hch).kp
        have hh4 := H.out.2.2.1.keep (H3.out.2.2.1.tr hch).kp
        have hwf := H.out.1.wf
        have hcG := hD5.own.gram (by rw [hD5.nds]; exact hwf)
        have hdG := hD6.own.gram (by rw [hD6.nds]; exact hwf)
        have hL5 : L.length = g.nodes.length := by rw [← hD5.nds]; simp
        have hL6 : L'.length = g.nodes.length := by rw [← hD6.nds]; simp
        rw [hD5.nds, hL5] at hcG
        rw [hD6.nds, hL6] at hdG
        obtain ⟨x0, x1⟩ := cells2 (hch.heap H3.out.2.2.2.1 (by simp))
        obtain ⟨y0, y1⟩ := cells2 (hch.heap H3.out.2.2.2.2 (by simp))
        obtain ⟨z0, z1⟩ := cells2 hC5
        have H4 := Lib.hid (And.intro hg4 (And.intro hh4 (And.intro hcG (And.intro hdG (And.intro hch (And.intro hC5 (And.intro hC6 (And.intro hD5 (And.intro hD6 (And.intro hL5 hL6))))))))))
        have hlw := hch.size
        clear hg4 hh4 hcG hdG hch hC5 hC6 hD5 hD6 hL5 hL6 hwf
        dsimp only
        go_wp2_with fail
        have kx0 := cell_rg x0
        have kx1 := cell_rg x1
        have ky0 := cell_rg y0
        have ky1 := cell_rg y1
        have kz0 := cell_rg z0
        have kz1 := cell_rg z1
        have cA := calls_rg (w := w4) (fun w1 h1 => gramSame_any w1 a1 n1 c1 a2 n2 c2 g p1 m1 e1 p2 m2 e2 h (H4.out.1.keep h1.kp) (H4.out.2.1.keep h1.kp))
        have cB := calls_rg (w := w4) (fun w1 h1 => Same_any w1 a1 n1 c1 a2 n2 c2 g p1 m1 e1 p2 m2 e2 h (H4.out.1.keep h1.kp) (H4.out.2.1.keep h1.kp))
        have cC := calls_rg (w := w4) (fun w1 h1 => Same_any w1 b1 g.rules.length d1 b2 g.nodes.length d2 g a1 n1 c1 a2 n2 c2 g (H4.out.2.2.1.keep h1.kp) (H4.out.1.keep h1.kp))
        have cD := calls_rg (w := w4) (fun w1 h1 => gramSame_any w1 a1 n1 c1 a2 n2 c2 g b1 g.rules.length d1 b2 g.nodes.length d2 g (H4.out.1.keep h1.kp) (H4.out.2.2.1.keep h1.kp))
        rw [sameG_refl] at cC cD
        refine wp_region_quiet_below (by kernel_rfl) (by kernel_rfl) ?_
        repeat (go_big_quiet_step (first | (with_reducible exact cA _ _) | (with_reducible exact cB _ _) | (with_reducible exact cC _ _) | (with_reducible exact cD _ _)))
        refine wpQuiet_nil ?_
        intro w5 hw5
        have hc5 := chg_of_rg hw5
        clear hw5 kx0 kx1 ky0 ky1 kz0 kz1 cA cB cC cD x0 x1 y0 y1 z0 z1
        obtain ⟨q1, hq1⟩ : ∃ q1, q1 = g.rules.length := ⟨_, rfl⟩
        obtain ⟨q2, hq2⟩ : ∃ q2, q2 = L.length := ⟨_, rfl⟩
        have hrow := rowsOf_in H4.out.2.2.2.2.2.2.2.1
        obtain ⟨S, hSe⟩ : ∃ S, S = rowsOf b1 g.rules.length d1 b2 L.length d2 L := ⟨_, rfl⟩
        have hst := SpoilI.start S (H4.out.2.2.2.2.2.2.2.1.own.chg0 hc5)
        have hC5 := hc5.heap H4.out.2.2.2.2.2.1 (by simp)
        have hC6 := hc5.heap H4.out.2.2.2.2.2.2.1 (by simp)
        have hN5 : B5 ∉ S := fun hm => by
          rw [hSe] at hm
          obtain ⟨_, _, cur, t, q, ht⟩ := hrow _ hm
          rw [H4.out.2.2.2.2.2.1] at q
          cases q
          exact ht rfl
        have hN6 : B6 ∉ S := fun hm => by
          rw [hSe] at hm
          obtain ⟨_, _, cur, t, q, ht⟩ := hrow _ hm
          rw [H4.out.2.2.2.2.2.2.1] at q
          cases q
          exact ht rfl
        have hSr : ∀ k ∈ S, w3.heap.size ≤ k ∧ k < M := fun k hk => by rw [hSe] at hk; exact ⟨(hrow k hk).1, (hrow k hk).2.1⟩
        have hLq := H4.out.2.2.2.2.2.2.2.2.2.1
        have hcw5 := (H3.out.2.2.1.tr H4.out.2.2.2.2.1).tr hc5
        have hd5 := H4.out.2.2.2.2.2.2.2.2.1.own.chg0 hc5
        have hb0 := hc5.heap (H4.out.2.2.2.2.1.heap H3.out.2.2.2.1 (by simp)) (by simp)
        rw [← hLq, ← hq1, ← hq2] at hC5
        have hq1s : q1 ≤ 300 := by rw [hq1]; exact HS.out.1
        have hq2s : q2 ≤ 300 := by rw [hq2, hLq]; exact HS.out.2.1
        rw [← hq1] at hst
        rw [← hq1] at hSe
        have hsz5 := hc5.size
        have H5 := Lib.hid (And.intro hSe (And.intro hC5 (And.intro hC6 (And.intro hN5 (And.intro hN6 (And.intro hSr (And.intro hcw5 (And.intro hd5 (And.intro hb0 (And.intro hq1 (And.intro hq2 hst)))))))))))
        clear hSe hC5 hC6 hN5 hN6 hSr hLq hcw5 hd5 hb0 hq1 hq2 hst hrow hc5
        obtain ⟨z0, z1⟩ := cells2 H5.out.2.1
        go_wp2_with fail
        clear z0 z1
        go_loopg [7] q1 (fun d iv wr => ∃ k : Nat, d = q1 - k ∧ k ≤ q1 ∧ iv = .int .i64 k ∧ Hid (SpoilI w5 S b1 q1 d1 b2 d2 L 0 wr))
        case atStart => exact ⟨0, rfl, Nat.zero_le _, rfl, Lib.hid H5.out.2.2.2.2.2.2.2.2.2.2.2⟩
        case round =>
          obtain ⟨k, rfl, hk, rfl, HI⟩ := hrel
          obtain ⟨wq, rfl⟩ : ∃ wq, wq = wr := ⟨_, rfl⟩
          obtain ⟨z0, z1⟩ := cells2 (HI.out.chg.heap H5.out.2.1 H5.out.2.2.2.1)
          by_cases hlt : k < q1
          · obtain ⟨G, rfl, ⟨v0, t0⟩, ⟨v1, t1⟩, f0, f1, hnew⟩ := (show SpoilI w5 (rowsOf b1 q1 d1 b2 L.length d2 L) b1 q1 d1 b2 d2 L 0 wq from H5.out.1 ▸ HI.out).ruleAt hlt
            rw [← H5.out.1] at hnew
            have HN := Lib.hid hnew
            clear hnew
            go_wp2_with fail
            go_roundg (q1 - (k + 1))
            case measure => omega
            case rel => exact ⟨k + 1, rfl, by omega, by go_num, Lib.hid (HN.out _ _)⟩
          · have hkq : k = q1 := by omega
            subst hkq
            go_wp2_with fail
            clear z0 z1
            go_loopg [8] q2 (fun d iv wr => ∃ j : Nat, d = q2 - j ∧ j ≤ q2 ∧ iv = .int .i64 j ∧ Hid (SpoilI w5 S b1 k d1 b2 d2 L j wr))
            case atStart => exact ⟨0, rfl, Nat.zero_le _, rfl, HI⟩
            case round =>
              clear HI
              obtain ⟨j, rfl, hj, rfl, HI⟩ := hrel
              obtain ⟨wp, rfl⟩ : ∃ wp, wp = wr := ⟨_, rfl⟩
              obtain ⟨z0, z1⟩ := cells2 (HI.out.chg.heap H5.out.2.1 H5.out.2.2.2.1)
              by_cases hjt : j < q2
              · have hjL : j < L.length := by have := H5.out.2.2.2.2.2.2.2.2.2.2.1; omega
                obtain ⟨ak, hak⟩ : ∃ ak, ak = L[j].2.1 := ⟨_, rfl⟩
                obtain ⟨nk, hnk⟩ : ∃ nk, nk = L[j].1.kids.length := ⟨_, rfl⟩
                obtain ⟨ck, hck⟩ : ∃ ck, ck = L[j].2.2 := ⟨_, rfl⟩
                have hnk3 : nk ≤ 300 := by
                  rw [hnk]
                  exact HS.out.2.2 _ (by rw [← H4.out.2.2.2.2.2.2.2.1.nds]; exact List.mem_map_of_mem (List.getElem_mem hjL))
                have HK := Lib.hid (And.intro hak (And.intro hnk hck))
                clear hak hnk hck
                go_wp2_with fail
                clear z0 z1
                go_loopg [9] nk (fun d iv wr => ∃ i : Nat, d = nk - i ∧ i ≤ nk ∧ iv = .int .i64 i ∧ Hid (SpoilI w5 S b1 k d1 b2 d2 L j wr))
                case atStart => exact ⟨0, rfl, Nat.zero_le _, rfl, HI⟩
                case round =>
                  clear HI
                  obtain ⟨i, rfl, hi, rfl, HI⟩ := hrel
                  obtain ⟨wn, rfl⟩ : ∃ wn, wn = wr := ⟨_, rfl⟩
                  obtain ⟨z0, z1⟩ := cells2 (HI.out.chg.heap H5.out.2.1 H5.out.2.2.2.1)
                  obtain ⟨G, hG, hs, hcl, hfz, hnew⟩ := (show SpoilI w5 (rowsOf b1 k d1 b2 L.length d2 L) b1 k d1 b2 d2 L j wn from H5.out.1 ▸ HI.out).nodeAt hjL
                  rw [← HK.out.1, ← HK.out.2.1, ← HK.out.2.2] at hs
                  rw [← H5.out.1] at hnew
                  by_cases hit : i < nk
                  · obtain ⟨K, hK, ⟨v0, t0⟩, g0, hput⟩ := (show SpoilI w5 (rowsOf b1 k d1 b2 L.length d2 L) b1 k d1 b2 d2 L j wn from H5.out.1 ▸ HI.out).kidAt hjL (k := i) (by rw [← HK.out.2.1]; exact hit)
                    rw [← HK.out.1] at hK
                    rw [← H5.out.1] at hput
                    have HP := Lib.hid hput
                    clear hput hnew hcl hfz
                    subst hG
                    subst hK
                    go_wp2_with fail
                    go_roundg (nk - (i + 1))
                    case measure => omega
                    case rel => exact ⟨i + 1, rfl, by omega, by go_num, Lib.hid (HP.out _)⟩
                  · have hin : i = nk := by omega
                    obtain ⟨v0, t0⟩ := hcl 0 (by decide)
                    obtain ⟨v1, t1⟩ := hcl 1 (by decide)
                    obtain ⟨v2, t2⟩ := hcl 2 (by decide)
                    obtain ⟨v3, t3⟩ := hcl 3 (by decide)
                    obtain ⟨v4, t4⟩ := hcl 4 (by decide)
                    obtain ⟨v5, t5⟩ := hcl 5 (by decide)
                    obtain ⟨v6, t6⟩ := hcl 6 (by decide)
                    obtain ⟨v7, t7⟩ := hcl 7 (by decide)
                    have f0 := hfz 0
                    have f1 := hfz 1
                    have f2 := hfz 2
                    have f3 := hfz 3
                    have f4 := hfz 4
                    have f5 := hfz 5
                    have f6 := hfz 6
                    have f7 := hfz 7
                    have f8 := hfz 8
                    rw [Nat.add_zero] at t0 f0
                    have HP := Lib.hid hnew
                    clear hnew hcl hfz
                    subst hG
                    go_wp2_with fail
                    go_roundg (q2 - (j + 1))
                    case measure => omega
                    case rel => exact ⟨j + 1, rfl, by omega, by go_num, Lib.hid (HP.out _ _ _ _ _ _ _ _ _)⟩
              · have hjq : j = q2 := by omega
                obtain ⟨hSe, hC5, hC6, hN5, hN6, hSr, hcw5, hd5, hb0, hq1, hq2, hst⟩ := H5.out
                have hch := HI.out.chg
                have hdp := hd5.under hch (fun k hk => (hSr k hk).2)
                have hwf := H.out.1.wf
                have hdG := hdp.gram (by rw [H4.out.2.2.2.2.2.2.2.2.1.nds]; exact hwf)
                rw [H4.out.2.2.2.2.2.2.2.2.1.nds, H4.out.2.2.2.2.2.2.2.2.2.2] at hdG
                have hl2 := H2.out.2.2.1.size
                have hcp := hcw5.trans hch (fun k hk => .inr (by have := (hSr k hk).1; omega))
                have hgp := H.out.1.keep hcp.kp
                have hb6 := hch.heap hC6 hN6
                have hbA := hch.heap hb0 (fun hm => by have := (hSr _ hm).1; omega)
                obtain ⟨x0, x1⟩ := cells2 hbA
                obtain ⟨y0, y1⟩ := cells2 hb6
                have HF := Lib.hid (And.intro hdG (And.intro hgp hcp))
                clear hSe hC5 hC6 hN5 hN6 hSr hcw5 hd5 hb0 hq1 hq2 hst hch hdp hwf hdG hcp hgp hb6 hbA hl2
                go_wp2_with fail
                refine (Same_any _ _ _ _ _ _ _ g _ _ _ _ _ _ g HF.out.1 HF.out.2.1).mono ?_
                rintro e w6 ⟨rfl, hc6⟩
                rw [sameG_refl]
                clear x0 x1 y0 y1
                go_wp2_with fail
                refine (awake_any _).mono ?_
                rintro e w7 ⟨rfl, hc7⟩
                have HZ := Lib.hid (And.intro hc6 hc7)
                clear hc6 hc7
                go_wp2_with fail
                go_ret
                exact ⟨rfl, (HF.out.2.2.tr HZ.out.1).tr HZ.out.2⟩
end Go.Proofs.Ytibgfgfmljhimaa

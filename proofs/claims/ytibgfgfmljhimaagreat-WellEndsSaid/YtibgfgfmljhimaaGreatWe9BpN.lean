/-
  Rows of nodes that lie apart: flatNodes says so, and writes over them alone.
  Conditions: the rows are rows of their own, all apart; they are not too long.
-/
import Derived.Test.YtibgfgfmljhimaaGreatWe9Bp1
set_option linter.unusedVariables false
set_option linter.unusedSimpArgs false
set_option linter.unnecessarySimpa false
namespace Go.Proofs.YtibgfgfmljhimaaGreat
open Go.RowKit Go.MapKept Go.Shelf

theorem Tryz.infoRowNQ : (Tryz.prog.info? 23).map (fun i => (i.zero, i.size, i.bytes)) = some (some (.slice none 0 0), 1, 24) := by kernel_rfl
set_option maxRecDepth 100000 in
set_option maxHeartbeats 64000000 in
theorem flatNodes_any (w : World) (b : Option Addr) (cL N : Nat) (S : List Nat) (R : Nat → IR) (hN : N ≤ 400000) (hlen : ∀ j, j < N → (R j).n ≤ 1000000000) (hls : OuterQ 23 w b cL N R) (hap : ApartQ kdN N w S R) :
    Calls Tryz.prog 139 #[.slice b N cL] w fun e w' => e = .returned (.bool true) ∧ Chg S w w' := by
  obtain ⟨i0, hi0, hz0, hz1, hz2⟩ := info_parts Tryz.infoNode
  have H := Lib.hid (And.intro hlen (And.intro hls hap))
  clear hlen hls hap
  go_enter Tryz.func139, Tryz.ntmps139
  go_wp2_with fail
  go_loopg [3] N (fun dd kv wr => ∃ k : Nat, dd = N - k ∧ k ≤ N ∧ kv = .int .i64 k ∧ Hid (marksQ kdN N wr R k 0 ∧ Chg S w wr))
  case atStart => exact ⟨0, rfl, Nat.zero_le _, rfl, Lib.hid ⟨fun j hj => (H.out.2.2.row j hj).le (by split; omega; split <;> omega), Chg.refl _ _⟩⟩
  case round =>
    obtain ⟨k, rfl, hk, rfl, hin⟩ := hrel
    obtain ⟨wk, rfl⟩ : ∃ wk, wk = wr := ⟨_, rfl⟩
    by_cases hkl : k < N
    · have hlk := H.out.1 k hkl
      obtain ⟨rn, hrn⟩ : ∃ rn, rn = (R k).n := ⟨_, rfl⟩
      rw [← hrn] at hlk
      have HN := Lib.hid hrn
      clear hrn
      go_wp2_with fail
      go_loopg [4] rn (fun dd iv wr => ∃ i : Nat, dd = rn - i ∧ i ≤ rn ∧ iv = .int .i64 i ∧ Hid (marksQ kdN N wr R k i ∧ Chg S w wr))
      case atStart => exact ⟨0, rfl, Nat.zero_le _, rfl, hin⟩
      case round =>
        obtain ⟨i, rfl, hi, rfl, hin2⟩ := hrel
        obtain ⟨wq, rfl⟩ : ∃ wq, wq = wr := ⟨_, rfl⟩
        obtain ⟨bL, hbL, hbLl, hNc, hcm, hcell, -, -⟩ := (H.out.2.1.chg hin2.out.2 H.out.2.2.all).at hkl
        subst hbL
        have hcv : (R k).v = .slice (R k).a rn (R k).c := by rw [HN.out]; rfl
        rw [hcv] at hcell
        clear hcv
        by_cases hil : i < rn
        · obtain ⟨xs, h1, h2⟩ := hin2.out.1 k hkl
          obtain ⟨g, ga, gb, gl, gn, gc, gm⟩ : ∃ g, (R k).a = some ⟨g, 0, none⟩ ∧ (R k).blk = some g ∧ g < wq.heap.size ∧ (R k).n = (R k).n ∧ (R k).n ≤ (R k).c ∧ (R k).c ≤ maxLen := by
            rcases row_form h1 with ⟨_, q, _⟩ | q
            · have := HN.out; omega
            · exact q
          obtain ⟨rc, hrc⟩ : ∃ rc, rc = (R k).c := ⟨_, rfl⟩
          have hRk : R k = ⟨some ⟨g, 0, none⟩, rn, rc⟩ := by rw [← ga, HN.out, hrc]
          rw [ga, ← hrc] at hcell
          obtain ⟨mz, hmz⟩ : ∃ mz, mz = markZ k i := ⟨_, rfl⟩
          have hMk : ∀ W, Calls Tryz.prog 124 #[.int .i64 k, .int .i64 i] W fun e w' => e = .returned (.agg #[.int .i64 0, .int .u64 0, .int .u64 0, .int .u64 0, .int .u64 0, .string ⟨#[]⟩, .int .i64 mz, .int .i64 0, .slice none 0 0]) ∧ Chg [] W w' := fun W => by rw [hmz]; exact markNode_lit W k i (by omega) (by omega) (by omega) (by omega)
          have HM := Lib.hid hMk
          have HR := Lib.hid (And.intro hRk hmz)
          have hrnc : rn ≤ rc := by rw [hrc, HN.out]; exact gc
          clear hMk hmz h1 h2 gb gn gc gm ga hrc hRk gl
          have hi1 : (i : Int) < rn := by omega
          have hk1 : (k : Int) < N := by omega
          go_wp2_with fail
          refine wp_region_tail1 (by kernel_rfl) (by kernel_rfl) [31, 32, 33, 34, 35, 36, 37, 38, 39] (by kernel_rfl) (fun rI rV rW => match rI with | 0 => rV = .slice (some ⟨bL, 0, none⟩) N cL | 1 => rV = .int .i64 k | 2 => rV = .pointer (some ⟨bL, k, none⟩) | 3 => rV = .slice (some ⟨g, 0, none⟩) rn rc | 4 => rV = .int .i64 i | 5 => rV = .int .i64 k | 6 => rV = .int .i64 i | 7 => rV = .agg #[.int .i64 0, .int .u64 0, .int .u64 0, .int .u64 0, .int .u64 0, .string ⟨#[]⟩, .int .i64 mz, .int .i64 0, .slice none 0 0] | 8 => rV = .pointer (some ⟨g, i * 9, none⟩) | _ => True) ?hS10 ?hstep10 ?hdone10
          case hS10 =>
            intro rI rV rW rW' hc rP
            match rI, rP with
            | 0, rP => exact rP
            | 1, rP => exact rP
            | 2, rP => exact rP
            | 3, rP => exact rP
            | 4, rP => exact rP
            | 5, rP => exact rP
            | 6, rP => exact rP
            | 7, rP => exact rP
            | 8, rP => exact rP
            | _ + 9, _ => trivial
          case hstep10 =>
            intro rI rH us W hC hdep K hK
            have hiN : rI < 9 := rH
            simp only [actU, Act.put, List.setIfInBounds_toArray, List.set_cons_succ, List.set_cons_zero, Nat.reduceAdd] at hK ⊢
            have hcl := hC.cell hcell (by simp)
            rcases (show rI = 0 ∨ rI = 1 ∨ rI = 2 ∨ rI = 3 ∨ rI = 4 ∨ rI = 5 ∨ rI = 6 ∨ rI = 7 ∨ rI = 8 by omega) with rfl | rfl | rfl | rfl | rfl | rfl | rfl | rfl | rfl
            · simp only [List.getD_cons_succ, List.getD_cons_zero, List.setIfInBounds_toArray, List.set_cons_succ, List.set_cons_zero] at hK ⊢
              refine wpOp_at rfl rfl ?_
              go_simp
              exact hK _ _ _ rfl (Chg.refl _ _) rfl
            · simp only [List.getD_cons_succ, List.getD_cons_zero, List.setIfInBounds_toArray, List.set_cons_succ, List.set_cons_zero] at hK ⊢
              refine wpOp_at rfl rfl ?_
              go_simp
              exact hK _ _ _ rfl (Chg.refl _ _) rfl
            · have l0 := hdep 0 (by kernel_rfl)
              replace l0 : us 0 = .slice (some ⟨bL, 0, none⟩) N cL := l0
              have l1 := hdep 1 (by kernel_rfl)
              replace l1 : us 1 = .int .i64 k := l1
              simp only [List.getD_cons_succ, List.getD_cons_zero, List.setIfInBounds_toArray, List.set_cons_succ, List.set_cons_zero, l0, l1] at hK ⊢
              refine wpOp_at rfl rfl ?_
              go_simp
              exact hK _ _ _ rfl (Chg.refl _ _) rfl
            · have l2 := hdep 2 (by kernel_rfl)
              replace l2 : us 2 = .pointer (some ⟨bL, k, none⟩) := l2
              simp only [List.getD_cons_succ, List.getD_cons_zero, List.setIfInBounds_toArray, List.set_cons_succ, List.set_cons_zero, l2] at hK ⊢
              refine wpOp_at rfl rfl ?_
              go_simp
              exact hK _ _ _ rfl (Chg.refl _ _) rfl
            · simp only [List.getD_cons_succ, List.getD_cons_zero, List.setIfInBounds_toArray, List.set_cons_succ, List.set_cons_zero] at hK ⊢
              refine wpOp_at rfl rfl ?_
              go_simp
              exact hK _ _ _ rfl (Chg.refl _ _) rfl
            · simp only [List.getD_cons_succ, List.getD_cons_zero, List.setIfInBounds_toArray, List.set_cons_succ, List.set_cons_zero] at hK ⊢
              refine wpOp_at rfl rfl ?_
              go_simp
              exact hK _ _ _ rfl (Chg.refl _ _) rfl
            · simp only [List.getD_cons_succ, List.getD_cons_zero, List.setIfInBounds_toArray, List.set_cons_succ, List.set_cons_zero] at hK ⊢
              refine wpOp_at rfl rfl ?_
              go_simp
              exact hK _ _ _ rfl (Chg.refl _ _) rfl
            · have l5 := hdep 5 (by kernel_rfl)
              replace l5 : us 5 = .int .i64 k := l5
              have l6 := hdep 6 (by kernel_rfl)
              replace l6 : us 6 = .int .i64 i := l6
              simp only [List.getD_cons_succ, List.getD_cons_zero, List.setIfInBounds_toArray, List.set_cons_succ, List.set_cons_zero, l5, l6] at hK ⊢
              refine wpOp_at rfl rfl ?_
              go_simp
              refine (HM.out W).mono ?_
              rintro e wz ⟨rfl, hz⟩
              exact hK _ _ _ rfl hz rfl
            · have l3 := hdep 3 (by kernel_rfl)
              replace l3 : us 3 = .slice (some ⟨g, 0, none⟩) rn rc := l3
              have l4 := hdep 4 (by kernel_rfl)
              replace l4 : us 4 = .int .i64 i := l4
              simp only [List.getD_cons_succ, List.getD_cons_zero, List.setIfInBounds_toArray, List.set_cons_succ, List.set_cons_zero, l3, l4] at hK ⊢
              refine wpOp_at rfl rfl ?_
              go_simp
              exact hK _ _ _ rfl (Chg.refl _ _) rfl
          case hdone10 =>
            intro us W hC hall
            have l0 := hall 0 (by decide)
            replace l0 : us 0 = .slice (some ⟨bL, 0, none⟩) N cL := l0
            have l1 := hall 1 (by decide)
            replace l1 : us 1 = .int .i64 k := l1
            have l2 := hall 2 (by decide)
            replace l2 : us 2 = .pointer (some ⟨bL, k, none⟩) := l2
            have l3 := hall 3 (by decide)
            replace l3 : us 3 = .slice (some ⟨g, 0, none⟩) rn rc := l3
            have l4 := hall 4 (by decide)
            replace l4 : us 4 = .int .i64 i := l4
            have l5 := hall 5 (by decide)
            replace l5 : us 5 = .int .i64 k := l5
            have l6 := hall 6 (by decide)
            replace l6 : us 6 = .int .i64 i := l6
            have l7 := hall 7 (by decide)
            replace l7 : us 7 = .agg #[.int .i64 0, .int .u64 0, .int .u64 0, .int .u64 0, .int .u64 0, .string ⟨#[]⟩, .int .i64 mz, .int .i64 0, .slice none 0 0] := l7
            have l8 := hall 8 (by decide)
            replace l8 : us 8 = .pointer (some ⟨g, i * 9, none⟩) := l8
            simp only [actU, Act.put, List.setIfInBounds_toArray, List.set_cons_succ, List.set_cons_zero, Nat.reduceAdd, l0, l1, l2, l3, l4, l5, l6, l7, l8]
            clear hall l0 l1 l2 l3 l4 l5 l6 l7 l8
            obtain ⟨hcf, hgS, W9, hW9, hm9, hc9⟩ := marksQ.put oqN H.out.2.2 hkl (hin2.out.1.chg0 oqN hC) HR.out.1 hil [.int .i64 0, .int .u64 0, .int .u64 0, .int .u64 0, .int .u64 0, .string ⟨#[]⟩, .int .i64 mz, .int .i64 0, .slice none 0 0] (show kdN.El W k i [.int .i64 0, .int .u64 0, .int .u64 0, .int .u64 0, .int .u64 0, .string ⟨#[]⟩, .int .i64 mz, .int .i64 0, .slice none 0 0] from (by show ([.int .i64 0, .int .u64 0, .int .u64 0, .int .u64 0, .int .u64 0, .string ⟨#[]⟩, .int .i64 mz, .int .i64 0, .slice none 0 0] : List Value) = _; rw [HR.out.2]))
            replace hW9 : W9 = (((((((((W).setCell ⟨g, i * 9, none⟩ (.int .i64 0)).setCell ⟨g, i * 9 + 1, none⟩ (.int .u64 0)).setCell ⟨g, i * 9 + 2, none⟩ (.int .u64 0)).setCell ⟨g, i * 9 + 3, none⟩ (.int .u64 0)).setCell ⟨g, i * 9 + 4, none⟩ (.int .u64 0)).setCell ⟨g, i * 9 + 5, none⟩ (.string ⟨#[]⟩)).setCell ⟨g, i * 9 + 6, none⟩ (.int .i64 mz)).setCell ⟨g, i * 9 + 7, none⟩ (.int .i64 0)).setCell ⟨g, i * 9 + 8, none⟩ (.slice none 0 0) := hW9
            obtain ⟨⟨u0, hu0⟩, hf0⟩ : (∃ v, W.cell? ⟨g, i * 9, none⟩ = some v) ∧ W.frozen? ⟨g, i * 9, none⟩ = false := hcf 0 (by decide)
            obtain ⟨⟨u1, hu1⟩, hf1⟩ : (∃ v, W.cell? ⟨g, i * 9 + 1, none⟩ = some v) ∧ W.frozen? ⟨g, i * 9 + 1, none⟩ = false := hcf 1 (by decide)
            obtain ⟨⟨u2, hu2⟩, hf2⟩ : (∃ v, W.cell? ⟨g, i * 9 + 2, none⟩ = some v) ∧ W.frozen? ⟨g, i * 9 + 2, none⟩ = false := hcf 2 (by decide)
            obtain ⟨⟨u3, hu3⟩, hf3⟩ : (∃ v, W.cell? ⟨g, i * 9 + 3, none⟩ = some v) ∧ W.frozen? ⟨g, i * 9 + 3, none⟩ = false := hcf 3 (by decide)
            obtain ⟨⟨u4, hu4⟩, hf4⟩ : (∃ v, W.cell? ⟨g, i * 9 + 4, none⟩ = some v) ∧ W.frozen? ⟨g, i * 9 + 4, none⟩ = false := hcf 4 (by decide)
            obtain ⟨⟨u5, hu5⟩, hf5⟩ : (∃ v, W.cell? ⟨g, i * 9 + 5, none⟩ = some v) ∧ W.frozen? ⟨g, i * 9 + 5, none⟩ = false := hcf 5 (by decide)
            obtain ⟨⟨u6, hu6⟩, hf6⟩ : (∃ v, W.cell? ⟨g, i * 9 + 6, none⟩ = some v) ∧ W.frozen? ⟨g, i * 9 + 6, none⟩ = false := hcf 6 (by decide)
            obtain ⟨⟨u7, hu7⟩, hf7⟩ : (∃ v, W.cell? ⟨g, i * 9 + 7, none⟩ = some v) ∧ W.frozen? ⟨g, i * 9 + 7, none⟩ = false := hcf 7 (by decide)
            obtain ⟨⟨u8, hu8⟩, hf8⟩ : (∃ v, W.cell? ⟨g, i * 9 + 8, none⟩ = some v) ∧ W.frozen? ⟨g, i * 9 + 8, none⟩ = false := hcf 8 (by decide)
            have HZ := Lib.hid (And.intro hm9 ((hin2.out.2.tr0 hC).trans hc9 (fun j hj => .inl (by simp only [List.mem_singleton] at hj; subst hj; exact hgS))))
            clear hcf hgS hm9 hc9 hC
            refine wpOp_at rfl rfl ?_
            go_simp
            rw [← hW9]
            clear hW9 hcell hu0 hf0 hu1 hf1 hu2 hf2 hu3 hf3 hu4 hf4 hu5 hf5 hu6 hf6 hu7 hf7 hu8 hf8
            go_wp2_with fail
            go_roundg (rn - (i + 1))
            case measure => omega
            case rel => exact ⟨i + 1, rfl, by omega, by go_num, HZ⟩
        · obtain rfl : i = rn := by omega
          go_wp2_with fail
          go_roundg (N - (k + 1))
          case measure => omega
          case rel =>
            refine ⟨k + 1, rfl, by omega, by go_num, Lib.hid ⟨fun j hj => ?_, hin2.out.2⟩⟩
            have h5 := hin2.out.1 j hj
            by_cases e1 : j < k
            · rw [if_pos e1] at h5
              rw [if_pos (by omega)]
              exact h5
            · rw [if_neg e1] at h5
              by_cases e2 : j = k
              · subst e2
                rw [if_pos rfl, HN.out] at h5
                rw [if_pos (by omega)]
                exact h5
              · rw [if_neg e2] at h5
                rw [if_neg (by omega)]
                exact h5.le (by split <;> omega)
    · obtain rfl : k = N := by omega
      obtain ⟨ob, hmk, hob⟩ := made_outer (P := Tryz.prog) (tt := 37) (t := 23) Tryz.underlying37 Tryz.infoRowNQ k (by omega)
      have HB := Lib.hid (And.intro (hob wk) hin.out)
      clear hob hin
      have hwk := HB.out.2.2.size
      go_wp2_with fail
      have h0 : ApSQ kdN k w S b cL wk.heap.size (wk.alloc ob) R R (fun _ => nilQ) (fun j => (R j).n) := by
        have hca := (Chg.refl [] wk).alloc ob
        have hrow : ∀ j, j < k → RowQ kdN (wk.alloc ob) (R j) (R j).n j := fun j hj => by
          have := HB.out.2.1 j hj
          rw [if_pos hj] at this
          exact this.chg0 oqN hca
        exact ⟨⟨hrow, fun j hj => ⟨Nat.le_refl _, Nat.le_refl _, hrow j hj⟩, fun j hj _ => ⟨rfl, rfl⟩, fun i j hi hj hij x hx hy => H.out.2.2.apart i j hi hj hij x (hx.elim id id) (hy.elim id id)⟩,
          fun j hj x hx => .inl (H.out.2.2.mem j hj x (hx.elim id id)), HB.out.2.2.tr0 hca, (H.out.2.1.chg HB.out.2.2 H.out.2.2.all).chg0 hca, HB.out.1, hwk⟩
      have H0 := Lib.hid h0
      obtain ⟨gb, hgb⟩ : ∃ gb, gb = wk.heap.size := ⟨_, rfl⟩
      rw [← hgb] at H0 ⊢
      have hbg : 0 < k → b ≠ some ⟨gb, 0, none⟩ := fun h e => by
        obtain ⟨bL, e1, e2, _⟩ := H.out.2.1.at h
        rw [e] at e1
        cases e1
        omega
      clear h0 hmk HB hgb hwk
      go_loopg [6] k (fun dd kv wr => ∃ q : Nat, dd = k - q ∧ q ≤ k ∧ kv = .int .i64 q ∧ Hid (∃ G, ApSQ kdN k w S b cL gb wr R G (fun j => if j < q then G j else nilQ) (fun j => (G j).n) ∧ (∀ j, j < k → (G j).n = if j < q then (R j).n + 64 else (R j).n) ∧ ∀ j, q ≤ j → G j = R j))
      case atStart => exact ⟨0, rfl, Nat.zero_le _, rfl, Lib.hid ⟨R, H0.out, fun j hj => by rw [if_neg (Nat.not_lt_zero _)], fun _ _ => rfl⟩⟩
      case round =>
        obtain ⟨q, rfl, hq, rfl, hin⟩ := hrel
        obtain ⟨wg, rfl⟩ : ∃ wk, wk = wr := ⟨_, rfl⟩
        by_cases hql : q < k
        · obtain ⟨G, hA, hGn, hGe⟩ := hin.out
          obtain ⟨bL, hbL, hbLl, hNc, hcm, hcell, -, -⟩ := hA.ls.at hql
          have hlq := H.out.1 q hql
          obtain ⟨rn, hrn⟩ : ∃ rn, rn = (R q).n := ⟨_, rfl⟩
          obtain ⟨ra, hra⟩ : ∃ ra, ra = (R q).a := ⟨_, rfl⟩
          obtain ⟨rc, hrc⟩ : ∃ rc, rc = (R q).c := ⟨_, rfl⟩
          have hRq : R q = ⟨ra, rn, rc⟩ := by rw [hra, hrn, hrc]
          rw [hRq] at hlq hcell
          have hRv : IR.v ⟨ra, rn, rc⟩ = .slice ra rn rc := rfl
          rw [hRv] at hcell
          have HQ := Lib.hid (And.intro hRq hbL)
          have HGe := Lib.hid hGe
          subst hbL
          simp only at hlq
          clear hrn hra hrc hRq hRv hA hGn hGe
          go_wp2_with fail
          go_loopg [8, 7] 64 (fun dd iv gv wr => ∃ (i : Nat) (a : Option Addr) (c : Nat), dd = 64 - i ∧ i ≤ 64 ∧ iv = .int .i64 i ∧ gv = .slice a (rn + i) c ∧ Hid (∃ G, ApSQ kdN k w S (some ⟨bL, 0, none⟩) cL gb wr R G (fun j => if j < q then G j else nilQ) (fun j => (G j).n) ∧ G q = ⟨a, rn + i, c⟩ ∧ (∀ j, j < k → j ≠ q → (G j).n = if j < q then (R j).n + 64 else (R j).n) ∧ ∀ j, q < j → G j = R j))
          case atStart =>
            obtain ⟨G, hA, hGn, hGe⟩ := hin.out
            refine ⟨0, ra, rc, rfl, Nat.zero_le _, rfl, rfl, Lib.hid ⟨G, ?_, (hGe q (Nat.le_refl _)).trans HQ.out.1, fun j hj _ => hGn j hj, fun j hj => hGe j (Nat.le_of_lt hj)⟩⟩
            exact hA
          case round =>
            obtain ⟨i, a, c, rfl, hi, rfl, rfl, hin2⟩ := hrel
            obtain ⟨wq, rfl⟩ : ∃ wq, wq = wr := ⟨_, rfl⟩
            by_cases hil : i < 64
            · obtain ⟨G, hA, hGq, hGn, hGe⟩ := hin2.out
              obtain ⟨bL', e9, hbLl, hNc, hcm, hcell, -, -⟩ := hA.ls.at hql
              cases e9
              rw [HQ.out.1] at hcell
              have hRv : IR.v ⟨ra, rn, rc⟩ = .slice ra rn rc := rfl
              rw [hRv] at hcell
              have hMk := markNode_lit wq q ((rn : Int) + i) (by omega) (by omega) (by omega) (by omega)
              obtain ⟨mz, hmz⟩ : ∃ mz, mz = markZ q ((rn : Int) + i) := ⟨_, rfl⟩
              rw [← hmz] at hMk
              have HA := Lib.hid (And.intro hA (And.intro hGq (And.intro hGn (And.intro hGe hmz))))
              clear hA hGq hGn hGe hmz hRv
              go_wp2_with fail
              refine hMk.mono ?_
              clear hMk
              rintro e w2 ⟨rfl, hc2⟩
              have hca2 := (Chg.refl [] w2).alloc (.cells #[.int .i64 0, .int .u64 0, .int .u64 0, .int .u64 0, .int .u64 0, .string ⟨#[]⟩, .int .i64 mz, .int .i64 0, .slice none 0 0] 53)
              have hA2 := HA.out.1.chg0 oqN (hc2.tr hca2)
              obtain ⟨-, -, ys, hy1, hy2⟩ := hA2.aps.grown q hql
              rw [HA.out.2.1] at hy1 hy2
              have hyl : ys.length = (rn + i) * 9 := hy1.1
              have hnew := cells_at (w := w2.alloc (.cells #[.int .i64 0, .int .u64 0, .int .u64 0, .int .u64 0, .int .u64 0, .string ⟨#[]⟩, .int .i64 mz, .int .i64 0, .slice none 0 0] 53)) (heap_alloc_same _ _)
              have h1' : ∀ u ∈ ([.int .i64 0, .int .u64 0, .int .u64 0, .int .u64 0, .int .u64 0, .string ⟨#[]⟩, .int .i64 mz, .int .i64 0, .slice none 0 0] : List Value), u.oneCell' = true := by simp [Value.oneCell']
              have h2' : rn + i + 1 ≤ maxLen ∧ (rn + i + 1) * 96 ≤ 140737488355328 := by simp only [maxLen]; omega
              have hEl : kdN.El (w2.alloc (.cells #[.int .i64 0, .int .u64 0, .int .u64 0, .int .u64 0, .int .u64 0, .string ⟨#[]⟩, .int .i64 mz, .int .i64 0, .slice none 0 0] 53)) q (rn + i) [.int .i64 0, .int .u64 0, .int .u64 0, .int .u64 0, .int .u64 0, .string ⟨#[]⟩, .int .i64 mz, .int .i64 0, .slice none 0 0] := by show ([.int .i64 0, .int .u64 0, .int .u64 0, .int .u64 0, .int .u64 0, .string ⟨#[]⟩, .int .i64 mz, .int .i64 0, .slice none 0 0] : List Value) = _; rw [HA.out.2.2.2.2, show ((rn + i : Nat) : Int) = (rn : Int) + i by omega]
              have HR := Lib.hid (And.intro hA2 (And.intro hy1 (And.intro hy2 (And.intro hnew (And.intro h1' (And.intro h2' (And.intro hyl hEl)))))))
              clear hA2 hy1 hy2 hnew h1' h2' hyl hc2 hcell hca2 hEl
              go_wp2_with (at_builtin; refine wpList_append_two rfl _ _ 23 rfl 0 53 i0 _ 9 96 Tryz.underlying23 hi0 hz0 hz1 hz2 rfl (by decide) (.slice a (rn + i) c) (rn + i) ys rfl HR.out.2.1 (some ⟨w2.heap.size, 0, none⟩) 1 1 [.int .i64 0, .int .u64 0, .int .u64 0, .int .u64 0, .int .u64 0, .string ⟨#[]⟩, .int .i64 mz, .int .i64 0, .slice none 0 0] rfl rfl (fun h => by cases h) (fun b hb => by cases hb; exact HR.out.2.2.2.1) HR.out.2.2.2.2.1 HR.out.2.2.2.2.2.1.1 HR.out.2.2.2.2.2.1.2 (Nat.zero_le _) ?_; intro v' w5 hr5 hg5 hor5; obtain ⟨a5, c5, rfl⟩ := ownsRow_slice hr5; have HX := Lib.hid (And.intro hr5 (And.intro hg5 hor5)); clear hr5 hg5 hor5)
              go_roundg (64 - (i + 1))
              case measure => omega
              case rel =>
                have hGq := HA.out.2.1
                have hsv : (G q).v = .slice a (rn + i) c := by rw [hGq]; rfl
                have hsn : (G q).n = rn + i := by rw [hGq]
                have hsb : (G q).blk = (Value.slice a (rn + i) c).ownBlock := by unfold IR.blk; rw [hsv]
                have hst := HR.out.1.step oqN (k := q) hql (s := G q) (g' := ⟨a5, rn + i + 1, c5⟩) (.inr rfl) (m' := rn + i + 1) HX.out.1 (fun r hr => by
                    by_cases e : r < rn + i
                    · have e9 : seg kdN.m (ys ++ [.int .i64 0, .int .u64 0, .int .u64 0, .int .u64 0, .int .u64 0, .string ⟨#[]⟩, .int .i64 mz, .int .i64 0, .slice none 0 0]) r = seg kdN.m ys r := seg_left HR.out.2.2.2.2.2.2.1 e
                      rw [e9]
                      exact HR.out.2.2.1 r e
                    · have e2 : r = rn + i := by omega
                      subst e2
                      have e9 : seg kdN.m (ys ++ [.int .i64 0, .int .u64 0, .int .u64 0, .int .u64 0, .int .u64 0, .string ⟨#[]⟩, .int .i64 mz, .int .i64 0, .slice none 0 0]) (rn + i) = [.int .i64 0, .int .u64 0, .int .u64 0, .int .u64 0, .int .u64 0, .string ⟨#[]⟩, .int .i64 mz, .int .i64 0, .slice none 0 0] := seg_right HR.out.2.2.2.2.2.2.1 rfl
                      rw [e9]
                      exact HR.out.2.2.2.2.2.2.2)
                  (by rw [hsb]; exact HX.out.2.1) (by rw [hsv, hsn]; exact HX.out.2.2) (by rw [HQ.out.1]; show rn ≤ rn + i + 1; omega) (by rw [HQ.out.1]; show rn ≤ rn + i + 1; omega)
                have eF : (fun j => if j < q then G j else nilQ) = (fun j => if j < q then upd G q ⟨a5, rn + i + 1, c5⟩ j else nilQ) := funext fun j => by
                  by_cases e : j < q
                  · rw [if_pos e, if_pos e, upd_ne _ _ (by omega)]
                  · rw [if_neg e, if_neg e]
                have eM : upd (fun j => (G j).n) q (rn + i + 1) = fun j => (upd G q ⟨a5, rn + i + 1, c5⟩ j).n := funext fun j => by
                  by_cases e : j = q
                  · subst e; rw [upd_same, upd_same]
                  · rw [upd_ne _ _ e, upd_ne _ _ e]
                rw [eF, eM] at hst
                refine ⟨i + 1, a5, c5, rfl, by omega, by go_num, by rw [Nat.add_assoc], Lib.hid ⟨_, hst, by rw [upd_same, Nat.add_assoc], fun j hj hne => ?_, fun j hj => ?_⟩⟩
                · rw [upd_ne _ _ hne]; exact HA.out.2.2.1 j hj hne
                · rw [upd_ne _ _ (by omega)]; exact HA.out.2.2.2.1 j hj
            · obtain rfl : i = 64 := by omega
              obtain ⟨G, hA, hGq, hGn, hGe⟩ := hin2.out
              obtain ⟨gb', e9, hgl, -, -, hgc, hgf, -⟩ := hA.gs.at hql
              cases e9
              obtain ⟨v9, hv9⟩ : ∃ v, wq.cell? ⟨gb, q, none⟩ = some v := ⟨_, hgc⟩
              have hput := hA.put oqN hql (hbg (by omega)) (G q)
              rw [hGq] at hput
              have eF : upd (fun j => if j < q then G j else nilQ) q ⟨a, rn + 64, c⟩ = (fun j => if j < q + 1 then G j else nilQ) := funext fun j => by
                by_cases e : j = q
                · subst e; rw [upd_same, if_pos (by omega), hGq]
                · rw [upd_ne _ _ e]
                  by_cases e2 : j < q
                  · rw [if_pos e2, if_pos (by omega)]
                  · rw [if_neg e2, if_neg (by omega)]
              rw [eF] at hput
              have HP := Lib.hid (And.intro hput (And.intro hGq (And.intro hGn hGe)))
              clear hput eF hA hGq hGn hGe hgc hcell hin2
              have hiv : ¬ (((64 : Nat) : Int) < 64) := by decide
              go_wp2_with fail
              go_roundg (k - (q + 1))
              case measure => omega
              case rel =>
                refine ⟨q + 1, rfl, by omega, by go_num, Lib.hid ⟨G, HP.out.1, fun j hj => ?_, fun j hj => HP.out.2.2.2 j (by omega)⟩⟩
                by_cases e : j = q
                · subst e
                  rw [if_pos (by omega), HP.out.2.1, HQ.out.1]
                · rw [HP.out.2.2.1 j hj e]
                  by_cases e2 : j < q
                  · rw [if_pos e2, if_pos (by omega)]
                  · rw [if_neg e2, if_neg (by omega)]
        · obtain rfl : q = k := by omega
          obtain ⟨G, hA, hGn, -⟩ := hin.out
          have hA : ApSQ kdN q w S b cL gb wg R G G (fun j => (G j).n) := by
            refine ⟨hA.aps, hA.fr, hA.chg, hA.ls, ?_, hA.gnew⟩
            have h9 := hA.gs
            have e : ((List.range q).map fun j => (if j < q then G j else nilQ).v) = (List.range q).map fun j => (G j).v := List.map_congr_left fun j hj => by rw [if_pos (List.mem_range.1 hj)]
            unfold OuterQ at h9 ⊢
            rw [e] at h9
            exact h9
          have hGn : ∀ j, j < q → (G j).n = (R j).n + 64 := fun j hj => by have := hGn j hj; rwa [if_pos hj] at this
          have HV := Lib.hid (And.intro hA hGn)
          clear hA hGn hin
          go_wp2_with fail
          go_loopg [9] q (fun dd kv wr => ∃ k : Nat, dd = q - k ∧ k ≤ q ∧ kv = .int .i64 k ∧ Hid (Chg [] wg wr))
          case atStart => exact ⟨0, rfl, Nat.zero_le _, rfl, Lib.hid (Chg.refl _ _)⟩
          case round =>
            obtain ⟨k, rfl, hk, rfl, hin⟩ := hrel
            obtain ⟨wh, rfl⟩ : ∃ wk, wk = wr := ⟨_, rfl⟩
            by_cases hkl : k < q
            · obtain ⟨gb', e9, -, -, -, hgc, -, -⟩ := (HV.out.1.chg0 oqN hin.out).gs.at hkl
              cases e9
              obtain ⟨rn, hrn⟩ : ∃ rn, rn = (R k).n := ⟨_, rfl⟩
              have hlq := H.out.1 k hkl
              have hgv : (G k).v = .slice (G k).a (rn + 64) (G k).c := by rw [hrn, ← HV.out.2 k hkl]; rfl
              rw [hgv] at hgc
              rw [← hrn] at hlq
              obtain ⟨ga, hga⟩ : ∃ ga, ga = (G k).a := ⟨_, rfl⟩
              obtain ⟨gc, hgcc⟩ : ∃ gc, gc = (G k).c := ⟨_, rfl⟩
              rw [← hga, ← hgcc] at hgc
              have HK := Lib.hid (And.intro hrn (And.intro hga hgcc))
              clear hrn hga hgcc hgv
              go_wp2_with fail
              go_loopg [10] (rn + 64) (fun dd iv wr => ∃ i : Nat, dd = rn + 64 - i ∧ i ≤ rn + 64 ∧ iv = .int .i64 i ∧ Hid (Chg [] wg wr))
              case atStart => exact ⟨0, rfl, Nat.zero_le _, rfl, hin⟩
              case round =>
                obtain ⟨i, rfl, hi, rfl, hin2⟩ := hrel
                obtain ⟨wq, rfl⟩ : ∃ wq, wq = wr := ⟨_, rfl⟩
                have hA := HV.out.1.chg0 oqN hin2.out
                obtain ⟨gb', e9, -, -, -, hgc, -, -⟩ := hA.gs.at hkl
                cases e9
                obtain ⟨bL, rfl, -, hNc, hcm, hrc, -, -⟩ := hA.ls.at hkl
                have hgv : (G k).v = .slice ga (rn + 64) gc := by rw [HK.out.1, HK.out.2.1, HK.out.2.2, ← HV.out.2 k hkl]; rfl
                obtain ⟨ra, hra⟩ : ∃ ra, ra = (R k).a := ⟨_, rfl⟩
                obtain ⟨rc, hrcc⟩ : ∃ rc, rc = (R k).c := ⟨_, rfl⟩
                have hrv : (R k).v = .slice ra rn rc := by rw [HK.out.1, hra, hrcc]; rfl
                rw [hgv] at hgc
                rw [hrv] at hrc
                by_cases hil : i < rn + 64
                · obtain ⟨mz, hmz⟩ : ∃ mz, mz = markZ k i := ⟨_, rfl⟩
                  have hMk : ∀ W, Calls Tryz.prog 124 #[.int .i64 k, .int .i64 i] W fun e w' => e = .returned (.agg #[.int .i64 0, .int .u64 0, .int .u64 0, .int .u64 0, .int .u64 0, .string ⟨#[]⟩, .int .i64 mz, .int .i64 0, .slice none 0 0]) ∧ Chg [] W w' := fun W => by rw [hmz]; exact markNode_lit W k i (by omega) (by omega) (by omega) (by omega)
                  have HM := Lib.hid hMk
                  have HI : Hid (I64 mz) := Lib.hid (by rw [hmz]; exact markZ_i64 (by omega) (by omega) (by omega) (by omega))
                  clear hMk
                  obtain ⟨g, l9, ya, ye, yc, yl, ym⟩ := ((hA.aps.grown k hkl).2.2).at oqN (i := i) (by rw [HV.out.2 k hkl, ← HK.out.1]; exact hil) (by rw [HV.out.2 k hkl, ← HK.out.1]; exact hil)
                  replace ye : l9 = [.int .i64 0, .int .u64 0, .int .u64 0, .int .u64 0, .int .u64 0, .string ⟨#[]⟩, .int .i64 (markZ k i), .int .i64 0, .slice none 0 0] := ye
                  subst ye
                  rw [← hmz] at yc
                  have y0 : wq.cell? ⟨g, i * 9, none⟩ = some (.int .i64 0) := yc 0 (by decide)
                  have y1 : wq.cell? ⟨g, i * 9 + 1, none⟩ = some (.int .u64 0) := yc 1 (by decide)
                  have y2 : wq.cell? ⟨g, i * 9 + 2, none⟩ = some (.int .u64 0) := yc 2 (by decide)
                  have y3 : wq.cell? ⟨g, i * 9 + 3, none⟩ = some (.int .u64 0) := yc 3 (by decide)
                  have y4 : wq.cell? ⟨g, i * 9 + 4, none⟩ = some (.int .u64 0) := yc 4 (by decide)
                  have y5 : wq.cell? ⟨g, i * 9 + 5, none⟩ = some (.string ⟨#[]⟩) := yc 5 (by decide)
                  have y6 : wq.cell? ⟨g, i * 9 + 6, none⟩ = some (.int .i64 mz) := yc 6 (by decide)
                  have y7 : wq.cell? ⟨g, i * 9 + 7, none⟩ = some (.int .i64 0) := yc 7 (by decide)
                  have y8 : wq.cell? ⟨g, i * 9 + 8, none⟩ = some (.slice none 0 0) := yc 8 (by decide)
                  clear yc
                  rw [HV.out.2 k hkl, ← HK.out.1, ← HK.out.2.2] at yl
                  rw [← HK.out.2.1] at ya
                  subst ya
                  rw [← HK.out.2.2] at ym
                  have ym' : gc ≤ 9223372036854775807 := by simp only [maxLen] at ym; exact ym
                  
                  have hi1 : (i : Int) < (rn : Int) + 64 := by omega
                  have hk1 : (k : Int) < q := by omega
                  by_cases hir : i < rn
                  · obtain ⟨g2, l9, xa, xe, xc, xl, xm⟩ := ((hA.aps.row k hkl)).at oqN (i := i) (by rw [← HK.out.1]; exact hir) (by rw [← HK.out.1]; exact hir)
                    replace xe : l9 = [.int .i64 0, .int .u64 0, .int .u64 0, .int .u64 0, .int .u64 0, .string ⟨#[]⟩, .int .i64 (markZ k i), .int .i64 0, .slice none 0 0] := xe
                    subst xe
                    rw [← hmz] at xc
                    have x0 : wq.cell? ⟨g2, i * 9, none⟩ = some (.int .i64 0) := xc 0 (by decide)
                    have x1 : wq.cell? ⟨g2, i * 9 + 1, none⟩ = some (.int .u64 0) := xc 1 (by decide)
                    have x2 : wq.cell? ⟨g2, i * 9 + 2, none⟩ = some (.int .u64 0) := xc 2 (by decide)
                    have x3 : wq.cell? ⟨g2, i * 9 + 3, none⟩ = some (.int .u64 0) := xc 3 (by decide)
                    have x4 : wq.cell? ⟨g2, i * 9 + 4, none⟩ = some (.int .u64 0) := xc 4 (by decide)
                    have x5 : wq.cell? ⟨g2, i * 9 + 5, none⟩ = some (.string ⟨#[]⟩) := xc 5 (by decide)
                    have x6 : wq.cell? ⟨g2, i * 9 + 6, none⟩ = some (.int .i64 mz) := xc 6 (by decide)
                    have x7 : wq.cell? ⟨g2, i * 9 + 7, none⟩ = some (.int .i64 0) := xc 7 (by decide)
                    have x8 : wq.cell? ⟨g2, i * 9 + 8, none⟩ = some (.slice none 0 0) := xc 8 (by decide)
                    clear xc
                    rw [← hra] at xa
                    subst xa
                    rw [← HK.out.1, ← hrcc] at xl
                    rw [← hrcc] at xm
                    
                    have hd1 : decide ((i : Int) < rn) = true := decide_eq_true (by omega)
                    have hi2 : (i : Int) < rn := by omega
                    clear hmz hgv hrv hra hrcc hA ym xm
                    go_wp2_with fail
                    have cA := calls_rg (w := wq) (fun w1 h1 => HM.out w1)
                    have cB := calls_rg (w := wq) (fun w1 h1 => sameNode_mark w1 mz)
                    have kg := cell_rg hgc
                    have kr := cell_rg hrc
                    have ky0 := cell_rg y0
                    have ky1 := cell_rg y1
                    have ky2 := cell_rg y2
                    have ky3 := cell_rg y3
                    have ky4 := cell_rg y4
                    have ky5 := cell_rg y5
                    have ky6 := cell_rg y6
                    have ky7 := cell_rg y7
                    have ky8 := cell_rg y8
                    have kx0 := cell_rg x0
                    have kx1 := cell_rg x1
                    have kx2 := cell_rg x2
                    have kx3 := cell_rg x3
                    have kx4 := cell_rg x4
                    have kx5 := cell_rg x5
                    have kx6 := cell_rg x6
                    have kx7 := cell_rg x7
                    have kx8 := cell_rg x8
                    refine wp_region_quiet_below (by kernel_rfl) (by kernel_rfl) ?_
                    repeat (go_big_quiet_step (first | (with_reducible exact cA _ _) | (with_reducible exact cB _ _)))
                    refine wpQuiet_nil ?_
                    intro w7 hw7
                    have HW := Lib.hid (hin2.out.tr (chg_of_rg hw7))
                    clear hw7 cA cB kg kr hgc hrc ky0 y0 ky1 y1 ky2 y2 ky3 y3 ky4 y4 ky5 y5 ky6 y6 ky7 y7 ky8 y8 kx0 x0 kx1 x1 kx2 x2 kx3 x3 kx4 x4 kx5 x5 kx6 x6 kx7 x7 kx8 x8 hd1
                    go_wp2_with fail
                    go_roundg (rn + 64 - (i + 1))
                    case measure => omega
                    case rel => exact ⟨i + 1, rfl, by omega, by go_num, HW⟩
                  · have hd1 : decide ((i : Int) < rn) = false := decide_eq_false (by omega)
                    clear hmz hgv hrv hra hrcc hA ym
                    go_wp2_with fail
                    have cA := calls_rg (w := wq) (fun w1 h1 => HM.out w1)
                    have cB := calls_rg (w := wq) (fun w1 h1 => sameNode_mark w1 mz)
                    have kg := cell_rg hgc
                    have kr := cell_rg hrc
                    have ky0 := cell_rg y0
                    have ky1 := cell_rg y1
                    have ky2 := cell_rg y2
                    have ky3 := cell_rg y3
                    have ky4 := cell_rg y4
                    have ky5 := cell_rg y5
                    have ky6 := cell_rg y6
                    have ky7 := cell_rg y7
                    have ky8 := cell_rg y8
                    refine wp_region_quiet_below (by kernel_rfl) (by kernel_rfl) ?_
                    repeat (go_big_quiet_step (first | (with_reducible exact cA _ _) | (with_reducible exact cB _ _)))
                    refine wpQuiet_nil ?_
                    intro w7 hw7
                    have HW := Lib.hid (hin2.out.tr (chg_of_rg hw7))
                    clear hw7 cA cB kg kr hgc hrc ky0 y0 ky1 y1 ky2 y2 ky3 y3 ky4 y4 ky5 y5 ky6 y6 ky7 y7 ky8 y8 hd1
                    go_wp2_with fail
                    go_roundg (rn + 64 - (i + 1))
                    case measure => omega
                    case rel => exact ⟨i + 1, rfl, by omega, by go_num, HW⟩
                · obtain rfl : i = rn + 64 := by omega
                  clear hgv hrv hra hrcc hA hrc
                  go_wp2_with fail
                  go_roundg (q - (k + 1))
                  case measure => omega
                  case rel => exact ⟨k + 1, rfl, by omega, by go_num, hin2⟩
            · obtain rfl : k = q := by omega
              have H1 := Lib.hid (And.intro (HV.out.1.chg0 oqN hin.out) HV.out.2)
              clear hin HV
              obtain ⟨ob2, hmk2, zs0, hob2, hzo, -⟩ := made_full (P := Tryz.prog) (t := 23) (e := 53) Tryz.underlying23 hi0 hz0 hz1 rfl (by decide) (by simp [Value.cells, Value.oneCell']) 64 (by rw [hz2]; omega) (by simp only [maxLen]; omega)
              have HO := Lib.hid (And.intro hob2 hzo)
              replace hmk2 : ∀ W : World, (Instr.makeSlice 23 (.int .i64 64) (.int .i64 64)).run Tryz.prog W = .ok (.slice (some ⟨W.heap.size, 0, none⟩) 64 64) (W.alloc ob2) := hmk2
              clear hob2 hzo
              go_wp2_with fail
              go_loopg [11] k (fun dd kv wr => ∃ q : Nat, dd = k - q ∧ q ≤ k ∧ kv = .int .i64 q ∧ Hid (∃ G m, ApSQ kdN k w S b cL gb wr R G G m ∧ ∀ j, j < k → (G j).n = (R j).n + 64))
              case atStart => exact ⟨0, rfl, Nat.zero_le _, rfl, Lib.hid ⟨G, _, H1.out.1, H1.out.2⟩⟩
              case round =>
                obtain ⟨q, rfl, hq, rfl, hin⟩ := hrel
                obtain ⟨wi, rfl⟩ : ∃ wk, wk = wr := ⟨_, rfl⟩
                by_cases hql : q < k
                · go_wp2_with fail
                  obtain ⟨mb, hmb⟩ : ∃ mb, mb = wi.heap.size := ⟨_, rfl⟩
                  have hM0 := HO.out.1 wi
                  rw [← hmb] at hM0 ⊢
                  have HM0 := Lib.hid (And.intro hM0 (And.intro ((Chg.refl [] wi).alloc ob2) hmb))
                  clear hM0 hmb
                  go_loopg [13] 64 (fun dd iv wr => ∃ i : Nat, dd = 64 - i ∧ i ≤ 64 ∧ iv = .int .i64 i ∧ Hid (∃ ys, wr.ownsRow 0 53 9 (.slice (some ⟨mb, 0, none⟩) 64 64) 64 ys ∧ (∀ u ∈ ys, u.oneCell' = true) ∧ Chg [] wi wr))
                  case atStart => exact ⟨0, rfl, Nat.zero_le _, rfl, Lib.hid ⟨_, HM0.out.1, HO.out.2, HM0.out.2.1⟩⟩
                  case round =>
                    obtain ⟨i, rfl, hi, rfl, hin2⟩ := hrel
                    obtain ⟨wq, rfl⟩ : ∃ wq, wq = wr := ⟨_, rfl⟩
                    obtain ⟨ys, hys, hone, hcw⟩ := hin2.out
                    by_cases hil : i < 64
                    · go_wp2_with fail
                      refine (markNode_lit wq ((q : Int) + k) i (by omega) (by omega) (by omega) (by omega)).mono ?_
                      rintro e w2 ⟨rfl, hc2⟩
                      obtain ⟨mz, hmz⟩ : ∃ mz, mz = markZ ((q : Int) + k) i := ⟨_, rfl⟩
                      rw [← hmz]
                      clear hmz
                      have hrow2 := hc2.row hys (fun _ _ => by simp)
                      have hcf : ∀ r, r < 9 → (∃ v, w2.cell? ⟨mb, i * 9 + r, none⟩ = some v) ∧ w2.frozen? ⟨mb, i * 9 + r, none⟩ = false := fun r hr => by
                        obtain ⟨q1, q2, _⟩ := row_put hrow2 (i := i * 9 + r) (by omega)
                        refine ⟨?_, q2⟩
                        rw [q1]
                        exact ⟨_, List.getElem?_eq_getElem (by rw [hrow2.1]; omega)⟩
                      obtain ⟨W9, ys9, hW9, hown9, hch9, -, hmem9⟩ := row_puts [.int .i64 0, .int .u64 0, .int .u64 0, .int .u64 0, .int .u64 0, .string ⟨#[]⟩, .int .i64 mz, .int .i64 0, .slice none 0 0] (i * 9) w2 ys hrow2 (by show i * 9 + 9 ≤ 64 * 9; omega)
                      replace hW9 : W9 = (((((((((w2).setCell ⟨mb, i * 9, none⟩ (.int .i64 0)).setCell ⟨mb, i * 9 + 1, none⟩ (.int .u64 0)).setCell ⟨mb, i * 9 + 2, none⟩ (.int .u64 0)).setCell ⟨mb, i * 9 + 3, none⟩ (.int .u64 0)).setCell ⟨mb, i * 9 + 4, none⟩ (.int .u64 0)).setCell ⟨mb, i * 9 + 5, none⟩ (.string ⟨#[]⟩)).setCell ⟨mb, i * 9 + 6, none⟩ (.int .i64 mz)).setCell ⟨mb, i * 9 + 7, none⟩ (.int .i64 0)).setCell ⟨mb, i * 9 + 8, none⟩ (.slice none 0 0) := hW9
                      obtain ⟨⟨u0, hu0⟩, hf0⟩ : (∃ v, w2.cell? ⟨mb, i * 9, none⟩ = some v) ∧ w2.frozen? ⟨mb, i * 9, none⟩ = false := hcf 0 (by decide)
                      obtain ⟨⟨u1, hu1⟩, hf1⟩ : (∃ v, w2.cell? ⟨mb, i * 9 + 1, none⟩ = some v) ∧ w2.frozen? ⟨mb, i * 9 + 1, none⟩ = false := hcf 1 (by decide)
                      obtain ⟨⟨u2, hu2⟩, hf2⟩ : (∃ v, w2.cell? ⟨mb, i * 9 + 2, none⟩ = some v) ∧ w2.frozen? ⟨mb, i * 9 + 2, none⟩ = false := hcf 2 (by decide)
                      obtain ⟨⟨u3, hu3⟩, hf3⟩ : (∃ v, w2.cell? ⟨mb, i * 9 + 3, none⟩ = some v) ∧ w2.frozen? ⟨mb, i * 9 + 3, none⟩ = false := hcf 3 (by decide)
                      obtain ⟨⟨u4, hu4⟩, hf4⟩ : (∃ v, w2.cell? ⟨mb, i * 9 + 4, none⟩ = some v) ∧ w2.frozen? ⟨mb, i * 9 + 4, none⟩ = false := hcf 4 (by decide)
                      obtain ⟨⟨u5, hu5⟩, hf5⟩ : (∃ v, w2.cell? ⟨mb, i * 9 + 5, none⟩ = some v) ∧ w2.frozen? ⟨mb, i * 9 + 5, none⟩ = false := hcf 5 (by decide)
                      obtain ⟨⟨u6, hu6⟩, hf6⟩ : (∃ v, w2.cell? ⟨mb, i * 9 + 6, none⟩ = some v) ∧ w2.frozen? ⟨mb, i * 9 + 6, none⟩ = false := hcf 6 (by decide)
                      obtain ⟨⟨u7, hu7⟩, hf7⟩ : (∃ v, w2.cell? ⟨mb, i * 9 + 7, none⟩ = some v) ∧ w2.frozen? ⟨mb, i * 9 + 7, none⟩ = false := hcf 7 (by decide)
                      obtain ⟨⟨u8, hu8⟩, hf8⟩ : (∃ v, w2.cell? ⟨mb, i * 9 + 8, none⟩ = some v) ∧ w2.frozen? ⟨mb, i * 9 + 8, none⟩ = false := hcf 8 (by decide)
                      have h1vs : ∀ u ∈ ([.int .i64 0, .int .u64 0, .int .u64 0, .int .u64 0, .int .u64 0, .string ⟨#[]⟩, .int .i64 mz, .int .i64 0, .slice none 0 0] : List Value), u.oneCell' = true := by simp [Value.oneCell']
                      have HZ := Lib.hid (And.intro hown9 (And.intro (show ∀ u ∈ ys9, u.oneCell' = true from fun u hu => (hmem9 u hu).elim (hone u) (h1vs u)) ((hcw.tr hc2).trans hch9 (fun j hj => .inr (by simp at hj; have := HM0.out.2.2; omega)))))
                      clear hcf hown9 hch9 hmem9 h1vs hrow2 hys hone hcw hc2 hin2
                      go_wp2_with fail
                      rw [← hW9]
                      clear hW9 hu0 hf0 hu1 hf1 hu2 hf2 hu3 hf3 hu4 hf4 hu5 hf5 hu6 hf6 hu7 hf7 hu8 hf8
                      go_roundg (64 - (i + 1))
                      case measure => omega
                      case rel => exact ⟨i + 1, rfl, by omega, by go_num, Lib.hid ⟨_, HZ.out.1, HZ.out.2.1, HZ.out.2.2⟩⟩
                    · obtain rfl : i = 64 := by omega
                      obtain ⟨G, m, hA, hGn⟩ := hin.out
                      have hA := hA.chg0 oqN hcw
                      obtain ⟨bL, rfl, -, hNc, hcm, hrc, -, -⟩ := hA.ls.at hql
                      obtain ⟨rn, hrn⟩ : ∃ rn, rn = (R q).n := ⟨_, rfl⟩
                      obtain ⟨ra, hra⟩ : ∃ ra, ra = (R q).a := ⟨_, rfl⟩
                      obtain ⟨rc, hrcc⟩ : ∃ rc, rc = (R q).c := ⟨_, rfl⟩
                      have hrv : (R q).v = .slice ra rn rc := by rw [hrn, hra, hrcc]; rfl
                      rw [hrv] at hrc
                      obtain ⟨xs, hx1, hx2⟩ := hA.aps.row q hql
                      have hlq := H.out.1 q hql
                      rw [← hrn] at hlq hx1 hx2
                      rw [hrv] at hx1
                      have hcells : ∀ j u, ys[j]? = some u → wq.cell? ((⟨mb, 0, none⟩ : Addr).add j) = some u := hys.cells (g := mb) rfl
                      have h2' : rn + 64 ≤ maxLen ∧ (rn + 64) * 96 ≤ 140737488355328 := by simp only [maxLen]; omega
                      have HX := Lib.hid (And.intro hA (And.intro hGn (And.intro hx1 (And.intro hx2 (And.intro hcells (And.intro hys.1 (And.intro hone (And.intro h2' (And.intro hrn hrv)))))))))
                      have hq1 : (q : Int) < k := by omega
                      clear hA hGn hx1 hx2 hcells hys hone h2' hrn hrv hra hrcc hcw hin2
                      go_wp2_with (at_builtin; refine wpList_append_two rfl _ _ 23 rfl 0 53 i0 _ 9 96 Tryz.underlying23 hi0 hz0 hz1 hz2 rfl (by decide) (.slice ra rn rc) rn xs rfl HX.out.2.2.1 (some ⟨mb, 0, none⟩) 64 64 ys rfl HX.out.2.2.2.2.2.1 (fun h => by cases h) (fun b hb => by cases hb; exact HX.out.2.2.2.2.1) HX.out.2.2.2.2.2.2.1 HX.out.2.2.2.2.2.2.2.1.1 HX.out.2.2.2.2.2.2.2.1.2 (Nat.zero_le _) ?_; intro v' w5 hr5 hg5 hor5; obtain ⟨a5, c5, rfl⟩ := ownsRow_slice hr5; have hst := HX.out.1.step oqN (k := q) hql (s := R q) (g' := ⟨a5, rn + 64, c5⟩) (.inl rfl) (m' := rn) hr5 (fun r hr => by have e9 : seg kdN.m (xs ++ ys) r = seg kdN.m xs r := seg_left HX.out.2.2.1.1 hr; rw [e9]; exact HX.out.2.2.2.1 r hr) (by unfold IR.blk; rw [HX.out.2.2.2.2.2.2.2.2.2]; exact hg5) (by rw [HX.out.2.2.2.2.2.2.2.2.2, ← HX.out.2.2.2.2.2.2.2.2.1]; exact hor5) (by rw [← HX.out.2.2.2.2.2.2.2.2.1]; show rn ≤ rn + 64; omega) (by rw [← HX.out.2.2.2.2.2.2.2.2.1]; exact Nat.le_refl _); obtain ⟨gb', e9, hgl, -, -, hgc, hgf, -⟩ := hst.gs.at hql; cases e9; obtain ⟨v9, hv9⟩ : ∃ v, w5.cell? ⟨gb, q, none⟩ = some v := ⟨_, hgc⟩; have HST := Lib.hid (hst.put oqN hql (hbg (by omega)) ⟨a5, rn + 64, c5⟩); clear hr5 hg5 hor5 hst hgc)
                      clear hv9 hgf
                      go_roundg (k - (q + 1))
                      case measure => omega
                      case rel =>
                        refine ⟨q + 1, rfl, by omega, by go_num, Lib.hid ⟨upd G q ⟨a5, rn + 64, c5⟩, _, HST.out, fun j hj => ?_⟩⟩
                        by_cases e : j = q
                        · subst e; rw [upd_same, ← HX.out.2.2.2.2.2.2.2.2.1]
                        · rw [upd_ne _ _ e]; exact HX.out.2.1 j hj
                · obtain rfl : q = k := by omega
                  obtain ⟨G, m, hA, hGn⟩ := hin.out
                  have HV := Lib.hid (And.intro hA hGn)
                  clear hA hGn hin
                  go_wp2_with fail
                  go_loopg [14] q (fun dd kv wr => ∃ k : Nat, dd = q - k ∧ k ≤ q ∧ kv = .int .i64 k ∧ Hid (Chg [] wi wr))
                  case atStart => exact ⟨0, rfl, Nat.zero_le _, rfl, Lib.hid (Chg.refl _ _)⟩
                  case round =>
                    obtain ⟨k, rfl, hk, rfl, hin⟩ := hrel
                    obtain ⟨wj, rfl⟩ : ∃ wk, wk = wr := ⟨_, rfl⟩
                    by_cases hkl : k < q
                    · obtain ⟨rn, hrn⟩ : ∃ rn, rn = (R k).n := ⟨_, rfl⟩
                      have hlq := H.out.1 k hkl
                      rw [← hrn] at hlq
                      have HK := Lib.hid hrn
                      clear hrn
                      go_wp2_with fail
                      go_loopg [15] rn (fun dd iv wr => ∃ i : Nat, dd = rn - i ∧ i ≤ rn ∧ iv = .int .i64 i ∧ Hid (Chg [] wi wr))
                      case atStart => exact ⟨0, rfl, Nat.zero_le _, rfl, hin⟩
                      case round =>
                        obtain ⟨i, rfl, hi, rfl, hin2⟩ := hrel
                        obtain ⟨wq, rfl⟩ : ∃ wq, wq = wr := ⟨_, rfl⟩
                        have hA := HV.out.1.chg0 oqN hin2.out
                        obtain ⟨gb', e9, -, -, -, hgc, -, -⟩ := hA.gs.at hkl
                        cases e9
                        obtain ⟨bL, rfl, -, hNc, hcm, hrc, -, -⟩ := hA.ls.at hkl
                        obtain ⟨ga, hga⟩ : ∃ ga, ga = (G k).a := ⟨_, rfl⟩
                        obtain ⟨gc, hgcc⟩ : ∃ gc, gc = (G k).c := ⟨_, rfl⟩
                        obtain ⟨ra, hra⟩ : ∃ ra, ra = (R k).a := ⟨_, rfl⟩
                        obtain ⟨rc, hrcc⟩ : ∃ rc, rc = (R k).c := ⟨_, rfl⟩
                        have hgv : (G k).v = .slice ga (rn + 64) gc := by rw [HK.out, hga, hgcc, ← HV.out.2 k hkl]; rfl
                        have hrv : (R k).v = .slice ra rn rc := by rw [HK.out, hra, hrcc]; rfl
                        rw [hgv] at hgc
                        rw [hrv] at hrc
                        by_cases hil : i < rn
                        · obtain ⟨mz, hmz⟩ : ∃ mz, mz = markZ k i := ⟨_, rfl⟩
                          have hMk : ∀ W, Calls Tryz.prog 124 #[.int .i64 k, .int .i64 i] W fun e w' => e = .returned (.agg #[.int .i64 0, .int .u64 0, .int .u64 0, .int .u64 0, .int .u64 0, .string ⟨#[]⟩, .int .i64 mz, .int .i64 0, .slice none 0 0]) ∧ Chg [] W w' := fun W => by rw [hmz]; exact markNode_lit W k i (by omega) (by omega) (by omega) (by omega)
                          have HM := Lib.hid hMk
                          have HI : Hid (I64 mz) := Lib.hid (by rw [hmz]; exact markZ_i64 (by omega) (by omega) (by omega) (by omega))
                          clear hMk
                          obtain ⟨q1, q2, q3⟩ := hA.aps.grown k hkl
                          obtain ⟨g, l9, ya, ye, yc, yl, ym⟩ := (q3).at oqN (i := i) (by rw [← HK.out] at q2; omega) (by rw [HV.out.2 k hkl, ← HK.out]; omega)
                          replace ye : l9 = [.int .i64 0, .int .u64 0, .int .u64 0, .int .u64 0, .int .u64 0, .string ⟨#[]⟩, .int .i64 (markZ k i), .int .i64 0, .slice none 0 0] := ye
                          subst ye
                          rw [← hmz] at yc
                          have y0 : wq.cell? ⟨g, i * 9, none⟩ = some (.int .i64 0) := yc 0 (by decide)
                          have y1 : wq.cell? ⟨g, i * 9 + 1, none⟩ = some (.int .u64 0) := yc 1 (by decide)
                          have y2 : wq.cell? ⟨g, i * 9 + 2, none⟩ = some (.int .u64 0) := yc 2 (by decide)
                          have y3 : wq.cell? ⟨g, i * 9 + 3, none⟩ = some (.int .u64 0) := yc 3 (by decide)
                          have y4 : wq.cell? ⟨g, i * 9 + 4, none⟩ = some (.int .u64 0) := yc 4 (by decide)
                          have y5 : wq.cell? ⟨g, i * 9 + 5, none⟩ = some (.string ⟨#[]⟩) := yc 5 (by decide)
                          have y6 : wq.cell? ⟨g, i * 9 + 6, none⟩ = some (.int .i64 mz) := yc 6 (by decide)
                          have y7 : wq.cell? ⟨g, i * 9 + 7, none⟩ = some (.int .i64 0) := yc 7 (by decide)
                          have y8 : wq.cell? ⟨g, i * 9 + 8, none⟩ = some (.slice none 0 0) := yc 8 (by decide)
                          clear yc
                          rw [HV.out.2 k hkl, ← HK.out, ← hgcc] at yl
                          rw [← hga] at ya
                          subst ya
                          
                          obtain ⟨g2, l9, xa, xe, xc, xl, xm⟩ := ((hA.aps.row k hkl)).at oqN (i := i) (by rw [← HK.out]; exact hil) (by rw [← HK.out]; exact hil)
                          replace xe : l9 = [.int .i64 0, .int .u64 0, .int .u64 0, .int .u64 0, .int .u64 0, .string ⟨#[]⟩, .int .i64 (markZ k i), .int .i64 0, .slice none 0 0] := xe
                          subst xe
                          rw [← hmz] at xc
                          have x0 : wq.cell? ⟨g2, i * 9, none⟩ = some (.int .i64 0) := xc 0 (by decide)
                          have x1 : wq.cell? ⟨g2, i * 9 + 1, none⟩ = some (.int .u64 0) := xc 1 (by decide)
                          have x2 : wq.cell? ⟨g2, i * 9 + 2, none⟩ = some (.int .u64 0) := xc 2 (by decide)
                          have x3 : wq.cell? ⟨g2, i * 9 + 3, none⟩ = some (.int .u64 0) := xc 3 (by decide)
                          have x4 : wq.cell? ⟨g2, i * 9 + 4, none⟩ = some (.int .u64 0) := xc 4 (by decide)
                          have x5 : wq.cell? ⟨g2, i * 9 + 5, none⟩ = some (.string ⟨#[]⟩) := xc 5 (by decide)
                          have x6 : wq.cell? ⟨g2, i * 9 + 6, none⟩ = some (.int .i64 mz) := xc 6 (by decide)
                          have x7 : wq.cell? ⟨g2, i * 9 + 7, none⟩ = some (.int .i64 0) := xc 7 (by decide)
                          have x8 : wq.cell? ⟨g2, i * 9 + 8, none⟩ = some (.slice none 0 0) := xc 8 (by decide)
                          clear xc
                          rw [← hra] at xa
                          subst xa
                          rw [← HK.out, ← hrcc] at xl
                          
                          have hi1 : (i : Int) < (rn : Int) + 64 := by omega
                          have hk1 : (k : Int) < q := by omega
                          have hi2 : (i : Int) < rn := by omega
                          clear hmz hgv hrv hra hrcc hga hgcc hA ym xm q1 q2 q3
                          go_wp2_with fail
                          have cA := calls_rg (w := wq) (fun w1 h1 => HM.out w1)
                          have cB := calls_rg (w := wq) (fun w1 h1 => sameNode_mark w1 mz)
                          have kg := cell_rg hgc
                          have kr := cell_rg hrc
                          have ky0 := cell_rg y0
                          have ky1 := cell_rg y1
                          have ky2 := cell_rg y2
                          have ky3 := cell_rg y3
                          have ky4 := cell_rg y4
                          have ky5 := cell_rg y5
                          have ky6 := cell_rg y6
                          have ky7 := cell_rg y7
                          have ky8 := cell_rg y8
                          have kx0 := cell_rg x0
                          have kx1 := cell_rg x1
                          have kx2 := cell_rg x2
                          have kx3 := cell_rg x3
                          have kx4 := cell_rg x4
                          have kx5 := cell_rg x5
                          have kx6 := cell_rg x6
                          have kx7 := cell_rg x7
                          have kx8 := cell_rg x8
                          refine wp_region_quiet_below (by kernel_rfl) (by kernel_rfl) ?_
                          repeat (go_big_quiet_step (first | (with_reducible exact cA _ _) | (with_reducible exact cB _ _)))
                          refine wpQuiet_nil ?_
                          intro w7 hw7
                          have HW := Lib.hid (hin2.out.tr (chg_of_rg hw7))
                          clear hw7 cA cB kg kr hgc hrc ky0 y0 ky1 y1 ky2 y2 ky3 y3 ky4 y4 ky5 y5 ky6 y6 ky7 y7 ky8 y8 kx0 x0 kx1 x1 kx2 x2 kx3 x3 kx4 x4 kx5 x5 kx6 x6 kx7 x7 kx8 x8 
                          go_wp2_with fail
                          go_roundg (rn - (i + 1))
                          case measure => omega
                          case rel => exact ⟨i + 1, rfl, by omega, by go_num, HW⟩
                        · obtain rfl : i = rn := by omega
                          clear hgv hrv hra hrcc hga hgcc hA hgc
                          go_wp2_with fail
                          go_roundg (q - (k + 1))
                          case measure => omega
                          case rel => exact ⟨k + 1, rfl, by omega, by go_num, hin2⟩
                    · obtain rfl : k = q := by omega
                      go_wp2_with fail
                      go_ret
                      exact ⟨rfl, HV.out.1.chg.tr0 hin.out⟩
end Go.Proofs.YtibgfgfmljhimaaGreat

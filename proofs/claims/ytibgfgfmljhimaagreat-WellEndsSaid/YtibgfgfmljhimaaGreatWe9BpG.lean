/-
  Rows of grammars that lie apart: flatGrammars says so, and writes over them alone.
  Conditions: the rows are rows of their own, all apart; they are not too long.
-/
import Derived.Test.YtibgfgfmljhimaaGreatWe9Bp1
set_option linter.unusedVariables false
set_option linter.unusedSimpArgs false
set_option linter.unnecessarySimpa false
namespace Go.Proofs.YtibgfgfmljhimaaGreat
open Go.RowKit Go.MapKept Go.Shelf

theorem Tryz.infoRowGQ : (Tryz.prog.info? 74).map (fun i => (i.zero, i.size, i.bytes)) = some (some (.slice none 0 0), 1, 24) := by kernel_rfl
set_option maxRecDepth 100000 in
set_option maxHeartbeats 64000000 in
theorem flatGrammars_any (w : World) (b : Option Addr) (cL N : Nat) (S : List Nat) (R : Nat → IR) (hN : N ≤ 400000) (hlen : ∀ j, j < N → (R j).n ≤ 1000000000) (hls : OuterQ 74 w b cL N R) (hap : ApartQ kdG N w S R) :
    Calls Tryz.prog 142 #[.slice b N cL] w fun e w' => e = .returned (.bool true) ∧ Chg S w w' := by
  obtain ⟨i0, hi0, hz0, hz1, hz2⟩ := info_parts Tryz.infoGram
  have H := Lib.hid (And.intro hlen (And.intro hls hap))
  clear hlen hls hap
  go_enter Tryz.func142, Tryz.ntmps142
  go_wp2_with fail
  go_loopg [3] N (fun dd kv wr => ∃ k : Nat, dd = N - k ∧ k ≤ N ∧ kv = .int .i64 k ∧ Hid (marksQ kdG N wr R k 0 ∧ Chg S w wr))
  case atStart => exact ⟨0, rfl, Nat.zero_le _, rfl, Lib.hid ⟨fun j hj => (H.out.2.2.row j hj).le (by split; omega; split <;> omega), Chg.refl _ _⟩⟩
  case round =>
    obtain ⟨k, rfl, hk, rfl, hin⟩ := hrel
    obtain ⟨wk, rfl⟩ : ∃ wk, wk = wr := ⟨_, rfl⟩
    by_cases hkl : k < N
    · have hlk := H.out.1 k hkl
      obtain ⟨rn, hrn⟩ : ∃ rn, rn = (R k).n := ⟨_, rfl⟩
      rw [← hrn] at hlk
      have HN := Lib.hid hrn
      clear hrn
      go_wp2_with fail
      go_loopg [4] rn (fun dd iv wr => ∃ i : Nat, dd = rn - i ∧ i ≤ rn ∧ iv = .int .i64 i ∧ Hid (marksQ kdG N wr R k i ∧ Chg S w wr))
      case atStart => exact ⟨0, rfl, Nat.zero_le _, rfl, hin⟩
      case round =>
        obtain ⟨i, rfl, hi, rfl, hin2⟩ := hrel
        obtain ⟨wq, rfl⟩ : ∃ wq, wq = wr := ⟨_, rfl⟩
        obtain ⟨bL, hbL, hbLl, hNc, hcm, hcell, -, -⟩ := (H.out.2.1.chg hin2.out.2 H.out.2.2.all).at hkl
        subst hbL
        have hcv : (R k).v = .slice (R k).a rn (R k).c := by rw [HN.out]; rfl
        rw [hcv] at hcell
        clear hcv
        by_cases hil : i < rn
        · obtain ⟨xs, h1, h2⟩ := hin2.out.1 k hkl
          obtain ⟨g, ga, gb, gl, gn, gc, gm⟩ : ∃ g, (R k).a = some ⟨g, 0, none⟩ ∧ (R k).blk = some g ∧ g < wq.heap.size ∧ (R k).n = (R k).n ∧ (R k).n ≤ (R k).c ∧ (R k).c ≤ maxLen := by
            rcases row_form h1 with ⟨_, q, _⟩ | q
            · have := HN.out; omega
            · exact q
          obtain ⟨rc, hrc⟩ : ∃ rc, rc = (R k).c := ⟨_, rfl⟩
          have hRk : R k = ⟨some ⟨g, 0, none⟩, rn, rc⟩ := by rw [← ga, HN.out, hrc]
          rw [ga, ← hrc] at hcell
          obtain ⟨mz, hmz⟩ : ∃ mz, mz = markZ k i := ⟨_, rfl⟩
          have hMk : ∀ W, Calls Tryz.prog 165 #[.int .i64 k, .int .i64 i] W fun e w' => ∃ bb, e = .returned (.agg #[.slice (some ⟨bb, 0, none⟩) 1 1, .slice none 0 0]) ∧ grEl w' bb mz ∧ Chg [] W w' := fun W => by rw [hmz]; exact markGrammar_any W k i (by omega) (by omega) (by omega) (by omega)
          have HM := Lib.hid hMk
          have HR := Lib.hid (And.intro hRk hmz)
          have hrnc : rn ≤ rc := by rw [hrc, HN.out]; exact gc
          clear hMk hmz h1 h2 gb gn gc gm ga hrc hRk gl
          have hi1 : (i : Int) < rn := by omega
          have hk1 : (k : Int) < N := by omega
          go_wp2_with fail
          refine wp_region_tail1 (by kernel_rfl) (by kernel_rfl) [31, 32, 33, 34, 35, 36, 37, 38, 39] (by kernel_rfl) (fun rI rV rW => match rI with | 0 => rV = .slice (some ⟨bL, 0, none⟩) N cL | 1 => rV = .int .i64 k | 2 => rV = .pointer (some ⟨bL, k, none⟩) | 3 => rV = .slice (some ⟨g, 0, none⟩) rn rc | 4 => rV = .int .i64 i | 5 => rV = .int .i64 k | 6 => rV = .int .i64 i | 7 => ∃ bb, rV = .agg #[.slice (some ⟨bb, 0, none⟩) 1 1, .slice none 0 0] ∧ grEl rW bb mz | 8 => rV = .pointer (some ⟨g, i * 2, none⟩) | _ => True) ?hS10 ?hstep10 ?hdone10
          case hS10 =>
            intro rI rV rW rW' hc rP
            match rI, rP with
            | 0, rP => exact rP
            | 1, rP => exact rP
            | 2, rP => exact rP
            | 3, rP => exact rP
            | 4, rP => exact rP
            | 5, rP => exact rP
            | 6, rP => exact rP
            | 7, rP => exact (by obtain ⟨bb, e9, hp⟩ := rP; exact ⟨bb, e9, hp.chg0 hc⟩)
            | 8, rP => exact rP
            | _ + 9, _ => trivial
          case hstep10 =>
            intro rI rH us W hC hdep K hK
            have hiN : rI < 9 := rH
            simp only [actU, Act.put, List.setIfInBounds_toArray, List.set_cons_succ, List.set_cons_zero, Nat.reduceAdd] at hK ⊢
            have hcl := hC.cell hcell (by simp)
            rcases (show rI = 0 ∨ rI = 1 ∨ rI = 2 ∨ rI = 3 ∨ rI = 4 ∨ rI = 5 ∨ rI = 6 ∨ rI = 7 ∨ rI = 8 by omega) with rfl | rfl | rfl | rfl | rfl | rfl | rfl | rfl | rfl
            · simp only [List.getD_cons_succ, List.getD_cons_zero, List.setIfInBounds_toArray, List.set_cons_succ, List.set_cons_zero] at hK ⊢
              refine wpOp_at rfl rfl ?_
              go_simp
              exact hK _ _ _ rfl (Chg.refl _ _) rfl
            · simp only [List.getD_cons_succ, List.getD_cons_zero, List.setIfInBounds_toArray, List.set_cons_succ, List.set_cons_zero] at hK ⊢
              refine wpOp_at rfl rfl ?_
              go_simp
              exact hK _ _ _ rfl (Chg.refl _ _) rfl
            · have l0 := hdep 0 (by kernel_rfl)
              replace l0 : us 0 = .slice (some ⟨bL, 0, none⟩) N cL := l0
              have l1 := hdep 1 (by kernel_rfl)
              replace l1 : us 1 = .int .i64 k := l1
              simp only [List.getD_cons_succ, List.getD_cons_zero, List.setIfInBounds_toArray, List.set_cons_succ, List.set_cons_zero, l0, l1] at hK ⊢
              refine wpOp_at rfl rfl ?_
              go_simp
              exact hK _ _ _ rfl (Chg.refl _ _) rfl
            · have l2 := hdep 2 (by kernel_rfl)
              replace l2 : us 2 = .pointer (some ⟨bL, k, none⟩) := l2
              simp only [List.getD_cons_succ, List.getD_cons_zero, List.setIfInBounds_toArray, List.set_cons_succ, List.set_cons_zero, l2] at hK ⊢
              refine wpOp_at rfl rfl ?_
              go_simp
              exact hK _ _ _ rfl (Chg.refl _ _) rfl
            · simp only [List.getD_cons_succ, List.getD_cons_zero, List.setIfInBounds_toArray, List.set_cons_succ, List.set_cons_zero] at hK ⊢
              refine wpOp_at rfl rfl ?_
              go_simp
              exact hK _ _ _ rfl (Chg.refl _ _) rfl
            · simp only [List.getD_cons_succ, List.getD_cons_zero, List.setIfInBounds_toArray, List.set_cons_succ, List.set_cons_zero] at hK ⊢
              refine wpOp_at rfl rfl ?_
              go_simp
              exact hK _ _ _ rfl (Chg.refl _ _) rfl
            · simp only [List.getD_cons_succ, List.getD_cons_zero, List.setIfInBounds_toArray, List.set_cons_succ, List.set_cons_zero] at hK ⊢
              refine wpOp_at rfl rfl ?_
              go_simp
              exact hK _ _ _ rfl (Chg.refl _ _) rfl
            · have l5 := hdep 5 (by kernel_rfl)
              replace l5 : us 5 = .int .i64 k := l5
              have l6 := hdep 6 (by kernel_rfl)
              replace l6 : us 6 = .int .i64 i := l6
              simp only [List.getD_cons_succ, List.getD_cons_zero, List.setIfInBounds_toArray, List.set_cons_succ, List.set_cons_zero, l5, l6] at hK ⊢
              refine wpOp_at rfl rfl ?_
              go_simp
              refine (HM.out W).mono ?_
              rintro e wz ⟨bb, rfl, hel, hz⟩
              exact hK _ _ _ rfl hz ⟨bb, rfl, hel⟩
            · have l3 := hdep 3 (by kernel_rfl)
              replace l3 : us 3 = .slice (some ⟨g, 0, none⟩) rn rc := l3
              have l4 := hdep 4 (by kernel_rfl)
              replace l4 : us 4 = .int .i64 i := l4
              simp only [List.getD_cons_succ, List.getD_cons_zero, List.setIfInBounds_toArray, List.set_cons_succ, List.set_cons_zero, l3, l4] at hK ⊢
              refine wpOp_at rfl rfl ?_
              go_simp
              exact hK _ _ _ rfl (Chg.refl _ _) rfl
          case hdone10 =>
            intro us W hC hall
            have l0 := hall 0 (by decide)
            replace l0 : us 0 = .slice (some ⟨bL, 0, none⟩) N cL := l0
            have l1 := hall 1 (by decide)
            replace l1 : us 1 = .int .i64 k := l1
            have l2 := hall 2 (by decide)
            replace l2 : us 2 = .pointer (some ⟨bL, k, none⟩) := l2
            have l3 := hall 3 (by decide)
            replace l3 : us 3 = .slice (some ⟨g, 0, none⟩) rn rc := l3
            have l4 := hall 4 (by decide)
            replace l4 : us 4 = .int .i64 i := l4
            have l5 := hall 5 (by decide)
            replace l5 : us 5 = .int .i64 k := l5
            have l6 := hall 6 (by decide)
            replace l6 : us 6 = .int .i64 i := l6
            have l7 := hall 7 (by decide)
            obtain ⟨bb, l7, p7⟩ := l7
            have l8 := hall 8 (by decide)
            replace l8 : us 8 = .pointer (some ⟨g, i * 2, none⟩) := l8
            simp only [actU, Act.put, List.setIfInBounds_toArray, List.set_cons_succ, List.set_cons_zero, Nat.reduceAdd, l0, l1, l2, l3, l4, l5, l6, l7, l8]
            clear hall l0 l1 l2 l3 l4 l5 l6 l7 l8
            obtain ⟨hcf, hgS, W9, hW9, hm9, hc9⟩ := marksQ.put oqG H.out.2.2 hkl (hin2.out.1.chg0 oqG hC) HR.out.1 hil [.slice (some ⟨bb, 0, none⟩) 1 1, .slice none 0 0] (show kdG.El W k i [.slice (some ⟨bb, 0, none⟩) 1 1, .slice none 0 0] from ⟨bb, rfl, by rw [← HR.out.2]; exact p7⟩)
            replace hW9 : W9 = ((W).setCell ⟨g, i * 2, none⟩ (.slice (some ⟨bb, 0, none⟩) 1 1)).setCell ⟨g, i * 2 + 1, none⟩ (.slice none 0 0) := hW9
            obtain ⟨⟨u0, hu0⟩, hf0⟩ : (∃ v, W.cell? ⟨g, i * 2, none⟩ = some v) ∧ W.frozen? ⟨g, i * 2, none⟩ = false := hcf 0 (by decide)
            obtain ⟨⟨u1, hu1⟩, hf1⟩ : (∃ v, W.cell? ⟨g, i * 2 + 1, none⟩ = some v) ∧ W.frozen? ⟨g, i * 2 + 1, none⟩ = false := hcf 1 (by decide)
            have HZ := Lib.hid (And.intro hm9 ((hin2.out.2.tr0 hC).trans hc9 (fun j hj => .inl (by simp only [List.mem_singleton] at hj; subst hj; exact hgS))))
            clear hcf hgS hm9 hc9 hC p7
            refine wpOp_at rfl rfl ?_
            go_simp
            rw [← hW9]
            clear hW9 hcell hu0 hf0 hu1 hf1
            go_wp2_with fail
            go_roundg (rn - (i + 1))
            case measure => omega
            case rel => exact ⟨i + 1, rfl, by omega, by go_num, HZ⟩
        · obtain rfl : i = rn := by omega
          go_wp2_with fail
          go_roundg (N - (k + 1))
          case measure => omega
          case rel =>
            refine ⟨k + 1, rfl, by omega, by go_num, Lib.hid ⟨fun j hj => ?_, hin2.out.2⟩⟩
            have h5 := hin2.out.1 j hj
            by_cases e1 : j < k
            · rw [if_pos e1] at h5
              rw [if_pos (by omega)]
              exact h5
            · rw [if_neg e1] at h5
              by_cases e2 : j = k
              · subst e2
                rw [if_pos rfl, HN.out] at h5
                rw [if_pos (by omega)]
                exact h5
              · rw [if_neg e2] at h5
                rw [if_neg (by omega)]
                exact h5.le (by split <;> omega)
    · obtain rfl : k = N := by omega
      obtain ⟨ob, hmk, hob⟩ := made_outer (P := Tryz.prog) (tt := 75) (t := 74) Tryz.underlying75 Tryz.infoRowGQ k (by omega)
      have HB := Lib.hid (And.intro (hob wk) hin.out)
      clear hob hin
      have hwk := HB.out.2.2.size
      go_wp2_with fail
      have h0 : ApSQ kdG k w S b cL wk.heap.size (wk.alloc ob) R R (fun _ => nilQ) (fun j => (R j).n) := by
        have hca := (Chg.refl [] wk).alloc ob
        have hrow : ∀ j, j < k → RowQ kdG (wk.alloc ob) (R j) (R j).n j := fun j hj => by
          have := HB.out.2.1 j hj
          rw [if_pos hj] at this
          exact this.chg0 oqG hca
        exact ⟨⟨hrow, fun j hj => ⟨Nat.le_refl _, Nat.le_refl _, hrow j hj⟩, fun j hj _ => ⟨rfl, rfl⟩, fun i j hi hj hij x hx hy => H.out.2.2.apart i j hi hj hij x (hx.elim id id) (hy.elim id id)⟩,
          fun j hj x hx => .inl (H.out.2.2.mem j hj x (hx.elim id id)), HB.out.2.2.tr0 hca, (H.out.2.1.chg HB.out.2.2 H.out.2.2.all).chg0 hca, HB.out.1, hwk⟩
      have H0 := Lib.hid h0
      obtain ⟨gb, hgb⟩ : ∃ gb, gb = wk.heap.size := ⟨_, rfl⟩
      rw [← hgb] at H0 ⊢
      have hbg : 0 < k → b ≠ some ⟨gb, 0, none⟩ := fun h e => by
        obtain ⟨bL, e1, e2, _⟩ := H.out.2.1.at h
        rw [e] at e1
        cases e1
        omega
      clear h0 hmk HB hgb hwk
      go_loopg [6] k (fun dd kv wr => ∃ q : Nat, dd = k - q ∧ q ≤ k ∧ kv = .int .i64 q ∧ Hid (∃ G, ApSQ kdG k w S b cL gb wr R G (fun j => if j < q then G j else nilQ) (fun j => (G j).n) ∧ (∀ j, j < k → (G j).n = if j < q then (R j).n + 64 else (R j).n) ∧ ∀ j, q ≤ j → G j = R j))
      case atStart => exact ⟨0, rfl, Nat.zero_le _, rfl, Lib.hid ⟨R, H0.out, fun j hj => by rw [if_neg (Nat.not_lt_zero _)], fun _ _ => rfl⟩⟩
      case round =>
        obtain ⟨q, rfl, hq, rfl, hin⟩ := hrel
        obtain ⟨wg, rfl⟩ : ∃ wk, wk = wr := ⟨_, rfl⟩
        by_cases hql : q < k
        · obtain ⟨G, hA, hGn, hGe⟩ := hin.out
          obtain ⟨bL, hbL, hbLl, hNc, hcm, hcell, -, -⟩ := hA.ls.at hql
          have hlq := H.out.1 q hql
          obtain ⟨rn, hrn⟩ : ∃ rn, rn = (R q).n := ⟨_, rfl⟩
          obtain ⟨ra, hra⟩ : ∃ ra, ra = (R q).a := ⟨_, rfl⟩
          obtain ⟨rc, hrc⟩ : ∃ rc, rc = (R q).c := ⟨_, rfl⟩
          have hRq : R q = ⟨ra, rn, rc⟩ := by rw [hra, hrn, hrc]
          rw [hRq] at hlq hcell
          have hRv : IR.v ⟨ra, rn, rc⟩ = .slice ra rn rc := rfl
          rw [hRv] at hcell
          have HQ := Lib.hid (And.intro hRq hbL)
          have HGe := Lib.hid hGe
          subst hbL
          simp only at hlq
          clear hrn hra hrc hRq hRv hA hGn hGe
          go_wp2_with fail
          go_loopg [8, 7] 64 (fun dd iv gv wr => ∃ (i : Nat) (a : Option Addr) (c : Nat), dd = 64 - i ∧ i ≤ 64 ∧ iv = .int .i64 i ∧ gv = .slice a (rn + i) c ∧ Hid (∃ G, ApSQ kdG k w S (some ⟨bL, 0, none⟩) cL gb wr R G (fun j => if j < q then G j else nilQ) (fun j => (G j).n) ∧ G q = ⟨a, rn + i, c⟩ ∧ (∀ j, j < k → j ≠ q → (G j).n = if j < q then (R j).n + 64 else (R j).n) ∧ ∀ j, q < j → G j = R j))
          case atStart =>
            obtain ⟨G, hA, hGn, hGe⟩ := hin.out
            refine ⟨0, ra, rc, rfl, Nat.zero_le _, rfl, rfl, Lib.hid ⟨G, ?_, (hGe q (Nat.le_refl _)).trans HQ.out.1, fun j hj _ => hGn j hj, fun j hj => hGe j (Nat.le_of_lt hj)⟩⟩
            exact hA
          case round =>
            obtain ⟨i, a, c, rfl, hi, rfl, rfl, hin2⟩ := hrel
            obtain ⟨wq, rfl⟩ : ∃ wq, wq = wr := ⟨_, rfl⟩
            by_cases hil : i < 64
            · obtain ⟨G, hA, hGq, hGn, hGe⟩ := hin2.out
              obtain ⟨bL', e9, hbLl, hNc, hcm, hcell, -, -⟩ := hA.ls.at hql
              cases e9
              rw [HQ.out.1] at hcell
              have hRv : IR.v ⟨ra, rn, rc⟩ = .slice ra rn rc := rfl
              rw [hRv] at hcell
              have hMk := markGrammar_any wq q ((rn : Int) + i) (by omega) (by omega) (by omega) (by omega)
              obtain ⟨mz, hmz⟩ : ∃ mz, mz = markZ q ((rn : Int) + i) := ⟨_, rfl⟩
              rw [← hmz] at hMk
              have HA := Lib.hid (And.intro hA (And.intro hGq (And.intro hGn (And.intro hGe hmz))))
              clear hA hGq hGn hGe hmz hRv
              go_wp2_with fail
              refine hMk.mono ?_
              clear hMk
              rintro e w2 ⟨bb, rfl, hel, hc2⟩
              have hca2 := (Chg.refl [] w2).alloc (.cells #[.slice (some ⟨bb, 0, none⟩) 1 1, .slice none 0 0] 25)
              have hA2 := HA.out.1.chg0 oqG (hc2.tr hca2)
              obtain ⟨-, -, ys, hy1, hy2⟩ := hA2.aps.grown q hql
              rw [HA.out.2.1] at hy1 hy2
              have hyl : ys.length = (rn + i) * 2 := hy1.1
              have hnew := cells_at (w := w2.alloc (.cells #[.slice (some ⟨bb, 0, none⟩) 1 1, .slice none 0 0] 25)) (heap_alloc_same _ _)
              have h1' : ∀ u ∈ ([.slice (some ⟨bb, 0, none⟩) 1 1, .slice none 0 0] : List Value), u.oneCell' = true := by simp [Value.oneCell']
              have h2' : rn + i + 1 ≤ maxLen ∧ (rn + i + 1) * 48 ≤ 140737488355328 := by simp only [maxLen]; omega
              have hEl : kdG.El (w2.alloc (.cells #[.slice (some ⟨bb, 0, none⟩) 1 1, .slice none 0 0] 25)) q (rn + i) [.slice (some ⟨bb, 0, none⟩) 1 1, .slice none 0 0] := ⟨bb, rfl, by rw [show ((rn + i : Nat) : Int) = (rn : Int) + i by omega, ← HA.out.2.2.2.2]; exact hel.chg0 hca2⟩
              have HR := Lib.hid (And.intro hA2 (And.intro hy1 (And.intro hy2 (And.intro hnew (And.intro h1' (And.intro h2' (And.intro hyl hEl)))))))
              clear hA2 hy1 hy2 hnew h1' h2' hyl hc2 hcell hca2 hEl hel
              go_wp2_with (at_builtin; refine wpList_append_two rfl _ _ 74 rfl 0 25 i0 _ 2 48 Tryz.underlying74 hi0 hz0 hz1 hz2 rfl (by decide) (.slice a (rn + i) c) (rn + i) ys rfl HR.out.2.1 (some ⟨w2.heap.size, 0, none⟩) 1 1 [.slice (some ⟨bb, 0, none⟩) 1 1, .slice none 0 0] rfl rfl (fun h => by cases h) (fun b hb => by cases hb; exact HR.out.2.2.2.1) HR.out.2.2.2.2.1 HR.out.2.2.2.2.2.1.1 HR.out.2.2.2.2.2.1.2 (Nat.zero_le _) ?_; intro v' w5 hr5 hg5 hor5; obtain ⟨a5, c5, rfl⟩ := ownsRow_slice hr5; have HX := Lib.hid (And.intro hr5 (And.intro hg5 hor5)); clear hr5 hg5 hor5)
              go_roundg (64 - (i + 1))
              case measure => omega
              case rel =>
                have hGq := HA.out.2.1
                have hsv : (G q).v = .slice a (rn + i) c := by rw [hGq]; rfl
                have hsn : (G q).n = rn + i := by rw [hGq]
                have hsb : (G q).blk = (Value.slice a (rn + i) c).ownBlock := by unfold IR.blk; rw [hsv]
                have hst := HR.out.1.step oqG (k := q) hql (s := G q) (g' := ⟨a5, rn + i + 1, c5⟩) (.inr rfl) (m' := rn + i + 1) HX.out.1 (fun r hr => by
                    by_cases e : r < rn + i
                    · have e9 : seg kdG.m (ys ++ [.slice (some ⟨bb, 0, none⟩) 1 1, .slice none 0 0]) r = seg kdG.m ys r := seg_left HR.out.2.2.2.2.2.2.1 e
                      rw [e9]
                      exact HR.out.2.2.1 r e
                    · have e2 : r = rn + i := by omega
                      subst e2
                      have e9 : seg kdG.m (ys ++ [.slice (some ⟨bb, 0, none⟩) 1 1, .slice none 0 0]) (rn + i) = [.slice (some ⟨bb, 0, none⟩) 1 1, .slice none 0 0] := seg_right HR.out.2.2.2.2.2.2.1 rfl
                      rw [e9]
                      exact HR.out.2.2.2.2.2.2.2)
                  (by rw [hsb]; exact HX.out.2.1) (by rw [hsv, hsn]; exact HX.out.2.2) (by rw [HQ.out.1]; show rn ≤ rn + i + 1; omega) (by rw [HQ.out.1]; show rn ≤ rn + i + 1; omega)
                have eF : (fun j => if j < q then G j else nilQ) = (fun j => if j < q then upd G q ⟨a5, rn + i + 1, c5⟩ j else nilQ) := funext fun j => by
                  by_cases e : j < q
                  · rw [if_pos e, if_pos e, upd_ne _ _ (by omega)]
                  · rw [if_neg e, if_neg e]
                have eM : upd (fun j => (G j).n) q (rn + i + 1) = fun j => (upd G q ⟨a5, rn + i + 1, c5⟩ j).n := funext fun j => by
                  by_cases e : j = q
                  · subst e; rw [upd_same, upd_same]
                  · rw [upd_ne _ _ e, upd_ne _ _ e]
                rw [eF, eM] at hst
                refine ⟨i + 1, a5, c5, rfl, by omega, by go_num, by rw [Nat.add_assoc], Lib.hid ⟨_, hst, by rw [upd_same, Nat.add_assoc], fun j hj hne => ?_, fun j hj => ?_⟩⟩
                · rw [upd_ne _ _ hne]; exact HA.out.2.2.1 j hj hne
                · rw [upd_ne _ _ (by omega)]; exact HA.out.2.2.2.1 j hj
            · obtain rfl : i = 64 := by omega
              obtain ⟨G, hA, hGq, hGn, hGe⟩ := hin2.out
              obtain ⟨gb', e9, hgl, -, -, hgc, hgf, -⟩ := hA.gs.at hql
              cases e9
              obtain ⟨v9, hv9⟩ : ∃ v, wq.cell? ⟨gb, q, none⟩ = some v := ⟨_, hgc⟩
              have hput := hA.put oqG hql (hbg (by omega)) (G q)
              rw [hGq] at hput
              have eF : upd (fun j => if j < q then G j else nilQ) q ⟨a, rn + 64, c⟩ = (fun j => if j < q + 1 then G j else nilQ) := funext fun j => by
                by_cases e : j = q
                · subst e; rw [upd_same, if_pos (by omega), hGq]
                · rw [upd_ne _ _ e]
                  by_cases e2 : j < q
                  · rw [if_pos e2, if_pos (by omega)]
                  · rw [if_neg e2, if_neg (by omega)]
              rw [eF] at hput
              have HP := Lib.hid (And.intro hput (And.intro hGq (And.intro hGn hGe)))
              clear hput eF hA hGq hGn hGe hgc hcell hin2
              have hiv : ¬ (((64 : Nat) : Int) < 64) := by decide
              go_wp2_with fail
              go_roundg (k - (q + 1))
              case measure => omega
              case rel =>
                refine ⟨q + 1, rfl, by omega, by go_num, Lib.hid ⟨G, HP.out.1, fun j hj => ?_, fun j hj => HP.out.2.2.2 j (by omega)⟩⟩
                by_cases e : j = q
                · subst e
                  rw [if_pos (by omega), HP.out.2.1, HQ.out.1]
                · rw [HP.out.2.2.1 j hj e]
                  by_cases e2 : j < q
                  · rw [if_pos e2, if_pos (by omega)]
                  · rw [if_neg e2, if_neg (by omega)]
        · obtain rfl : q = k := by omega
          obtain ⟨G, hA, hGn, -⟩ := hin.out
          have hA : ApSQ kdG q w S b cL gb wg R G G (fun j => (G j).n) := by
            refine ⟨hA.aps, hA.fr, hA.chg, hA.ls, ?_, hA.gnew⟩
            have h9 := hA.gs
            have e : ((List.range q).map fun j => (if j < q then G j else nilQ).v) = (List.range q).map fun j => (G j).v := List.map_congr_left fun j hj => by rw [if_pos (List.mem_range.1 hj)]
            unfold OuterQ at h9 ⊢
            rw [e] at h9
            exact h9
          have hGn : ∀ j, j < q → (G j).n = (R j).n + 64 := fun j hj => by have := hGn j hj; rwa [if_pos hj] at this
          have HV := Lib.hid (And.intro hA hGn)
          clear hA hGn hin
          go_wp2_with fail
          go_loopg [9] q (fun dd kv wr => ∃ k : Nat, dd = q - k ∧ k ≤ q ∧ kv = .int .i64 k ∧ Hid (Chg [] wg wr))
          case atStart => exact ⟨0, rfl, Nat.zero_le _, rfl, Lib.hid (Chg.refl _ _)⟩
          case round =>
            obtain ⟨k, rfl, hk, rfl, hin⟩ := hrel
            obtain ⟨wh, rfl⟩ : ∃ wk, wk = wr := ⟨_, rfl⟩
            by_cases hkl : k < q
            · obtain ⟨gb', e9, -, -, -, hgc, -, -⟩ := (HV.out.1.chg0 oqG hin.out).gs.at hkl
              cases e9
              obtain ⟨rn, hrn⟩ : ∃ rn, rn = (R k).n := ⟨_, rfl⟩
              have hlq := H.out.1 k hkl
              have hgv : (G k).v = .slice (G k).a (rn + 64) (G k).c := by rw [hrn, ← HV.out.2 k hkl]; rfl
              rw [hgv] at hgc
              rw [← hrn] at hlq
              obtain ⟨ga, hga⟩ : ∃ ga, ga = (G k).a := ⟨_, rfl⟩
              obtain ⟨gc, hgcc⟩ : ∃ gc, gc = (G k).c := ⟨_, rfl⟩
              rw [← hga, ← hgcc] at hgc
              have HK := Lib.hid (And.intro hrn (And.intro hga hgcc))
              clear hrn hga hgcc hgv
              go_wp2_with fail
              go_loopg [10] (rn + 64) (fun dd iv wr => ∃ i : Nat, dd = rn + 64 - i ∧ i ≤ rn + 64 ∧ iv = .int .i64 i ∧ Hid (Chg [] wg wr))
              case atStart => exact ⟨0, rfl, Nat.zero_le _, rfl, hin⟩
              case round =>
                obtain ⟨i, rfl, hi, rfl, hin2⟩ := hrel
                obtain ⟨wq, rfl⟩ : ∃ wq, wq = wr := ⟨_, rfl⟩
                have hA := HV.out.1.chg0 oqG hin2.out
                obtain ⟨gb', e9, -, -, -, hgc, -, -⟩ := hA.gs.at hkl
                cases e9
                obtain ⟨bL, rfl, -, hNc, hcm, hrc, -, -⟩ := hA.ls.at hkl
                have hgv : (G k).v = .slice ga (rn + 64) gc := by rw [HK.out.1, HK.out.2.1, HK.out.2.2, ← HV.out.2 k hkl]; rfl
                obtain ⟨ra, hra⟩ : ∃ ra, ra = (R k).a := ⟨_, rfl⟩
                obtain ⟨rc, hrcc⟩ : ∃ rc, rc = (R k).c := ⟨_, rfl⟩
                have hrv : (R k).v = .slice ra rn rc := by rw [HK.out.1, hra, hrcc]; rfl
                rw [hgv] at hgc
                rw [hrv] at hrc
                by_cases hil : i < rn + 64
                · obtain ⟨mz, hmz⟩ : ∃ mz, mz = markZ k i := ⟨_, rfl⟩
                  have hMk : ∀ W, Calls Tryz.prog 165 #[.int .i64 k, .int .i64 i] W fun e w' => ∃ bb, e = .returned (.agg #[.slice (some ⟨bb, 0, none⟩) 1 1, .slice none 0 0]) ∧ grEl w' bb mz ∧ Chg [] W w' := fun W => by rw [hmz]; exact markGrammar_any W k i (by omega) (by omega) (by omega) (by omega)
                  have HM := Lib.hid hMk
                  have HI : Hid (I64 mz) := Lib.hid (by rw [hmz]; exact markZ_i64 (by omega) (by omega) (by omega) (by omega))
                  clear hMk
                  obtain ⟨g, l9, ya, ye, yc, yl, ym⟩ := ((hA.aps.grown k hkl).2.2).at oqG (i := i) (by rw [HV.out.2 k hkl, ← HK.out.1]; exact hil) (by rw [HV.out.2 k hkl, ← HK.out.1]; exact hil)
                  obtain ⟨bg, rfl, yg⟩ := ye
                  rw [← hmz] at yg
                  have y0 : wq.cell? ⟨g, i * 2, none⟩ = some (.slice (some ⟨bg, 0, none⟩) 1 1) := yc 0 (by decide)
                  have y1 : wq.cell? ⟨g, i * 2 + 1, none⟩ = some (.slice none 0 0) := yc 1 (by decide)
                  clear yc
                  rw [HV.out.2 k hkl, ← HK.out.1, ← HK.out.2.2] at yl
                  rw [← HK.out.2.1] at ya
                  subst ya
                  rw [← HK.out.2.2] at ym
                  have ym' : gc ≤ 9223372036854775807 := by simp only [maxLen] at ym; exact ym
                  have HG2 := Lib.hid yg
                  clear yg

                  have hi1 : (i : Int) < (rn : Int) + 64 := by omega
                  have hk1 : (k : Int) < q := by omega
                  by_cases hir : i < rn
                  · obtain ⟨g2, l9, xa, xe, xc, xl, xm⟩ := ((hA.aps.row k hkl)).at oqG (i := i) (by rw [← HK.out.1]; exact hir) (by rw [← HK.out.1]; exact hir)
                    obtain ⟨br, rfl, xg⟩ := xe
                    rw [← hmz] at xg
                    have x0 : wq.cell? ⟨g2, i * 2, none⟩ = some (.slice (some ⟨br, 0, none⟩) 1 1) := xc 0 (by decide)
                    have x1 : wq.cell? ⟨g2, i * 2 + 1, none⟩ = some (.slice none 0 0) := xc 1 (by decide)
                    clear xc
                    rw [← hra] at xa
                    subst xa
                    rw [← HK.out.1, ← hrcc] at xl
                    rw [← hrcc] at xm
                    have HR2 := Lib.hid xg
                    clear xg

                    have hd1 : decide ((i : Int) < rn) = true := decide_eq_true (by omega)
                    have hi2 : (i : Int) < rn := by omega
                    clear hmz hgv hrv hra hrcc hA ym xm
                    go_wp2_with fail
                    refine wp_region_st (by kernel_rfl) (by kernel_rfl) [88, 89, 90, 91, 92, 93, 94, 95, 96, 97, 98, 99, 100, 101, 102, 103, 104, 105, 106, 107, 108, 109, 110, 111, 112, 113, 114, 115, 116, 117, 118, 119, 120, 121, 122] (by kernel_rfl) (fun rI rV rW => match rI with | 0 => rV = .slice (some ⟨gb, 0, none⟩) q q | 1 => rV = .int .i64 k | 2 => rV = .pointer (some ⟨gb, k, none⟩) | 3 => rV = .slice (some ⟨g, 0, none⟩) (rn + 64) gc | 4 => rV = .int .i64 i | 5 => rV = .pointer (some ⟨g, i * 2, none⟩) | 6 => rV = .agg #[.slice (some ⟨bg, 0, none⟩) 1 1, .slice none 0 0] | 7 => rV = .int .i64 k | 8 => rV = .int .i64 i | 9 => ∃ b97, rV = .agg #[.slice (some ⟨b97, 0, none⟩) 1 1, .slice none 0 0] ∧ grEl rW b97 mz | 10 => rV = .bool true | 11 => rV = .bool false | 12 => rV = .bool false | 13 => rV = .int .i64 i | 14 => rV = .slice (some ⟨bL, 0, none⟩) q cL | 15 => rV = .int .i64 k | 16 => rV = .pointer (some ⟨bL, k, none⟩) | 17 => rV = .slice (some ⟨g2, 0, none⟩) rn rc | 18 => rV = .int .i64 rn | 19 => rV = .bool true | 20 => rV = .bool true | 21 => rV = .slice (some ⟨bL, 0, none⟩) q cL | 22 => rV = .int .i64 k | 23 => rV = .pointer (some ⟨bL, k, none⟩) | 24 => rV = .slice (some ⟨g2, 0, none⟩) rn rc | 25 => rV = .int .i64 i | 26 => rV = .pointer (some ⟨g2, i * 2, none⟩) | 27 => rV = .agg #[.slice (some ⟨br, 0, none⟩) 1 1, .slice none 0 0] | 28 => rV = .int .i64 k | 29 => rV = .int .i64 i | 30 => ∃ b118, rV = .agg #[.slice (some ⟨b118, 0, none⟩) 1 1, .slice none 0 0] ∧ grEl rW b118 mz | 31 => rV = .bool true | 32 => rV = .bool false | 33 => rV = .bool false | 34 => rV = .bool false | _ => True) ?hS20 ?hstep20 ?hdone20
                    case hS20 =>
                      intro rI rV rW rW' hc rP
                      match rI, rP with
                      | 0, rP => exact rP
                      | 1, rP => exact rP
                      | 2, rP => exact rP
                      | 3, rP => exact rP
                      | 4, rP => exact rP
                      | 5, rP => exact rP
                      | 6, rP => exact rP
                      | 7, rP => exact rP
                      | 8, rP => exact rP
                      | 9, rP => exact (by obtain ⟨b97, e9, hp⟩ := rP; exact ⟨b97, e9, hp.chg0 hc⟩)
                      | 10, rP => exact rP
                      | 11, rP => exact rP
                      | 12, rP => exact rP
                      | 13, rP => exact rP
                      | 14, rP => exact rP
                      | 15, rP => exact rP
                      | 16, rP => exact rP
                      | 17, rP => exact rP
                      | 18, rP => exact rP
                      | 19, rP => exact rP
                      | 20, rP => exact rP
                      | 21, rP => exact rP
                      | 22, rP => exact rP
                      | 23, rP => exact rP
                      | 24, rP => exact rP
                      | 25, rP => exact rP
                      | 26, rP => exact rP
                      | 27, rP => exact rP
                      | 28, rP => exact rP
                      | 29, rP => exact rP
                      | 30, rP => exact (by obtain ⟨b118, e9, hp⟩ := rP; exact ⟨b118, e9, hp.chg0 hc⟩)
                      | 31, rP => exact rP
                      | 32, rP => exact rP
                      | 33, rP => exact rP
                      | 34, rP => exact rP
                      | _ + 35, _ => trivial
                    case hstep20 =>
                      intro rI rH us W hC hdep K hK
                      have hiN : rI < 35 := rH
                      simp only [actU, Act.put, List.setIfInBounds_toArray, List.set_cons_succ, List.set_cons_zero, Nat.reduceAdd] at hK ⊢
                      have hgc9 := hC.cell hgc (by simp)
                      have hrc9 := hC.cell hrc (by simp)
                      have y0W := hC.cell y0 (by simp)
                      have y1W := hC.cell y1 (by simp)
                      have x0W := hC.cell x0 (by simp)
                      have x1W := hC.cell x1 (by simp)
                      rcases (show rI = 0 ∨ rI = 1 ∨ rI = 2 ∨ rI = 3 ∨ rI = 4 ∨ rI = 5 ∨ rI = 6 ∨ rI = 7 ∨ rI = 8 ∨ rI = 9 ∨ rI = 10 ∨ rI = 11 ∨ rI = 12 ∨ rI = 13 ∨ rI = 14 ∨ rI = 15 ∨ rI = 16 ∨ rI = 17 ∨ rI = 18 ∨ rI = 19 ∨ rI = 20 ∨ rI = 21 ∨ rI = 22 ∨ rI = 23 ∨ rI = 24 ∨ rI = 25 ∨ rI = 26 ∨ rI = 27 ∨ rI = 28 ∨ rI = 29 ∨ rI = 30 ∨ rI = 31 ∨ rI = 32 ∨ rI = 33 ∨ rI = 34 by omega) with rfl | rfl | rfl | rfl | rfl | rfl | rfl | rfl | rfl | rfl | rfl | rfl | rfl | rfl | rfl | rfl | rfl | rfl | rfl | rfl | rfl | rfl | rfl | rfl | rfl | rfl | rfl | rfl | rfl | rfl | rfl | rfl | rfl | rfl | rfl
                      · simp only [List.getD_cons_succ, List.getD_cons_zero, List.setIfInBounds_toArray, List.set_cons_succ, List.set_cons_zero] at hK ⊢
                        refine wpOp_at rfl rfl ?_
                        go_simp
                        exact hK _ _ _ rfl (Chg.refl _ _) rfl
                      · simp only [List.getD_cons_succ, List.getD_cons_zero, List.setIfInBounds_toArray, List.set_cons_succ, List.set_cons_zero] at hK ⊢
                        refine wpOp_at rfl rfl ?_
                        go_simp
                        exact hK _ _ _ rfl (Chg.refl _ _) rfl
                      · have l0 := hdep 0 (by kernel_rfl)
                        replace l0 : us 0 = .slice (some ⟨gb, 0, none⟩) q q := l0
                        have l1 := hdep 1 (by kernel_rfl)
                        replace l1 : us 1 = .int .i64 k := l1
                        simp only [List.getD_cons_succ, List.getD_cons_zero, List.setIfInBounds_toArray, List.set_cons_succ, List.set_cons_zero, l0, l1] at hK ⊢
                        refine wpOp_at rfl rfl ?_
                        go_simp
                        exact hK _ _ _ rfl (Chg.refl _ _) rfl
                      · have l2 := hdep 2 (by kernel_rfl)
                        replace l2 : us 2 = .pointer (some ⟨gb, k, none⟩) := l2
                        simp only [List.getD_cons_succ, List.getD_cons_zero, List.setIfInBounds_toArray, List.set_cons_succ, List.set_cons_zero, l2] at hK ⊢
                        refine wpOp_at rfl rfl ?_
                        go_simp
                        exact hK _ _ _ rfl (Chg.refl _ _) rfl
                      · simp only [List.getD_cons_succ, List.getD_cons_zero, List.setIfInBounds_toArray, List.set_cons_succ, List.set_cons_zero] at hK ⊢
                        refine wpOp_at rfl rfl ?_
                        go_simp
                        exact hK _ _ _ rfl (Chg.refl _ _) rfl
                      · have l3 := hdep 3 (by kernel_rfl)
                        replace l3 : us 3 = .slice (some ⟨g, 0, none⟩) (rn + 64) gc := l3
                        have l4 := hdep 4 (by kernel_rfl)
                        replace l4 : us 4 = .int .i64 i := l4
                        simp only [List.getD_cons_succ, List.getD_cons_zero, List.setIfInBounds_toArray, List.set_cons_succ, List.set_cons_zero, l3, l4] at hK ⊢
                        refine wpOp_at rfl rfl ?_
                        go_simp
                        exact hK _ _ _ rfl (Chg.refl _ _) rfl
                      · have l5 := hdep 5 (by kernel_rfl)
                        replace l5 : us 5 = .pointer (some ⟨g, i * 2, none⟩) := l5
                        simp only [List.getD_cons_succ, List.getD_cons_zero, List.setIfInBounds_toArray, List.set_cons_succ, List.set_cons_zero, l5] at hK ⊢
                        refine wpOp_at rfl rfl ?_
                        go_simp
                        exact hK _ _ _ rfl (Chg.refl _ _) rfl
                      · simp only [List.getD_cons_succ, List.getD_cons_zero, List.setIfInBounds_toArray, List.set_cons_succ, List.set_cons_zero] at hK ⊢
                        refine wpOp_at rfl rfl ?_
                        go_simp
                        exact hK _ _ _ rfl (Chg.refl _ _) rfl
                      · simp only [List.getD_cons_succ, List.getD_cons_zero, List.setIfInBounds_toArray, List.set_cons_succ, List.set_cons_zero] at hK ⊢
                        refine wpOp_at rfl rfl ?_
                        go_simp
                        exact hK _ _ _ rfl (Chg.refl _ _) rfl
                      · have l7 := hdep 7 (by kernel_rfl)
                        replace l7 : us 7 = .int .i64 k := l7
                        have l8 := hdep 8 (by kernel_rfl)
                        replace l8 : us 8 = .int .i64 i := l8
                        simp only [List.getD_cons_succ, List.getD_cons_zero, List.setIfInBounds_toArray, List.set_cons_succ, List.set_cons_zero, l7, l8] at hK ⊢
                        refine wpOp_at rfl rfl ?_
                        go_simp
                        refine (HM.out W).mono ?_
                        rintro e wz ⟨b97, rfl, hel, hz⟩
                        exact hK _ _ _ rfl hz ⟨b97, rfl, hel⟩
                      · have l6 := hdep 6 (by kernel_rfl)
                        replace l6 : us 6 = .agg #[.slice (some ⟨bg, 0, none⟩) 1 1, .slice none 0 0] := l6
                        have l9 := hdep 9 (by kernel_rfl)
                        obtain ⟨b97, l9, p9⟩ := l9
                        simp only [List.getD_cons_succ, List.getD_cons_zero, List.setIfInBounds_toArray, List.set_cons_succ, List.set_cons_zero, l6, l9] at hK ⊢
                        refine wpOp_at rfl rfl ?_
                        go_simp
                        refine (sameGram_mark W bg b97 mz HI.out (HG2.out.chg0 hC) p9).mono ?_
                        rintro e wz ⟨rfl, hz⟩
                        exact hK _ _ _ rfl hz rfl
                      · have l10 := hdep 10 (by kernel_rfl)
                        replace l10 : us 10 = .bool true := l10
                        simp only [List.getD_cons_succ, List.getD_cons_zero, List.setIfInBounds_toArray, List.set_cons_succ, List.set_cons_zero, l10] at hK ⊢
                        refine wpOp_at rfl rfl ?_
                        go_simp
                        exact hK _ _ _ rfl (Chg.refl _ _) rfl
                      · have l11 := hdep 11 (by kernel_rfl)
                        replace l11 : us 11 = .bool false := l11
                        simp only [List.getD_cons_succ, List.getD_cons_zero, List.setIfInBounds_toArray, List.set_cons_succ, List.set_cons_zero, l11] at hK ⊢
                        refine wpOp_at rfl rfl ?_
                        go_simp
                        exact hK _ _ _ rfl (Chg.refl _ _) rfl
                      · have l12 := hdep 12 (by kernel_rfl)
                        replace l12 : us 12 = .bool false := l12
                        simp only [List.getD_cons_succ, List.getD_cons_zero, List.setIfInBounds_toArray, List.set_cons_succ, List.set_cons_zero, l12] at hK ⊢
                        refine wpOp_want rfl (by rfl) ?_
                        go_simp
                        exact hK _ _ _ rfl (Chg.refl _ _) rfl
                      · have l12 := hdep 12 (by kernel_rfl)
                        replace l12 : us 12 = .bool false := l12
                        simp only [List.getD_cons_succ, List.getD_cons_zero, List.setIfInBounds_toArray, List.set_cons_succ, List.set_cons_zero, l12] at hK ⊢
                        refine wpOp_want rfl (by rfl) ?_
                        go_simp
                        exact hK _ _ _ rfl (Chg.refl _ _) rfl
                      · have l12 := hdep 12 (by kernel_rfl)
                        replace l12 : us 12 = .bool false := l12
                        simp only [List.getD_cons_succ, List.getD_cons_zero, List.setIfInBounds_toArray, List.set_cons_succ, List.set_cons_zero, l12] at hK ⊢
                        refine wpOp_want rfl (by rfl) ?_
                        go_simp
                        exact hK _ _ _ rfl (Chg.refl _ _) rfl
                      · have l12 := hdep 12 (by kernel_rfl)
                        replace l12 : us 12 = .bool false := l12
                        have l14 := hdep 14 (by kernel_rfl)
                        replace l14 : us 14 = .slice (some ⟨bL, 0, none⟩) q cL := l14
                        have l15 := hdep 15 (by kernel_rfl)
                        replace l15 : us 15 = .int .i64 k := l15
                        simp only [List.getD_cons_succ, List.getD_cons_zero, List.setIfInBounds_toArray, List.set_cons_succ, List.set_cons_zero, l12, l14, l15] at hK ⊢
                        refine wpOp_want rfl (by rfl) ?_
                        go_simp
                        exact hK _ _ _ rfl (Chg.refl _ _) rfl
                      · have l12 := hdep 12 (by kernel_rfl)
                        replace l12 : us 12 = .bool false := l12
                        have l16 := hdep 16 (by kernel_rfl)
                        replace l16 : us 16 = .pointer (some ⟨bL, k, none⟩) := l16
                        simp only [List.getD_cons_succ, List.getD_cons_zero, List.setIfInBounds_toArray, List.set_cons_succ, List.set_cons_zero, l12, l16] at hK ⊢
                        refine wpOp_want rfl (by rfl) ?_
                        go_simp
                        exact hK _ _ _ rfl (Chg.refl _ _) rfl
                      · have l12 := hdep 12 (by kernel_rfl)
                        replace l12 : us 12 = .bool false := l12
                        have l17 := hdep 17 (by kernel_rfl)
                        replace l17 : us 17 = .slice (some ⟨g2, 0, none⟩) rn rc := l17
                        simp only [List.getD_cons_succ, List.getD_cons_zero, List.setIfInBounds_toArray, List.set_cons_succ, List.set_cons_zero, l12, l17] at hK ⊢
                        refine wpOp_want rfl (by rfl) ?_
                        go_simp
                        exact hK _ _ _ rfl (Chg.refl _ _) rfl
                      · have l12 := hdep 12 (by kernel_rfl)
                        replace l12 : us 12 = .bool false := l12
                        have l13 := hdep 13 (by kernel_rfl)
                        replace l13 : us 13 = .int .i64 i := l13
                        have l18 := hdep 18 (by kernel_rfl)
                        replace l18 : us 18 = .int .i64 rn := l18
                        simp only [List.getD_cons_succ, List.getD_cons_zero, List.setIfInBounds_toArray, List.set_cons_succ, List.set_cons_zero, l12, l13, l18] at hK ⊢
                        refine wpOp_want rfl (by rfl) ?_
                        go_simp
                        exact hK _ _ _ rfl (Chg.refl _ _) rfl
                      · have l12 := hdep 12 (by kernel_rfl)
                        replace l12 : us 12 = .bool false := l12
                        have l19 := hdep 19 (by kernel_rfl)
                        replace l19 : us 19 = .bool true := l19
                        simp only [List.getD_cons_succ, List.getD_cons_zero, List.setIfInBounds_toArray, List.set_cons_succ, List.set_cons_zero, l12, l19] at hK ⊢
                        refine wpOp_want rfl (by rfl) ?_
                        go_simp
                        exact hK _ _ _ rfl (Chg.refl _ _) rfl
                      · have l20 := hdep 20 (by kernel_rfl)
                        replace l20 : us 20 = .bool true := l20
                        simp only [List.getD_cons_succ, List.getD_cons_zero, List.setIfInBounds_toArray, List.set_cons_succ, List.set_cons_zero, l20] at hK ⊢
                        refine wpOp_want rfl (by rfl) ?_
                        go_simp
                        exact hK _ _ _ rfl (Chg.refl _ _) rfl
                      · have l20 := hdep 20 (by kernel_rfl)
                        replace l20 : us 20 = .bool true := l20
                        simp only [List.getD_cons_succ, List.getD_cons_zero, List.setIfInBounds_toArray, List.set_cons_succ, List.set_cons_zero, l20] at hK ⊢
                        refine wpOp_want rfl (by rfl) ?_
                        go_simp
                        exact hK _ _ _ rfl (Chg.refl _ _) rfl
                      · have l20 := hdep 20 (by kernel_rfl)
                        replace l20 : us 20 = .bool true := l20
                        have l21 := hdep 21 (by kernel_rfl)
                        replace l21 : us 21 = .slice (some ⟨bL, 0, none⟩) q cL := l21
                        have l22 := hdep 22 (by kernel_rfl)
                        replace l22 : us 22 = .int .i64 k := l22
                        simp only [List.getD_cons_succ, List.getD_cons_zero, List.setIfInBounds_toArray, List.set_cons_succ, List.set_cons_zero, l20, l21, l22] at hK ⊢
                        refine wpOp_want rfl (by rfl) ?_
                        go_simp
                        exact hK _ _ _ rfl (Chg.refl _ _) rfl
                      · have l20 := hdep 20 (by kernel_rfl)
                        replace l20 : us 20 = .bool true := l20
                        have l23 := hdep 23 (by kernel_rfl)
                        replace l23 : us 23 = .pointer (some ⟨bL, k, none⟩) := l23
                        simp only [List.getD_cons_succ, List.getD_cons_zero, List.setIfInBounds_toArray, List.set_cons_succ, List.set_cons_zero, l20, l23] at hK ⊢
                        refine wpOp_want rfl (by rfl) ?_
                        go_simp
                        exact hK _ _ _ rfl (Chg.refl _ _) rfl
                      · have l20 := hdep 20 (by kernel_rfl)
                        replace l20 : us 20 = .bool true := l20
                        simp only [List.getD_cons_succ, List.getD_cons_zero, List.setIfInBounds_toArray, List.set_cons_succ, List.set_cons_zero, l20] at hK ⊢
                        refine wpOp_want rfl (by rfl) ?_
                        go_simp
                        exact hK _ _ _ rfl (Chg.refl _ _) rfl
                      · have l20 := hdep 20 (by kernel_rfl)
                        replace l20 : us 20 = .bool true := l20
                        have l24 := hdep 24 (by kernel_rfl)
                        replace l24 : us 24 = .slice (some ⟨g2, 0, none⟩) rn rc := l24
                        have l25 := hdep 25 (by kernel_rfl)
                        replace l25 : us 25 = .int .i64 i := l25
                        simp only [List.getD_cons_succ, List.getD_cons_zero, List.setIfInBounds_toArray, List.set_cons_succ, List.set_cons_zero, l20, l24, l25] at hK ⊢
                        refine wpOp_want rfl (by rfl) ?_
                        go_simp
                        exact hK _ _ _ rfl (Chg.refl _ _) rfl
                      · have l20 := hdep 20 (by kernel_rfl)
                        replace l20 : us 20 = .bool true := l20
                        have l26 := hdep 26 (by kernel_rfl)
                        replace l26 : us 26 = .pointer (some ⟨g2, i * 2, none⟩) := l26
                        simp only [List.getD_cons_succ, List.getD_cons_zero, List.setIfInBounds_toArray, List.set_cons_succ, List.set_cons_zero, l20, l26] at hK ⊢
                        refine wpOp_want rfl (by rfl) ?_
                        go_simp
                        exact hK _ _ _ rfl (Chg.refl _ _) rfl
                      · have l20 := hdep 20 (by kernel_rfl)
                        replace l20 : us 20 = .bool true := l20
                        simp only [List.getD_cons_succ, List.getD_cons_zero, List.setIfInBounds_toArray, List.set_cons_succ, List.set_cons_zero, l20] at hK ⊢
                        refine wpOp_want rfl (by rfl) ?_
                        go_simp
                        exact hK _ _ _ rfl (Chg.refl _ _) rfl
                      · have l20 := hdep 20 (by kernel_rfl)
                        replace l20 : us 20 = .bool true := l20
                        simp only [List.getD_cons_succ, List.getD_cons_zero, List.setIfInBounds_toArray, List.set_cons_succ, List.set_cons_zero, l20] at hK ⊢
                        refine wpOp_want rfl (by rfl) ?_
                        go_simp
                        exact hK _ _ _ rfl (Chg.refl _ _) rfl
                      · have l20 := hdep 20 (by kernel_rfl)
                        replace l20 : us 20 = .bool true := l20
                        have l28 := hdep 28 (by kernel_rfl)
                        replace l28 : us 28 = .int .i64 k := l28
                        have l29 := hdep 29 (by kernel_rfl)
                        replace l29 : us 29 = .int .i64 i := l29
                        simp only [List.getD_cons_succ, List.getD_cons_zero, List.setIfInBounds_toArray, List.set_cons_succ, List.set_cons_zero, l20, l28, l29] at hK ⊢
                        refine wpOp_want rfl (by rfl) ?_
                        go_simp
                        refine (HM.out W).mono ?_
                        rintro e wz ⟨b118, rfl, hel, hz⟩
                        exact hK _ _ _ rfl hz ⟨b118, rfl, hel⟩
                      · have l20 := hdep 20 (by kernel_rfl)
                        replace l20 : us 20 = .bool true := l20
                        have l27 := hdep 27 (by kernel_rfl)
                        replace l27 : us 27 = .agg #[.slice (some ⟨br, 0, none⟩) 1 1, .slice none 0 0] := l27
                        have l30 := hdep 30 (by kernel_rfl)
                        obtain ⟨b118, l30, p30⟩ := l30
                        simp only [List.getD_cons_succ, List.getD_cons_zero, List.setIfInBounds_toArray, List.set_cons_succ, List.set_cons_zero, l20, l27, l30] at hK ⊢
                        refine wpOp_want rfl (by rfl) ?_
                        go_simp
                        refine (sameGram_mark W br b118 mz HI.out (HR2.out.chg0 hC) p30).mono ?_
                        rintro e wz ⟨rfl, hz⟩
                        exact hK _ _ _ rfl hz rfl
                      · have l20 := hdep 20 (by kernel_rfl)
                        replace l20 : us 20 = .bool true := l20
                        have l31 := hdep 31 (by kernel_rfl)
                        replace l31 : us 31 = .bool true := l31
                        simp only [List.getD_cons_succ, List.getD_cons_zero, List.setIfInBounds_toArray, List.set_cons_succ, List.set_cons_zero, l20, l31] at hK ⊢
                        refine wpOp_want rfl (by rfl) ?_
                        go_simp
                        exact hK _ _ _ rfl (Chg.refl _ _) rfl
                      · have l12 := hdep 12 (by kernel_rfl)
                        replace l12 : us 12 = .bool false := l12
                        have l20 := hdep 20 (by kernel_rfl)
                        replace l20 : us 20 = .bool true := l20
                        have l32 := hdep 32 (by kernel_rfl)
                        replace l32 : us 32 = .bool false := l32
                        simp only [List.getD_cons_succ, List.getD_cons_zero, List.setIfInBounds_toArray, List.set_cons_succ, List.set_cons_zero, l12, l20, l32] at hK ⊢
                        refine wpOp_want rfl (by rfl) ?_
                        go_simp
                        exact hK _ _ _ rfl (Chg.refl _ _) rfl
                      · have l12 := hdep 12 (by kernel_rfl)
                        replace l12 : us 12 = .bool false := l12
                        have l33 := hdep 33 (by kernel_rfl)
                        replace l33 : us 33 = .bool false := l33
                        simp only [List.getD_cons_succ, List.getD_cons_zero, List.setIfInBounds_toArray, List.set_cons_succ, List.set_cons_zero, l12, l33] at hK ⊢
                        refine wpOp_at rfl rfl ?_
                        go_simp
                        exact hK _ _ _ rfl (Chg.refl _ _) rfl
                    case hdone20 =>
                      intro us W hC hall
                      have l0 := hall 0 (by decide)
                      replace l0 : us 0 = .slice (some ⟨gb, 0, none⟩) q q := l0
                      have l1 := hall 1 (by decide)
                      replace l1 : us 1 = .int .i64 k := l1
                      have l2 := hall 2 (by decide)
                      replace l2 : us 2 = .pointer (some ⟨gb, k, none⟩) := l2
                      have l3 := hall 3 (by decide)
                      replace l3 : us 3 = .slice (some ⟨g, 0, none⟩) (rn + 64) gc := l3
                      have l4 := hall 4 (by decide)
                      replace l4 : us 4 = .int .i64 i := l4
                      have l5 := hall 5 (by decide)
                      replace l5 : us 5 = .pointer (some ⟨g, i * 2, none⟩) := l5
                      have l6 := hall 6 (by decide)
                      replace l6 : us 6 = .agg #[.slice (some ⟨bg, 0, none⟩) 1 1, .slice none 0 0] := l6
                      have l7 := hall 7 (by decide)
                      replace l7 : us 7 = .int .i64 k := l7
                      have l8 := hall 8 (by decide)
                      replace l8 : us 8 = .int .i64 i := l8
                      have l9 := hall 9 (by decide)
                      obtain ⟨b97, l9, p9⟩ := l9
                      have l10 := hall 10 (by decide)
                      replace l10 : us 10 = .bool true := l10
                      have l11 := hall 11 (by decide)
                      replace l11 : us 11 = .bool false := l11
                      have l12 := hall 12 (by decide)
                      replace l12 : us 12 = .bool false := l12
                      have l13 := hall 13 (by decide)
                      replace l13 : us 13 = .int .i64 i := l13
                      have l14 := hall 14 (by decide)
                      replace l14 : us 14 = .slice (some ⟨bL, 0, none⟩) q cL := l14
                      have l15 := hall 15 (by decide)
                      replace l15 : us 15 = .int .i64 k := l15
                      have l16 := hall 16 (by decide)
                      replace l16 : us 16 = .pointer (some ⟨bL, k, none⟩) := l16
                      have l17 := hall 17 (by decide)
                      replace l17 : us 17 = .slice (some ⟨g2, 0, none⟩) rn rc := l17
                      have l18 := hall 18 (by decide)
                      replace l18 : us 18 = .int .i64 rn := l18
                      have l19 := hall 19 (by decide)
                      replace l19 : us 19 = .bool true := l19
                      have l20 := hall 20 (by decide)
                      replace l20 : us 20 = .bool true := l20
                      have l21 := hall 21 (by decide)
                      replace l21 : us 21 = .slice (some ⟨bL, 0, none⟩) q cL := l21
                      have l22 := hall 22 (by decide)
                      replace l22 : us 22 = .int .i64 k := l22
                      have l23 := hall 23 (by decide)
                      replace l23 : us 23 = .pointer (some ⟨bL, k, none⟩) := l23
                      have l24 := hall 24 (by decide)
                      replace l24 : us 24 = .slice (some ⟨g2, 0, none⟩) rn rc := l24
                      have l25 := hall 25 (by decide)
                      replace l25 : us 25 = .int .i64 i := l25
                      have l26 := hall 26 (by decide)
                      replace l26 : us 26 = .pointer (some ⟨g2, i * 2, none⟩) := l26
                      have l27 := hall 27 (by decide)
                      replace l27 : us 27 = .agg #[.slice (some ⟨br, 0, none⟩) 1 1, .slice none 0 0] := l27
                      have l28 := hall 28 (by decide)
                      replace l28 : us 28 = .int .i64 k := l28
                      have l29 := hall 29 (by decide)
                      replace l29 : us 29 = .int .i64 i := l29
                      have l30 := hall 30 (by decide)
                      obtain ⟨b118, l30, p30⟩ := l30
                      have l31 := hall 31 (by decide)
                      replace l31 : us 31 = .bool true := l31
                      have l32 := hall 32 (by decide)
                      replace l32 : us 32 = .bool false := l32
                      have l33 := hall 33 (by decide)
                      replace l33 : us 33 = .bool false := l33
                      have l34 := hall 34 (by decide)
                      replace l34 : us 34 = .bool false := l34
                      simp only [actU, Act.put, List.setIfInBounds_toArray, List.set_cons_succ, List.set_cons_zero, Nat.reduceAdd, l0, l1, l2, l3, l4, l5, l6, l7, l8, l9, l10, l11, l12, l13, l14, l15, l16, l17, l18, l19, l20, l21, l22, l23, l24, l25, l26, l27, l28, l29, l30, l31, l32, l33, l34]
                      clear hall l0 l1 l2 l3 l4 l5 l6 l7 l8 l9 l10 l11 l12 l13 l14 l15 l16 l17 l18 l19 l20 l21 l22 l23 l24 l25 l26 l27 l28 l29 l30 l31 l32 l33 l34
                      have HW := Lib.hid (hin2.out.tr hC)
                      clear hC hd1 hgc hrc y0 y1 x0 x1 p9 p30
                      go_wp2_with fail
                      go_roundg (rn + 64 - (i + 1))
                      case measure => omega
                      case rel => exact ⟨i + 1, rfl, by omega, by go_num, HW⟩
                  · have hd1 : decide ((i : Int) < rn) = false := decide_eq_false (by omega)
                    clear hmz hgv hrv hra hrcc hA ym
                    go_wp2_with fail
                    refine wp_region_st (by kernel_rfl) (by kernel_rfl) [88, 89, 90, 91, 92, 93, 94, 95, 96, 97, 98, 99, 100, 101, 102, 103, 104, 105, 106, 107, 108, 109, 110, 111, 112, 113, 114, 115, 116, 117, 118, 119, 120, 121, 122] (by kernel_rfl) (fun rI rV rW => match rI with | 0 => rV = .slice (some ⟨gb, 0, none⟩) q q | 1 => rV = .int .i64 k | 2 => rV = .pointer (some ⟨gb, k, none⟩) | 3 => rV = .slice (some ⟨g, 0, none⟩) (rn + 64) gc | 4 => rV = .int .i64 i | 5 => rV = .pointer (some ⟨g, i * 2, none⟩) | 6 => rV = .agg #[.slice (some ⟨bg, 0, none⟩) 1 1, .slice none 0 0] | 7 => rV = .int .i64 k | 8 => rV = .int .i64 i | 9 => ∃ b97, rV = .agg #[.slice (some ⟨b97, 0, none⟩) 1 1, .slice none 0 0] ∧ grEl rW b97 mz | 10 => rV = .bool true | 11 => rV = .bool false | 12 => rV = .bool false | 13 => rV = .int .i64 i | 14 => rV = .slice (some ⟨bL, 0, none⟩) q cL | 15 => rV = .int .i64 k | 16 => rV = .pointer (some ⟨bL, k, none⟩) | 17 => rV = .slice ra rn rc | 18 => rV = .int .i64 rn | 19 => rV = .bool false | 20 => rV = .bool false | 21 => rV = undef | 22 => rV = undef | 23 => rV = undef | 24 => rV = undef | 25 => rV = undef | 26 => rV = undef | 27 => rV = undef | 28 => rV = undef | 29 => rV = undef | 30 => rV = undef | 31 => rV = undef | 32 => rV = undef | 33 => rV = .bool false | 34 => rV = .bool false | _ => True) ?hS20 ?hstep20 ?hdone20
                    case hS20 =>
                      intro rI rV rW rW' hc rP
                      match rI, rP with
                      | 0, rP => exact rP
                      | 1, rP => exact rP
                      | 2, rP => exact rP
                      | 3, rP => exact rP
                      | 4, rP => exact rP
                      | 5, rP => exact rP
                      | 6, rP => exact rP
                      | 7, rP => exact rP
                      | 8, rP => exact rP
                      | 9, rP => exact (by obtain ⟨b97, e9, hp⟩ := rP; exact ⟨b97, e9, hp.chg0 hc⟩)
                      | 10, rP => exact rP
                      | 11, rP => exact rP
                      | 12, rP => exact rP
                      | 13, rP => exact rP
                      | 14, rP => exact rP
                      | 15, rP => exact rP
                      | 16, rP => exact rP
                      | 17, rP => exact rP
                      | 18, rP => exact rP
                      | 19, rP => exact rP
                      | 20, rP => exact rP
                      | 21, rP => exact rP
                      | 22, rP => exact rP
                      | 23, rP => exact rP
                      | 24, rP => exact rP
                      | 25, rP => exact rP
                      | 26, rP => exact rP
                      | 27, rP => exact rP
                      | 28, rP => exact rP
                      | 29, rP => exact rP
                      | 30, rP => exact rP
                      | 31, rP => exact rP
                      | 32, rP => exact rP
                      | 33, rP => exact rP
                      | 34, rP => exact rP
                      | _ + 35, _ => trivial
                    case hstep20 =>
                      intro rI rH us W hC hdep K hK
                      have hiN : rI < 35 := rH
                      simp only [actU, Act.put, List.setIfInBounds_toArray, List.set_cons_succ, List.set_cons_zero, Nat.reduceAdd] at hK ⊢
                      have hgc9 := hC.cell hgc (by simp)
                      have hrc9 := hC.cell hrc (by simp)
                      have y0W := hC.cell y0 (by simp)
                      have y1W := hC.cell y1 (by simp)
                      rcases (show rI = 0 ∨ rI = 1 ∨ rI = 2 ∨ rI = 3 ∨ rI = 4 ∨ rI = 5 ∨ rI = 6 ∨ rI = 7 ∨ rI = 8 ∨ rI = 9 ∨ rI = 10 ∨ rI = 11 ∨ rI = 12 ∨ rI = 13 ∨ rI = 14 ∨ rI = 15 ∨ rI = 16 ∨ rI = 17 ∨ rI = 18 ∨ rI = 19 ∨ rI = 20 ∨ rI = 21 ∨ rI = 22 ∨ rI = 23 ∨ rI = 24 ∨ rI = 25 ∨ rI = 26 ∨ rI = 27 ∨ rI = 28 ∨ rI = 29 ∨ rI = 30 ∨ rI = 31 ∨ rI = 32 ∨ rI = 33 ∨ rI = 34 by omega) with rfl | rfl | rfl | rfl | rfl | rfl | rfl | rfl | rfl | rfl | rfl | rfl | rfl | rfl | rfl | rfl | rfl | rfl | rfl | rfl | rfl | rfl | rfl | rfl | rfl | rfl | rfl | rfl | rfl | rfl | rfl | rfl | rfl | rfl | rfl
                      · simp only [List.getD_cons_succ, List.getD_cons_zero, List.setIfInBounds_toArray, List.set_cons_succ, List.set_cons_zero] at hK ⊢
                        refine wpOp_at rfl rfl ?_
                        go_simp
                        exact hK _ _ _ rfl (Chg.refl _ _) rfl
                      · simp only [List.getD_cons_succ, List.getD_cons_zero, List.setIfInBounds_toArray, List.set_cons_succ, List.set_cons_zero] at hK ⊢
                        refine wpOp_at rfl rfl ?_
                        go_simp
                        exact hK _ _ _ rfl (Chg.refl _ _) rfl
                      · have l0 := hdep 0 (by kernel_rfl)
                        replace l0 : us 0 = .slice (some ⟨gb, 0, none⟩) q q := l0
                        have l1 := hdep 1 (by kernel_rfl)
                        replace l1 : us 1 = .int .i64 k := l1
                        simp only [List.getD_cons_succ, List.getD_cons_zero, List.setIfInBounds_toArray, List.set_cons_succ, List.set_cons_zero, l0, l1] at hK ⊢
                        refine wpOp_at rfl rfl ?_
                        go_simp
                        exact hK _ _ _ rfl (Chg.refl _ _) rfl
                      · have l2 := hdep 2 (by kernel_rfl)
                        replace l2 : us 2 = .pointer (some ⟨gb, k, none⟩) := l2
                        simp only [List.getD_cons_succ, List.getD_cons_zero, List.setIfInBounds_toArray, List.set_cons_succ, List.set_cons_zero, l2] at hK ⊢
                        refine wpOp_at rfl rfl ?_
                        go_simp
                        exact hK _ _ _ rfl (Chg.refl _ _) rfl
                      · simp only [List.getD_cons_succ, List.getD_cons_zero, List.setIfInBounds_toArray, List.set_cons_succ, List.set_cons_zero] at hK ⊢
                        refine wpOp_at rfl rfl ?_
                        go_simp
                        exact hK _ _ _ rfl (Chg.refl _ _) rfl
                      · have l3 := hdep 3 (by kernel_rfl)
                        replace l3 : us 3 = .slice (some ⟨g, 0, none⟩) (rn + 64) gc := l3
                        have l4 := hdep 4 (by kernel_rfl)
                        replace l4 : us 4 = .int .i64 i := l4
                        simp only [List.getD_cons_succ, List.getD_cons_zero, List.setIfInBounds_toArray, List.set_cons_succ, List.set_cons_zero, l3, l4] at hK ⊢
                        refine wpOp_at rfl rfl ?_
                        go_simp
                        exact hK _ _ _ rfl (Chg.refl _ _) rfl
                      · have l5 := hdep 5 (by kernel_rfl)
                        replace l5 : us 5 = .pointer (some ⟨g, i * 2, none⟩) := l5
                        simp only [List.getD_cons_succ, List.getD_cons_zero, List.setIfInBounds_toArray, List.set_cons_succ, List.set_cons_zero, l5] at hK ⊢
                        refine wpOp_at rfl rfl ?_
                        go_simp
                        exact hK _ _ _ rfl (Chg.refl _ _) rfl
                      · simp only [List.getD_cons_succ, List.getD_cons_zero, List.setIfInBounds_toArray, List.set_cons_succ, List.set_cons_zero] at hK ⊢
                        refine wpOp_at rfl rfl ?_
                        go_simp
                        exact hK _ _ _ rfl (Chg.refl _ _) rfl
                      · simp only [List.getD_cons_succ, List.getD_cons_zero, List.setIfInBounds_toArray, List.set_cons_succ, List.set_cons_zero] at hK ⊢
                        refine wpOp_at rfl rfl ?_
                        go_simp
                        exact hK _ _ _ rfl (Chg.refl _ _) rfl
                      · have l7 := hdep 7 (by kernel_rfl)
                        replace l7 : us 7 = .int .i64 k := l7
                        have l8 := hdep 8 (by kernel_rfl)
                        replace l8 : us 8 = .int .i64 i := l8
                        simp only [List.getD_cons_succ, List.getD_cons_zero, List.setIfInBounds_toArray, List.set_cons_succ, List.set_cons_zero, l7, l8] at hK ⊢
                        refine wpOp_at rfl rfl ?_
                        go_simp
                        refine (HM.out W).mono ?_
                        rintro e wz ⟨b97, rfl, hel, hz⟩
                        exact hK _ _ _ rfl hz ⟨b97, rfl, hel⟩
                      · have l6 := hdep 6 (by kernel_rfl)
                        replace l6 : us 6 = .agg #[.slice (some ⟨bg, 0, none⟩) 1 1, .slice none 0 0] := l6
                        have l9 := hdep 9 (by kernel_rfl)
                        obtain ⟨b97, l9, p9⟩ := l9
                        simp only [List.getD_cons_succ, List.getD_cons_zero, List.setIfInBounds_toArray, List.set_cons_succ, List.set_cons_zero, l6, l9] at hK ⊢
                        refine wpOp_at rfl rfl ?_
                        go_simp
                        refine (sameGram_mark W bg b97 mz HI.out (HG2.out.chg0 hC) p9).mono ?_
                        rintro e wz ⟨rfl, hz⟩
                        exact hK _ _ _ rfl hz rfl
                      · have l10 := hdep 10 (by kernel_rfl)
                        replace l10 : us 10 = .bool true := l10
                        simp only [List.getD_cons_succ, List.getD_cons_zero, List.setIfInBounds_toArray, List.set_cons_succ, List.set_cons_zero, l10] at hK ⊢
                        refine wpOp_at rfl rfl ?_
                        go_simp
                        exact hK _ _ _ rfl (Chg.refl _ _) rfl
                      · have l11 := hdep 11 (by kernel_rfl)
                        replace l11 : us 11 = .bool false := l11
                        simp only [List.getD_cons_succ, List.getD_cons_zero, List.setIfInBounds_toArray, List.set_cons_succ, List.set_cons_zero, l11] at hK ⊢
                        refine wpOp_at rfl rfl ?_
                        go_simp
                        exact hK _ _ _ rfl (Chg.refl _ _) rfl
                      · have l12 := hdep 12 (by kernel_rfl)
                        replace l12 : us 12 = .bool false := l12
                        simp only [List.getD_cons_succ, List.getD_cons_zero, List.setIfInBounds_toArray, List.set_cons_succ, List.set_cons_zero, l12] at hK ⊢
                        refine wpOp_want rfl (by rfl) ?_
                        go_simp
                        exact hK _ _ _ rfl (Chg.refl _ _) rfl
                      · have l12 := hdep 12 (by kernel_rfl)
                        replace l12 : us 12 = .bool false := l12
                        simp only [List.getD_cons_succ, List.getD_cons_zero, List.setIfInBounds_toArray, List.set_cons_succ, List.set_cons_zero, l12] at hK ⊢
                        refine wpOp_want rfl (by rfl) ?_
                        go_simp
                        exact hK _ _ _ rfl (Chg.refl _ _) rfl
                      · have l12 := hdep 12 (by kernel_rfl)
                        replace l12 : us 12 = .bool false := l12
                        simp only [List.getD_cons_succ, List.getD_cons_zero, List.setIfInBounds_toArray, List.set_cons_succ, List.set_cons_zero, l12] at hK ⊢
                        refine wpOp_want rfl (by rfl) ?_
                        go_simp
                        exact hK _ _ _ rfl (Chg.refl _ _) rfl
                      · have l12 := hdep 12 (by kernel_rfl)
                        replace l12 : us 12 = .bool false := l12
                        have l14 := hdep 14 (by kernel_rfl)
                        replace l14 : us 14 = .slice (some ⟨bL, 0, none⟩) q cL := l14
                        have l15 := hdep 15 (by kernel_rfl)
                        replace l15 : us 15 = .int .i64 k := l15
                        simp only [List.getD_cons_succ, List.getD_cons_zero, List.setIfInBounds_toArray, List.set_cons_succ, List.set_cons_zero, l12, l14, l15] at hK ⊢
                        refine wpOp_want rfl (by rfl) ?_
                        go_simp
                        exact hK _ _ _ rfl (Chg.refl _ _) rfl
                      · have l12 := hdep 12 (by kernel_rfl)
                        replace l12 : us 12 = .bool false := l12
                        have l16 := hdep 16 (by kernel_rfl)
                        replace l16 : us 16 = .pointer (some ⟨bL, k, none⟩) := l16
                        simp only [List.getD_cons_succ, List.getD_cons_zero, List.setIfInBounds_toArray, List.set_cons_succ, List.set_cons_zero, l12, l16] at hK ⊢
                        refine wpOp_want rfl (by rfl) ?_
                        go_simp
                        exact hK _ _ _ rfl (Chg.refl _ _) rfl
                      · have l12 := hdep 12 (by kernel_rfl)
                        replace l12 : us 12 = .bool false := l12
                        have l17 := hdep 17 (by kernel_rfl)
                        replace l17 : us 17 = .slice ra rn rc := l17
                        simp only [List.getD_cons_succ, List.getD_cons_zero, List.setIfInBounds_toArray, List.set_cons_succ, List.set_cons_zero, l12, l17] at hK ⊢
                        refine wpOp_want rfl (by rfl) ?_
                        go_simp
                        exact hK _ _ _ rfl (Chg.refl _ _) rfl
                      · have l12 := hdep 12 (by kernel_rfl)
                        replace l12 : us 12 = .bool false := l12
                        have l13 := hdep 13 (by kernel_rfl)
                        replace l13 : us 13 = .int .i64 i := l13
                        have l18 := hdep 18 (by kernel_rfl)
                        replace l18 : us 18 = .int .i64 rn := l18
                        simp only [List.getD_cons_succ, List.getD_cons_zero, List.setIfInBounds_toArray, List.set_cons_succ, List.set_cons_zero, l12, l13, l18] at hK ⊢
                        refine wpOp_want rfl (by rfl) ?_
                        go_simp
                        exact hK _ _ _ rfl (Chg.refl _ _) rfl
                      · have l12 := hdep 12 (by kernel_rfl)
                        replace l12 : us 12 = .bool false := l12
                        have l19 := hdep 19 (by kernel_rfl)
                        replace l19 : us 19 = .bool false := l19
                        simp only [List.getD_cons_succ, List.getD_cons_zero, List.setIfInBounds_toArray, List.set_cons_succ, List.set_cons_zero, l12, l19] at hK ⊢
                        refine wpOp_want rfl (by rfl) ?_
                        go_simp
                        exact hK _ _ _ rfl (Chg.refl _ _) rfl
                      · have l20 := hdep 20 (by kernel_rfl)
                        replace l20 : us 20 = .bool false := l20
                        simp only [List.getD_cons_succ, List.getD_cons_zero, List.setIfInBounds_toArray, List.set_cons_succ, List.set_cons_zero, l20] at hK ⊢
                        refine wpOp_skip rfl (by rfl) ?_
                        exact hK _ _ _ rfl (Chg.refl _ _) rfl
                      · have l20 := hdep 20 (by kernel_rfl)
                        replace l20 : us 20 = .bool false := l20
                        simp only [List.getD_cons_succ, List.getD_cons_zero, List.setIfInBounds_toArray, List.set_cons_succ, List.set_cons_zero, l20] at hK ⊢
                        refine wpOp_skip rfl (by rfl) ?_
                        exact hK _ _ _ rfl (Chg.refl _ _) rfl
                      · have l20 := hdep 20 (by kernel_rfl)
                        replace l20 : us 20 = .bool false := l20
                        have l21 := hdep 21 (by kernel_rfl)
                        replace l21 : us 21 = undef := l21
                        have l22 := hdep 22 (by kernel_rfl)
                        replace l22 : us 22 = undef := l22
                        simp only [List.getD_cons_succ, List.getD_cons_zero, List.setIfInBounds_toArray, List.set_cons_succ, List.set_cons_zero, l20, l21, l22] at hK ⊢
                        refine wpOp_skip rfl (by rfl) ?_
                        exact hK _ _ _ rfl (Chg.refl _ _) rfl
                      · have l20 := hdep 20 (by kernel_rfl)
                        replace l20 : us 20 = .bool false := l20
                        have l23 := hdep 23 (by kernel_rfl)
                        replace l23 : us 23 = undef := l23
                        simp only [List.getD_cons_succ, List.getD_cons_zero, List.setIfInBounds_toArray, List.set_cons_succ, List.set_cons_zero, l20, l23] at hK ⊢
                        refine wpOp_skip rfl (by rfl) ?_
                        exact hK _ _ _ rfl (Chg.refl _ _) rfl
                      · have l20 := hdep 20 (by kernel_rfl)
                        replace l20 : us 20 = .bool false := l20
                        simp only [List.getD_cons_succ, List.getD_cons_zero, List.setIfInBounds_toArray, List.set_cons_succ, List.set_cons_zero, l20] at hK ⊢
                        refine wpOp_skip rfl (by rfl) ?_
                        exact hK _ _ _ rfl (Chg.refl _ _) rfl
                      · have l20 := hdep 20 (by kernel_rfl)
                        replace l20 : us 20 = .bool false := l20
                        have l24 := hdep 24 (by kernel_rfl)
                        replace l24 : us 24 = undef := l24
                        have l25 := hdep 25 (by kernel_rfl)
                        replace l25 : us 25 = undef := l25
                        simp only [List.getD_cons_succ, List.getD_cons_zero, List.setIfInBounds_toArray, List.set_cons_succ, List.set_cons_zero, l20, l24, l25] at hK ⊢
                        refine wpOp_skip rfl (by rfl) ?_
                        exact hK _ _ _ rfl (Chg.refl _ _) rfl
                      · have l20 := hdep 20 (by kernel_rfl)
                        replace l20 : us 20 = .bool false := l20
                        have l26 := hdep 26 (by kernel_rfl)
                        replace l26 : us 26 = undef := l26
                        simp only [List.getD_cons_succ, List.getD_cons_zero, List.setIfInBounds_toArray, List.set_cons_succ, List.set_cons_zero, l20, l26] at hK ⊢
                        refine wpOp_skip rfl (by rfl) ?_
                        exact hK _ _ _ rfl (Chg.refl _ _) rfl
                      · have l20 := hdep 20 (by kernel_rfl)
                        replace l20 : us 20 = .bool false := l20
                        simp only [List.getD_cons_succ, List.getD_cons_zero, List.setIfInBounds_toArray, List.set_cons_succ, List.set_cons_zero, l20] at hK ⊢
                        refine wpOp_skip rfl (by rfl) ?_
                        exact hK _ _ _ rfl (Chg.refl _ _) rfl
                      · have l20 := hdep 20 (by kernel_rfl)
                        replace l20 : us 20 = .bool false := l20
                        simp only [List.getD_cons_succ, List.getD_cons_zero, List.setIfInBounds_toArray, List.set_cons_succ, List.set_cons_zero, l20] at hK ⊢
                        refine wpOp_skip rfl (by rfl) ?_
                        exact hK _ _ _ rfl (Chg.refl _ _) rfl
                      · have l20 := hdep 20 (by kernel_rfl)
                        replace l20 : us 20 = .bool false := l20
                        have l28 := hdep 28 (by kernel_rfl)
                        replace l28 : us 28 = undef := l28
                        have l29 := hdep 29 (by kernel_rfl)
                        replace l29 : us 29 = undef := l29
                        simp only [List.getD_cons_succ, List.getD_cons_zero, List.setIfInBounds_toArray, List.set_cons_succ, List.set_cons_zero, l20, l28, l29] at hK ⊢
                        refine wpOp_skip rfl (by rfl) ?_
                        exact hK _ _ _ rfl (Chg.refl _ _) rfl
                      · have l20 := hdep 20 (by kernel_rfl)
                        replace l20 : us 20 = .bool false := l20
                        have l27 := hdep 27 (by kernel_rfl)
                        replace l27 : us 27 = undef := l27
                        have l30 := hdep 30 (by kernel_rfl)
                        replace l30 : us 30 = undef := l30
                        simp only [List.getD_cons_succ, List.getD_cons_zero, List.setIfInBounds_toArray, List.set_cons_succ, List.set_cons_zero, l20, l27, l30] at hK ⊢
                        refine wpOp_skip rfl (by rfl) ?_
                        exact hK _ _ _ rfl (Chg.refl _ _) rfl
                      · have l20 := hdep 20 (by kernel_rfl)
                        replace l20 : us 20 = .bool false := l20
                        have l31 := hdep 31 (by kernel_rfl)
                        replace l31 : us 31 = undef := l31
                        simp only [List.getD_cons_succ, List.getD_cons_zero, List.setIfInBounds_toArray, List.set_cons_succ, List.set_cons_zero, l20, l31] at hK ⊢
                        refine wpOp_skip rfl (by rfl) ?_
                        exact hK _ _ _ rfl (Chg.refl _ _) rfl
                      · have l12 := hdep 12 (by kernel_rfl)
                        replace l12 : us 12 = .bool false := l12
                        have l20 := hdep 20 (by kernel_rfl)
                        replace l20 : us 20 = .bool false := l20
                        have l32 := hdep 32 (by kernel_rfl)
                        replace l32 : us 32 = undef := l32
                        simp only [List.getD_cons_succ, List.getD_cons_zero, List.setIfInBounds_toArray, List.set_cons_succ, List.set_cons_zero, l12, l20, l32] at hK ⊢
                        refine wpOp_want rfl (by rfl) ?_
                        go_simp
                        exact hK _ _ _ rfl (Chg.refl _ _) rfl
                      · have l12 := hdep 12 (by kernel_rfl)
                        replace l12 : us 12 = .bool false := l12
                        have l33 := hdep 33 (by kernel_rfl)
                        replace l33 : us 33 = .bool false := l33
                        simp only [List.getD_cons_succ, List.getD_cons_zero, List.setIfInBounds_toArray, List.set_cons_succ, List.set_cons_zero, l12, l33] at hK ⊢
                        refine wpOp_at rfl rfl ?_
                        go_simp
                        exact hK _ _ _ rfl (Chg.refl _ _) rfl
                    case hdone20 =>
                      intro us W hC hall
                      have l0 := hall 0 (by decide)
                      replace l0 : us 0 = .slice (some ⟨gb, 0, none⟩) q q := l0
                      have l1 := hall 1 (by decide)
                      replace l1 : us 1 = .int .i64 k := l1
                      have l2 := hall 2 (by decide)
                      replace l2 : us 2 = .pointer (some ⟨gb, k, none⟩) := l2
                      have l3 := hall 3 (by decide)
                      replace l3 : us 3 = .slice (some ⟨g, 0, none⟩) (rn + 64) gc := l3
                      have l4 := hall 4 (by decide)
                      replace l4 : us 4 = .int .i64 i := l4
                      have l5 := hall 5 (by decide)
                      replace l5 : us 5 = .pointer (some ⟨g, i * 2, none⟩) := l5
                      have l6 := hall 6 (by decide)
                      replace l6 : us 6 = .agg #[.slice (some ⟨bg, 0, none⟩) 1 1, .slice none 0 0] := l6
                      have l7 := hall 7 (by decide)
                      replace l7 : us 7 = .int .i64 k := l7
                      have l8 := hall 8 (by decide)
                      replace l8 : us 8 = .int .i64 i := l8
                      have l9 := hall 9 (by decide)
                      obtain ⟨b97, l9, p9⟩ := l9
                      have l10 := hall 10 (by decide)
                      replace l10 : us 10 = .bool true := l10
                      have l11 := hall 11 (by decide)
                      replace l11 : us 11 = .bool false := l11
                      have l12 := hall 12 (by decide)
                      replace l12 : us 12 = .bool false := l12
                      have l13 := hall 13 (by decide)
                      replace l13 : us 13 = .int .i64 i := l13
                      have l14 := hall 14 (by decide)
                      replace l14 : us 14 = .slice (some ⟨bL, 0, none⟩) q cL := l14
                      have l15 := hall 15 (by decide)
                      replace l15 : us 15 = .int .i64 k := l15
                      have l16 := hall 16 (by decide)
                      replace l16 : us 16 = .pointer (some ⟨bL, k, none⟩) := l16
                      have l17 := hall 17 (by decide)
                      replace l17 : us 17 = .slice ra rn rc := l17
                      have l18 := hall 18 (by decide)
                      replace l18 : us 18 = .int .i64 rn := l18
                      have l19 := hall 19 (by decide)
                      replace l19 : us 19 = .bool false := l19
                      have l20 := hall 20 (by decide)
                      replace l20 : us 20 = .bool false := l20
                      have l21 := hall 21 (by decide)
                      replace l21 : us 21 = undef := l21
                      have l22 := hall 22 (by decide)
                      replace l22 : us 22 = undef := l22
                      have l23 := hall 23 (by decide)
                      replace l23 : us 23 = undef := l23
                      have l24 := hall 24 (by decide)
                      replace l24 : us 24 = undef := l24
                      have l25 := hall 25 (by decide)
                      replace l25 : us 25 = undef := l25
                      have l26 := hall 26 (by decide)
                      replace l26 : us 26 = undef := l26
                      have l27 := hall 27 (by decide)
                      replace l27 : us 27 = undef := l27
                      have l28 := hall 28 (by decide)
                      replace l28 : us 28 = undef := l28
                      have l29 := hall 29 (by decide)
                      replace l29 : us 29 = undef := l29
                      have l30 := hall 30 (by decide)
                      replace l30 : us 30 = undef := l30
                      have l31 := hall 31 (by decide)
                      replace l31 : us 31 = undef := l31
                      have l32 := hall 32 (by decide)
                      replace l32 : us 32 = undef := l32
                      have l33 := hall 33 (by decide)
                      replace l33 : us 33 = .bool false := l33
                      have l34 := hall 34 (by decide)
                      replace l34 : us 34 = .bool false := l34
                      simp only [actU, Act.put, List.setIfInBounds_toArray, List.set_cons_succ, List.set_cons_zero, Nat.reduceAdd, l0, l1, l2, l3, l4, l5, l6, l7, l8, l9, l10, l11, l12, l13, l14, l15, l16, l17, l18, l19, l20, l21, l22, l23, l24, l25, l26, l27, l28, l29, l30, l31, l32, l33, l34]
                      clear hall l0 l1 l2 l3 l4 l5 l6 l7 l8 l9 l10 l11 l12 l13 l14 l15 l16 l17 l18 l19 l20 l21 l22 l23 l24 l25 l26 l27 l28 l29 l30 l31 l32 l33 l34
                      have HW := Lib.hid (hin2.out.tr hC)
                      clear hC hd1 hgc hrc y0 y1 p9
                      go_wp2_with fail
                      go_roundg (rn + 64 - (i + 1))
                      case measure => omega
                      case rel => exact ⟨i + 1, rfl, by omega, by go_num, HW⟩
                · obtain rfl : i = rn + 64 := by omega
                  clear hgv hrv hra hrcc hA hrc
                  go_wp2_with fail
                  go_roundg (q - (k + 1))
                  case measure => omega
                  case rel => exact ⟨k + 1, rfl, by omega, by go_num, hin2⟩
            · obtain rfl : k = q := by omega
              have H1 := Lib.hid (And.intro (HV.out.1.chg0 oqG hin.out) HV.out.2)
              clear hin HV
              obtain ⟨ob2, hmk2, zs0, hob2, hzo, -⟩ := made_full (P := Tryz.prog) (t := 74) (e := 25) Tryz.underlying74 hi0 hz0 hz1 rfl (by decide) (by simp [Value.cells, Value.oneCell']) 64 (by rw [hz2]; omega) (by simp only [maxLen]; omega)
              have HO := Lib.hid (And.intro hob2 hzo)
              replace hmk2 : ∀ W : World, (Instr.makeSlice 74 (.int .i64 64) (.int .i64 64)).run Tryz.prog W = .ok (.slice (some ⟨W.heap.size, 0, none⟩) 64 64) (W.alloc ob2) := hmk2
              clear hob2 hzo
              go_wp2_with fail
              go_loopg [11] k (fun dd kv wr => ∃ q : Nat, dd = k - q ∧ q ≤ k ∧ kv = .int .i64 q ∧ Hid (∃ G m, ApSQ kdG k w S b cL gb wr R G G m ∧ ∀ j, j < k → (G j).n = (R j).n + 64))
              case atStart => exact ⟨0, rfl, Nat.zero_le _, rfl, Lib.hid ⟨G, _, H1.out.1, H1.out.2⟩⟩
              case round =>
                obtain ⟨q, rfl, hq, rfl, hin⟩ := hrel
                obtain ⟨wi, rfl⟩ : ∃ wk, wk = wr := ⟨_, rfl⟩
                by_cases hql : q < k
                · go_wp2_with fail
                  obtain ⟨mb, hmb⟩ : ∃ mb, mb = wi.heap.size := ⟨_, rfl⟩
                  have hM0 := HO.out.1 wi
                  rw [← hmb] at hM0 ⊢
                  have HM0 := Lib.hid (And.intro hM0 (And.intro ((Chg.refl [] wi).alloc ob2) hmb))
                  clear hM0 hmb
                  go_loopg [13] 64 (fun dd iv wr => ∃ i : Nat, dd = 64 - i ∧ i ≤ 64 ∧ iv = .int .i64 i ∧ Hid (∃ ys, wr.ownsRow 0 25 2 (.slice (some ⟨mb, 0, none⟩) 64 64) 64 ys ∧ (∀ u ∈ ys, u.oneCell' = true) ∧ Chg [] wi wr))
                  case atStart => exact ⟨0, rfl, Nat.zero_le _, rfl, Lib.hid ⟨_, HM0.out.1, HO.out.2, HM0.out.2.1⟩⟩
                  case round =>
                    obtain ⟨i, rfl, hi, rfl, hin2⟩ := hrel
                    obtain ⟨wq, rfl⟩ : ∃ wq, wq = wr := ⟨_, rfl⟩
                    obtain ⟨ys, hys, hone, hcw⟩ := hin2.out
                    by_cases hil : i < 64
                    · go_wp2_with fail
                      refine (markGrammar_any wq ((q : Int) + k) i (by omega) (by omega) (by omega) (by omega)).mono ?_
                      rintro e w2 ⟨bb, rfl, hel, hc2⟩
                      obtain ⟨mz, hmz⟩ : ∃ mz, mz = markZ ((q : Int) + k) i := ⟨_, rfl⟩
                      clear hmz hel
                      have hrow2 := hc2.row hys (fun _ _ => by simp)
                      have hcf : ∀ r, r < 2 → (∃ v, w2.cell? ⟨mb, i * 2 + r, none⟩ = some v) ∧ w2.frozen? ⟨mb, i * 2 + r, none⟩ = false := fun r hr => by
                        obtain ⟨q1, q2, _⟩ := row_put hrow2 (i := i * 2 + r) (by omega)
                        refine ⟨?_, q2⟩
                        rw [q1]
                        exact ⟨_, List.getElem?_eq_getElem (by rw [hrow2.1]; omega)⟩
                      obtain ⟨W9, ys9, hW9, hown9, hch9, -, hmem9⟩ := row_puts [.slice (some ⟨bb, 0, none⟩) 1 1, .slice none 0 0] (i * 2) w2 ys hrow2 (by show i * 2 + 2 ≤ 64 * 2; omega)
                      replace hW9 : W9 = ((w2).setCell ⟨mb, i * 2, none⟩ (.slice (some ⟨bb, 0, none⟩) 1 1)).setCell ⟨mb, i * 2 + 1, none⟩ (.slice none 0 0) := hW9
                      obtain ⟨⟨u0, hu0⟩, hf0⟩ : (∃ v, w2.cell? ⟨mb, i * 2, none⟩ = some v) ∧ w2.frozen? ⟨mb, i * 2, none⟩ = false := hcf 0 (by decide)
                      obtain ⟨⟨u1, hu1⟩, hf1⟩ : (∃ v, w2.cell? ⟨mb, i * 2 + 1, none⟩ = some v) ∧ w2.frozen? ⟨mb, i * 2 + 1, none⟩ = false := hcf 1 (by decide)
                      have h1vs : ∀ u ∈ ([.slice (some ⟨bb, 0, none⟩) 1 1, .slice none 0 0] : List Value), u.oneCell' = true := by simp [Value.oneCell']
                      have HZ := Lib.hid (And.intro hown9 (And.intro (show ∀ u ∈ ys9, u.oneCell' = true from fun u hu => (hmem9 u hu).elim (hone u) (h1vs u)) ((hcw.tr hc2).trans hch9 (fun j hj => .inr (by simp at hj; have := HM0.out.2.2; omega)))))
                      clear hcf hown9 hch9 hmem9 h1vs hrow2 hys hone hcw hc2 hin2
                      go_wp2_with fail
                      rw [← hW9]
                      clear hW9 hu0 hf0 hu1 hf1
                      go_roundg (64 - (i + 1))
                      case measure => omega
                      case rel => exact ⟨i + 1, rfl, by omega, by go_num, Lib.hid ⟨_, HZ.out.1, HZ.out.2.1, HZ.out.2.2⟩⟩
                    · obtain rfl : i = 64 := by omega
                      obtain ⟨G, m, hA, hGn⟩ := hin.out
                      have hA := hA.chg0 oqG hcw
                      obtain ⟨bL, rfl, -, hNc, hcm, hrc, -, -⟩ := hA.ls.at hql
                      obtain ⟨rn, hrn⟩ : ∃ rn, rn = (R q).n := ⟨_, rfl⟩
                      obtain ⟨ra, hra⟩ : ∃ ra, ra = (R q).a := ⟨_, rfl⟩
                      obtain ⟨rc, hrcc⟩ : ∃ rc, rc = (R q).c := ⟨_, rfl⟩
                      have hrv : (R q).v = .slice ra rn rc := by rw [hrn, hra, hrcc]; rfl
                      rw [hrv] at hrc
                      obtain ⟨xs, hx1, hx2⟩ := hA.aps.row q hql
                      have hlq := H.out.1 q hql
                      rw [← hrn] at hlq hx1 hx2
                      rw [hrv] at hx1
                      have hcells : ∀ j u, ys[j]? = some u → wq.cell? ((⟨mb, 0, none⟩ : Addr).add j) = some u := hys.cells (g := mb) rfl
                      have h2' : rn + 64 ≤ maxLen ∧ (rn + 64) * 48 ≤ 140737488355328 := by simp only [maxLen]; omega
                      have HX := Lib.hid (And.intro hA (And.intro hGn (And.intro hx1 (And.intro hx2 (And.intro hcells (And.intro hys.1 (And.intro hone (And.intro h2' (And.intro hrn hrv)))))))))
                      have hq1 : (q : Int) < k := by omega
                      clear hA hGn hx1 hx2 hcells hys hone h2' hrn hrv hra hrcc hcw hin2
                      go_wp2_with (at_builtin; refine wpList_append_two rfl _ _ 74 rfl 0 25 i0 _ 2 48 Tryz.underlying74 hi0 hz0 hz1 hz2 rfl (by decide) (.slice ra rn rc) rn xs rfl HX.out.2.2.1 (some ⟨mb, 0, none⟩) 64 64 ys rfl HX.out.2.2.2.2.2.1 (fun h => by cases h) (fun b hb => by cases hb; exact HX.out.2.2.2.2.1) HX.out.2.2.2.2.2.2.1 HX.out.2.2.2.2.2.2.2.1.1 HX.out.2.2.2.2.2.2.2.1.2 (Nat.zero_le _) ?_; intro v' w5 hr5 hg5 hor5; obtain ⟨a5, c5, rfl⟩ := ownsRow_slice hr5; have hst := HX.out.1.step oqG (k := q) hql (s := R q) (g' := ⟨a5, rn + 64, c5⟩) (.inl rfl) (m' := rn) hr5 (fun r hr => by have e9 : seg kdG.m (xs ++ ys) r = seg kdG.m xs r := seg_left HX.out.2.2.1.1 hr; rw [e9]; exact HX.out.2.2.2.1 r hr) (by unfold IR.blk; rw [HX.out.2.2.2.2.2.2.2.2.2]; exact hg5) (by rw [HX.out.2.2.2.2.2.2.2.2.2, ← HX.out.2.2.2.2.2.2.2.2.1]; exact hor5) (by rw [← HX.out.2.2.2.2.2.2.2.2.1]; show rn ≤ rn + 64; omega) (by rw [← HX.out.2.2.2.2.2.2.2.2.1]; exact Nat.le_refl _); obtain ⟨gb', e9, hgl, -, -, hgc, hgf, -⟩ := hst.gs.at hql; cases e9; obtain ⟨v9, hv9⟩ : ∃ v, w5.cell? ⟨gb, q, none⟩ = some v := ⟨_, hgc⟩; have HST := Lib.hid (hst.put oqG hql (hbg (by omega)) ⟨a5, rn + 64, c5⟩); clear hr5 hg5 hor5 hst hgc)
                      clear hv9 hgf
                      go_roundg (k - (q + 1))
                      case measure => omega
                      case rel =>
                        refine ⟨q + 1, rfl, by omega, by go_num, Lib.hid ⟨upd G q ⟨a5, rn + 64, c5⟩, _, HST.out, fun j hj => ?_⟩⟩
                        by_cases e : j = q
                        · subst e; rw [upd_same, ← HX.out.2.2.2.2.2.2.2.2.1]
                        · rw [upd_ne _ _ e]; exact HX.out.2.1 j hj
                · obtain rfl : q = k := by omega
                  obtain ⟨G, m, hA, hGn⟩ := hin.out
                  have HV := Lib.hid (And.intro hA hGn)
                  clear hA hGn hin
                  go_wp2_with fail
                  go_loopg [14] q (fun dd kv wr => ∃ k : Nat, dd = q - k ∧ k ≤ q ∧ kv = .int .i64 k ∧ Hid (Chg [] wi wr))
                  case atStart => exact ⟨0, rfl, Nat.zero_le _, rfl, Lib.hid (Chg.refl _ _)⟩
                  case round =>
                    obtain ⟨k, rfl, hk, rfl, hin⟩ := hrel
                    obtain ⟨wj, rfl⟩ : ∃ wk, wk = wr := ⟨_, rfl⟩
                    by_cases hkl : k < q
                    · obtain ⟨rn, hrn⟩ : ∃ rn, rn = (R k).n := ⟨_, rfl⟩
                      have hlq := H.out.1 k hkl
                      rw [← hrn] at hlq
                      have HK := Lib.hid hrn
                      clear hrn
                      go_wp2_with fail
                      go_loopg [15] rn (fun dd iv wr => ∃ i : Nat, dd = rn - i ∧ i ≤ rn ∧ iv = .int .i64 i ∧ Hid (Chg [] wi wr))
                      case atStart => exact ⟨0, rfl, Nat.zero_le _, rfl, hin⟩
                      case round =>
                        obtain ⟨i, rfl, hi, rfl, hin2⟩ := hrel
                        obtain ⟨wq, rfl⟩ : ∃ wq, wq = wr := ⟨_, rfl⟩
                        have hA := HV.out.1.chg0 oqG hin2.out
                        obtain ⟨gb', e9, -, -, -, hgc, -, -⟩ := hA.gs.at hkl
                        cases e9
                        obtain ⟨bL, rfl, -, hNc, hcm, hrc, -, -⟩ := hA.ls.at hkl
                        obtain ⟨ga, hga⟩ : ∃ ga, ga = (G k).a := ⟨_, rfl⟩
                        obtain ⟨gc, hgcc⟩ : ∃ gc, gc = (G k).c := ⟨_, rfl⟩
                        obtain ⟨ra, hra⟩ : ∃ ra, ra = (R k).a := ⟨_, rfl⟩
                        obtain ⟨rc, hrcc⟩ : ∃ rc, rc = (R k).c := ⟨_, rfl⟩
                        have hgv : (G k).v = .slice ga (rn + 64) gc := by rw [HK.out, hga, hgcc, ← HV.out.2 k hkl]; rfl
                        have hrv : (R k).v = .slice ra rn rc := by rw [HK.out, hra, hrcc]; rfl
                        rw [hgv] at hgc
                        rw [hrv] at hrc
                        by_cases hil : i < rn
                        · obtain ⟨mz, hmz⟩ : ∃ mz, mz = markZ k i := ⟨_, rfl⟩
                          have hMk : ∀ W, Calls Tryz.prog 165 #[.int .i64 k, .int .i64 i] W fun e w' => ∃ bb, e = .returned (.agg #[.slice (some ⟨bb, 0, none⟩) 1 1, .slice none 0 0]) ∧ grEl w' bb mz ∧ Chg [] W w' := fun W => by rw [hmz]; exact markGrammar_any W k i (by omega) (by omega) (by omega) (by omega)
                          have HM := Lib.hid hMk
                          have HI : Hid (I64 mz) := Lib.hid (by rw [hmz]; exact markZ_i64 (by omega) (by omega) (by omega) (by omega))
                          clear hMk
                          obtain ⟨q1, q2, q3⟩ := hA.aps.grown k hkl
                          obtain ⟨g, l9, ya, ye, yc, yl, ym⟩ := (q3).at oqG (i := i) (by rw [← HK.out] at q2; omega) (by rw [HV.out.2 k hkl, ← HK.out]; omega)
                          obtain ⟨bg, rfl, yg⟩ := ye
                          rw [← hmz] at yg
                          have y0 : wq.cell? ⟨g, i * 2, none⟩ = some (.slice (some ⟨bg, 0, none⟩) 1 1) := yc 0 (by decide)
                          have y1 : wq.cell? ⟨g, i * 2 + 1, none⟩ = some (.slice none 0 0) := yc 1 (by decide)
                          clear yc
                          rw [HV.out.2 k hkl, ← HK.out, ← hgcc] at yl
                          rw [← hga] at ya
                          subst ya
                          have HG2 := Lib.hid yg
                          clear yg

                          obtain ⟨g2, l9, xa, xe, xc, xl, xm⟩ := ((hA.aps.row k hkl)).at oqG (i := i) (by rw [← HK.out]; exact hil) (by rw [← HK.out]; exact hil)
                          obtain ⟨br, rfl, xg⟩ := xe
                          rw [← hmz] at xg
                          have x0 : wq.cell? ⟨g2, i * 2, none⟩ = some (.slice (some ⟨br, 0, none⟩) 1 1) := xc 0 (by decide)
                          have x1 : wq.cell? ⟨g2, i * 2 + 1, none⟩ = some (.slice none 0 0) := xc 1 (by decide)
                          clear xc
                          rw [← hra] at xa
                          subst xa
                          rw [← HK.out, ← hrcc] at xl
                          have HR2 := Lib.hid xg
                          clear xg

                          have hi1 : (i : Int) < (rn : Int) + 64 := by omega
                          have hk1 : (k : Int) < q := by omega
                          have hi2 : (i : Int) < rn := by omega
                          clear hmz hgv hrv hra hrcc hga hgcc hA ym xm q1 q2 q3
                          go_wp2_with fail
                          refine wp_region_st (by kernel_rfl) (by kernel_rfl) [167, 168, 169, 170, 171, 172, 173, 174, 175, 176, 177, 178, 179, 180, 181, 182, 183, 184, 185, 186, 187, 188, 189, 190, 191, 192] (by kernel_rfl) (fun rI rV rW => match rI with | 0 => rV = .slice (some ⟨bL, 0, none⟩) q cL | 1 => rV = .int .i64 k | 2 => rV = .pointer (some ⟨bL, k, none⟩) | 3 => rV = .slice (some ⟨g2, 0, none⟩) rn rc | 4 => rV = .int .i64 i | 5 => rV = .pointer (some ⟨g2, i * 2, none⟩) | 6 => rV = .agg #[.slice (some ⟨br, 0, none⟩) 1 1, .slice none 0 0] | 7 => rV = .int .i64 k | 8 => rV = .int .i64 i | 9 => ∃ b176, rV = .agg #[.slice (some ⟨b176, 0, none⟩) 1 1, .slice none 0 0] ∧ grEl rW b176 mz | 10 => rV = .bool true | 11 => rV = .bool false | 12 => rV = .bool false | 13 => rV = .slice (some ⟨gb, 0, none⟩) q q | 14 => rV = .int .i64 k | 15 => rV = .pointer (some ⟨gb, k, none⟩) | 16 => rV = .slice (some ⟨g, 0, none⟩) (rn + 64) gc | 17 => rV = .int .i64 i | 18 => rV = .pointer (some ⟨g, i * 2, none⟩) | 19 => rV = .agg #[.slice (some ⟨bg, 0, none⟩) 1 1, .slice none 0 0] | 20 => rV = .int .i64 k | 21 => rV = .int .i64 i | 22 => ∃ b189, rV = .agg #[.slice (some ⟨b189, 0, none⟩) 1 1, .slice none 0 0] ∧ grEl rW b189 mz | 23 => rV = .bool true | 24 => rV = .bool false | 25 => rV = .bool false | _ => True) ?hS26 ?hstep26 ?hdone26
                          case hS26 =>
                            intro rI rV rW rW' hc rP
                            match rI, rP with
                            | 0, rP => exact rP
                            | 1, rP => exact rP
                            | 2, rP => exact rP
                            | 3, rP => exact rP
                            | 4, rP => exact rP
                            | 5, rP => exact rP
                            | 6, rP => exact rP
                            | 7, rP => exact rP
                            | 8, rP => exact rP
                            | 9, rP => exact (by obtain ⟨b176, e9, hp⟩ := rP; exact ⟨b176, e9, hp.chg0 hc⟩)
                            | 10, rP => exact rP
                            | 11, rP => exact rP
                            | 12, rP => exact rP
                            | 13, rP => exact rP
                            | 14, rP => exact rP
                            | 15, rP => exact rP
                            | 16, rP => exact rP
                            | 17, rP => exact rP
                            | 18, rP => exact rP
                            | 19, rP => exact rP
                            | 20, rP => exact rP
                            | 21, rP => exact rP
                            | 22, rP => exact (by obtain ⟨b189, e9, hp⟩ := rP; exact ⟨b189, e9, hp.chg0 hc⟩)
                            | 23, rP => exact rP
                            | 24, rP => exact rP
                            | 25, rP => exact rP
                            | _ + 26, _ => trivial
                          case hstep26 =>
                            intro rI rH us W hC hdep K hK
                            have hiN : rI < 26 := rH
                            simp only [actU, Act.put, List.setIfInBounds_toArray, List.set_cons_succ, List.set_cons_zero, Nat.reduceAdd] at hK ⊢
                            have hgc9 := hC.cell hgc (by simp)
                            have hrc9 := hC.cell hrc (by simp)
                            have y0W := hC.cell y0 (by simp)
                            have y1W := hC.cell y1 (by simp)
                            have x0W := hC.cell x0 (by simp)
                            have x1W := hC.cell x1 (by simp)
                            rcases (show rI = 0 ∨ rI = 1 ∨ rI = 2 ∨ rI = 3 ∨ rI = 4 ∨ rI = 5 ∨ rI = 6 ∨ rI = 7 ∨ rI = 8 ∨ rI = 9 ∨ rI = 10 ∨ rI = 11 ∨ rI = 12 ∨ rI = 13 ∨ rI = 14 ∨ rI = 15 ∨ rI = 16 ∨ rI = 17 ∨ rI = 18 ∨ rI = 19 ∨ rI = 20 ∨ rI = 21 ∨ rI = 22 ∨ rI = 23 ∨ rI = 24 ∨ rI = 25 by omega) with rfl | rfl | rfl | rfl | rfl | rfl | rfl | rfl | rfl | rfl | rfl | rfl | rfl | rfl | rfl | rfl | rfl | rfl | rfl | rfl | rfl | rfl | rfl | rfl | rfl | rfl
                            · simp only [List.getD_cons_succ, List.getD_cons_zero, List.setIfInBounds_toArray, List.set_cons_succ, List.set_cons_zero] at hK ⊢
                              refine wpOp_at rfl rfl ?_
                              go_simp
                              exact hK _ _ _ rfl (Chg.refl _ _) rfl
                            · simp only [List.getD_cons_succ, List.getD_cons_zero, List.setIfInBounds_toArray, List.set_cons_succ, List.set_cons_zero] at hK ⊢
                              refine wpOp_at rfl rfl ?_
                              go_simp
                              exact hK _ _ _ rfl (Chg.refl _ _) rfl
                            · have l0 := hdep 0 (by kernel_rfl)
                              replace l0 : us 0 = .slice (some ⟨bL, 0, none⟩) q cL := l0
                              have l1 := hdep 1 (by kernel_rfl)
                              replace l1 : us 1 = .int .i64 k := l1
                              simp only [List.getD_cons_succ, List.getD_cons_zero, List.setIfInBounds_toArray, List.set_cons_succ, List.set_cons_zero, l0, l1] at hK ⊢
                              refine wpOp_at rfl rfl ?_
                              go_simp
                              exact hK _ _ _ rfl (Chg.refl _ _) rfl
                            · have l2 := hdep 2 (by kernel_rfl)
                              replace l2 : us 2 = .pointer (some ⟨bL, k, none⟩) := l2
                              simp only [List.getD_cons_succ, List.getD_cons_zero, List.setIfInBounds_toArray, List.set_cons_succ, List.set_cons_zero, l2] at hK ⊢
                              refine wpOp_at rfl rfl ?_
                              go_simp
                              exact hK _ _ _ rfl (Chg.refl _ _) rfl
                            · simp only [List.getD_cons_succ, List.getD_cons_zero, List.setIfInBounds_toArray, List.set_cons_succ, List.set_cons_zero] at hK ⊢
                              refine wpOp_at rfl rfl ?_
                              go_simp
                              exact hK _ _ _ rfl (Chg.refl _ _) rfl
                            · have l3 := hdep 3 (by kernel_rfl)
                              replace l3 : us 3 = .slice (some ⟨g2, 0, none⟩) rn rc := l3
                              have l4 := hdep 4 (by kernel_rfl)
                              replace l4 : us 4 = .int .i64 i := l4
                              simp only [List.getD_cons_succ, List.getD_cons_zero, List.setIfInBounds_toArray, List.set_cons_succ, List.set_cons_zero, l3, l4] at hK ⊢
                              refine wpOp_at rfl rfl ?_
                              go_simp
                              exact hK _ _ _ rfl (Chg.refl _ _) rfl
                            · have l5 := hdep 5 (by kernel_rfl)
                              replace l5 : us 5 = .pointer (some ⟨g2, i * 2, none⟩) := l5
                              simp only [List.getD_cons_succ, List.getD_cons_zero, List.setIfInBounds_toArray, List.set_cons_succ, List.set_cons_zero, l5] at hK ⊢
                              refine wpOp_at rfl rfl ?_
                              go_simp
                              exact hK _ _ _ rfl (Chg.refl _ _) rfl
                            · simp only [List.getD_cons_succ, List.getD_cons_zero, List.setIfInBounds_toArray, List.set_cons_succ, List.set_cons_zero] at hK ⊢
                              refine wpOp_at rfl rfl ?_
                              go_simp
                              exact hK _ _ _ rfl (Chg.refl _ _) rfl
                            · simp only [List.getD_cons_succ, List.getD_cons_zero, List.setIfInBounds_toArray, List.set_cons_succ, List.set_cons_zero] at hK ⊢
                              refine wpOp_at rfl rfl ?_
                              go_simp
                              exact hK _ _ _ rfl (Chg.refl _ _) rfl
                            · have l7 := hdep 7 (by kernel_rfl)
                              replace l7 : us 7 = .int .i64 k := l7
                              have l8 := hdep 8 (by kernel_rfl)
                              replace l8 : us 8 = .int .i64 i := l8
                              simp only [List.getD_cons_succ, List.getD_cons_zero, List.setIfInBounds_toArray, List.set_cons_succ, List.set_cons_zero, l7, l8] at hK ⊢
                              refine wpOp_at rfl rfl ?_
                              go_simp
                              refine (HM.out W).mono ?_
                              rintro e wz ⟨b176, rfl, hel, hz⟩
                              exact hK _ _ _ rfl hz ⟨b176, rfl, hel⟩
                            · have l6 := hdep 6 (by kernel_rfl)
                              replace l6 : us 6 = .agg #[.slice (some ⟨br, 0, none⟩) 1 1, .slice none 0 0] := l6
                              have l9 := hdep 9 (by kernel_rfl)
                              obtain ⟨b176, l9, p9⟩ := l9
                              simp only [List.getD_cons_succ, List.getD_cons_zero, List.setIfInBounds_toArray, List.set_cons_succ, List.set_cons_zero, l6, l9] at hK ⊢
                              refine wpOp_at rfl rfl ?_
                              go_simp
                              refine (sameGram_mark W br b176 mz HI.out (HR2.out.chg0 hC) p9).mono ?_
                              rintro e wz ⟨rfl, hz⟩
                              exact hK _ _ _ rfl hz rfl
                            · have l10 := hdep 10 (by kernel_rfl)
                              replace l10 : us 10 = .bool true := l10
                              simp only [List.getD_cons_succ, List.getD_cons_zero, List.setIfInBounds_toArray, List.set_cons_succ, List.set_cons_zero, l10] at hK ⊢
                              refine wpOp_at rfl rfl ?_
                              go_simp
                              exact hK _ _ _ rfl (Chg.refl _ _) rfl
                            · have l11 := hdep 11 (by kernel_rfl)
                              replace l11 : us 11 = .bool false := l11
                              simp only [List.getD_cons_succ, List.getD_cons_zero, List.setIfInBounds_toArray, List.set_cons_succ, List.set_cons_zero, l11] at hK ⊢
                              refine wpOp_at rfl rfl ?_
                              go_simp
                              exact hK _ _ _ rfl (Chg.refl _ _) rfl
                            · have l12 := hdep 12 (by kernel_rfl)
                              replace l12 : us 12 = .bool false := l12
                              simp only [List.getD_cons_succ, List.getD_cons_zero, List.setIfInBounds_toArray, List.set_cons_succ, List.set_cons_zero, l12] at hK ⊢
                              refine wpOp_want rfl (by rfl) ?_
                              go_simp
                              exact hK _ _ _ rfl (Chg.refl _ _) rfl
                            · have l12 := hdep 12 (by kernel_rfl)
                              replace l12 : us 12 = .bool false := l12
                              simp only [List.getD_cons_succ, List.getD_cons_zero, List.setIfInBounds_toArray, List.set_cons_succ, List.set_cons_zero, l12] at hK ⊢
                              refine wpOp_want rfl (by rfl) ?_
                              go_simp
                              exact hK _ _ _ rfl (Chg.refl _ _) rfl
                            · have l12 := hdep 12 (by kernel_rfl)
                              replace l12 : us 12 = .bool false := l12
                              have l13 := hdep 13 (by kernel_rfl)
                              replace l13 : us 13 = .slice (some ⟨gb, 0, none⟩) q q := l13
                              have l14 := hdep 14 (by kernel_rfl)
                              replace l14 : us 14 = .int .i64 k := l14
                              simp only [List.getD_cons_succ, List.getD_cons_zero, List.setIfInBounds_toArray, List.set_cons_succ, List.set_cons_zero, l12, l13, l14] at hK ⊢
                              refine wpOp_want rfl (by rfl) ?_
                              go_simp
                              exact hK _ _ _ rfl (Chg.refl _ _) rfl
                            · have l12 := hdep 12 (by kernel_rfl)
                              replace l12 : us 12 = .bool false := l12
                              have l15 := hdep 15 (by kernel_rfl)
                              replace l15 : us 15 = .pointer (some ⟨gb, k, none⟩) := l15
                              simp only [List.getD_cons_succ, List.getD_cons_zero, List.setIfInBounds_toArray, List.set_cons_succ, List.set_cons_zero, l12, l15] at hK ⊢
                              refine wpOp_want rfl (by rfl) ?_
                              go_simp
                              exact hK _ _ _ rfl (Chg.refl _ _) rfl
                            · have l12 := hdep 12 (by kernel_rfl)
                              replace l12 : us 12 = .bool false := l12
                              simp only [List.getD_cons_succ, List.getD_cons_zero, List.setIfInBounds_toArray, List.set_cons_succ, List.set_cons_zero, l12] at hK ⊢
                              refine wpOp_want rfl (by rfl) ?_
                              go_simp
                              exact hK _ _ _ rfl (Chg.refl _ _) rfl
                            · have l12 := hdep 12 (by kernel_rfl)
                              replace l12 : us 12 = .bool false := l12
                              have l16 := hdep 16 (by kernel_rfl)
                              replace l16 : us 16 = .slice (some ⟨g, 0, none⟩) (rn + 64) gc := l16
                              have l17 := hdep 17 (by kernel_rfl)
                              replace l17 : us 17 = .int .i64 i := l17
                              simp only [List.getD_cons_succ, List.getD_cons_zero, List.setIfInBounds_toArray, List.set_cons_succ, List.set_cons_zero, l12, l16, l17] at hK ⊢
                              refine wpOp_want rfl (by rfl) ?_
                              go_simp
                              exact hK _ _ _ rfl (Chg.refl _ _) rfl
                            · have l12 := hdep 12 (by kernel_rfl)
                              replace l12 : us 12 = .bool false := l12
                              have l18 := hdep 18 (by kernel_rfl)
                              replace l18 : us 18 = .pointer (some ⟨g, i * 2, none⟩) := l18
                              simp only [List.getD_cons_succ, List.getD_cons_zero, List.setIfInBounds_toArray, List.set_cons_succ, List.set_cons_zero, l12, l18] at hK ⊢
                              refine wpOp_want rfl (by rfl) ?_
                              go_simp
                              exact hK _ _ _ rfl (Chg.refl _ _) rfl
                            · have l12 := hdep 12 (by kernel_rfl)
                              replace l12 : us 12 = .bool false := l12
                              simp only [List.getD_cons_succ, List.getD_cons_zero, List.setIfInBounds_toArray, List.set_cons_succ, List.set_cons_zero, l12] at hK ⊢
                              refine wpOp_want rfl (by rfl) ?_
                              go_simp
                              exact hK _ _ _ rfl (Chg.refl _ _) rfl
                            · have l12 := hdep 12 (by kernel_rfl)
                              replace l12 : us 12 = .bool false := l12
                              simp only [List.getD_cons_succ, List.getD_cons_zero, List.setIfInBounds_toArray, List.set_cons_succ, List.set_cons_zero, l12] at hK ⊢
                              refine wpOp_want rfl (by rfl) ?_
                              go_simp
                              exact hK _ _ _ rfl (Chg.refl _ _) rfl
                            · have l12 := hdep 12 (by kernel_rfl)
                              replace l12 : us 12 = .bool false := l12
                              have l20 := hdep 20 (by kernel_rfl)
                              replace l20 : us 20 = .int .i64 k := l20
                              have l21 := hdep 21 (by kernel_rfl)
                              replace l21 : us 21 = .int .i64 i := l21
                              simp only [List.getD_cons_succ, List.getD_cons_zero, List.setIfInBounds_toArray, List.set_cons_succ, List.set_cons_zero, l12, l20, l21] at hK ⊢
                              refine wpOp_want rfl (by rfl) ?_
                              go_simp
                              refine (HM.out W).mono ?_
                              rintro e wz ⟨b189, rfl, hel, hz⟩
                              exact hK _ _ _ rfl hz ⟨b189, rfl, hel⟩
                            · have l12 := hdep 12 (by kernel_rfl)
                              replace l12 : us 12 = .bool false := l12
                              have l19 := hdep 19 (by kernel_rfl)
                              replace l19 : us 19 = .agg #[.slice (some ⟨bg, 0, none⟩) 1 1, .slice none 0 0] := l19
                              have l22 := hdep 22 (by kernel_rfl)
                              obtain ⟨b189, l22, p22⟩ := l22
                              simp only [List.getD_cons_succ, List.getD_cons_zero, List.setIfInBounds_toArray, List.set_cons_succ, List.set_cons_zero, l12, l19, l22] at hK ⊢
                              refine wpOp_want rfl (by rfl) ?_
                              go_simp
                              refine (sameGram_mark W bg b189 mz HI.out (HG2.out.chg0 hC) p22).mono ?_
                              rintro e wz ⟨rfl, hz⟩
                              exact hK _ _ _ rfl hz rfl
                            · have l12 := hdep 12 (by kernel_rfl)
                              replace l12 : us 12 = .bool false := l12
                              have l23 := hdep 23 (by kernel_rfl)
                              replace l23 : us 23 = .bool true := l23
                              simp only [List.getD_cons_succ, List.getD_cons_zero, List.setIfInBounds_toArray, List.set_cons_succ, List.set_cons_zero, l12, l23] at hK ⊢
                              refine wpOp_want rfl (by rfl) ?_
                              go_simp
                              exact hK _ _ _ rfl (Chg.refl _ _) rfl
                            · have l12 := hdep 12 (by kernel_rfl)
                              replace l12 : us 12 = .bool false := l12
                              have l24 := hdep 24 (by kernel_rfl)
                              replace l24 : us 24 = .bool false := l24
                              simp only [List.getD_cons_succ, List.getD_cons_zero, List.setIfInBounds_toArray, List.set_cons_succ, List.set_cons_zero, l12, l24] at hK ⊢
                              refine wpOp_at rfl rfl ?_
                              go_simp
                              exact hK _ _ _ rfl (Chg.refl _ _) rfl
                          case hdone26 =>
                            intro us W hC hall
                            have l0 := hall 0 (by decide)
                            replace l0 : us 0 = .slice (some ⟨bL, 0, none⟩) q cL := l0
                            have l1 := hall 1 (by decide)
                            replace l1 : us 1 = .int .i64 k := l1
                            have l2 := hall 2 (by decide)
                            replace l2 : us 2 = .pointer (some ⟨bL, k, none⟩) := l2
                            have l3 := hall 3 (by decide)
                            replace l3 : us 3 = .slice (some ⟨g2, 0, none⟩) rn rc := l3
                            have l4 := hall 4 (by decide)
                            replace l4 : us 4 = .int .i64 i := l4
                            have l5 := hall 5 (by decide)
                            replace l5 : us 5 = .pointer (some ⟨g2, i * 2, none⟩) := l5
                            have l6 := hall 6 (by decide)
                            replace l6 : us 6 = .agg #[.slice (some ⟨br, 0, none⟩) 1 1, .slice none 0 0] := l6
                            have l7 := hall 7 (by decide)
                            replace l7 : us 7 = .int .i64 k := l7
                            have l8 := hall 8 (by decide)
                            replace l8 : us 8 = .int .i64 i := l8
                            have l9 := hall 9 (by decide)
                            obtain ⟨b176, l9, p9⟩ := l9
                            have l10 := hall 10 (by decide)
                            replace l10 : us 10 = .bool true := l10
                            have l11 := hall 11 (by decide)
                            replace l11 : us 11 = .bool false := l11
                            have l12 := hall 12 (by decide)
                            replace l12 : us 12 = .bool false := l12
                            have l13 := hall 13 (by decide)
                            replace l13 : us 13 = .slice (some ⟨gb, 0, none⟩) q q := l13
                            have l14 := hall 14 (by decide)
                            replace l14 : us 14 = .int .i64 k := l14
                            have l15 := hall 15 (by decide)
                            replace l15 : us 15 = .pointer (some ⟨gb, k, none⟩) := l15
                            have l16 := hall 16 (by decide)
                            replace l16 : us 16 = .slice (some ⟨g, 0, none⟩) (rn + 64) gc := l16
                            have l17 := hall 17 (by decide)
                            replace l17 : us 17 = .int .i64 i := l17
                            have l18 := hall 18 (by decide)
                            replace l18 : us 18 = .pointer (some ⟨g, i * 2, none⟩) := l18
                            have l19 := hall 19 (by decide)
                            replace l19 : us 19 = .agg #[.slice (some ⟨bg, 0, none⟩) 1 1, .slice none 0 0] := l19
                            have l20 := hall 20 (by decide)
                            replace l20 : us 20 = .int .i64 k := l20
                            have l21 := hall 21 (by decide)
                            replace l21 : us 21 = .int .i64 i := l21
                            have l22 := hall 22 (by decide)
                            obtain ⟨b189, l22, p22⟩ := l22
                            have l23 := hall 23 (by decide)
                            replace l23 : us 23 = .bool true := l23
                            have l24 := hall 24 (by decide)
                            replace l24 : us 24 = .bool false := l24
                            have l25 := hall 25 (by decide)
                            replace l25 : us 25 = .bool false := l25
                            simp only [actU, Act.put, List.setIfInBounds_toArray, List.set_cons_succ, List.set_cons_zero, Nat.reduceAdd, l0, l1, l2, l3, l4, l5, l6, l7, l8, l9, l10, l11, l12, l13, l14, l15, l16, l17, l18, l19, l20, l21, l22, l23, l24, l25]
                            clear hall l0 l1 l2 l3 l4 l5 l6 l7 l8 l9 l10 l11 l12 l13 l14 l15 l16 l17 l18 l19 l20 l21 l22 l23 l24 l25
                            have HW := Lib.hid (hin2.out.tr hC)
                            clear hC hgc hrc y0 y1 x0 x1 p9 p22
                            go_wp2_with fail
                            go_roundg (rn - (i + 1))
                            case measure => omega
                            case rel => exact ⟨i + 1, rfl, by omega, by go_num, HW⟩
                        · obtain rfl : i = rn := by omega
                          clear hgv hrv hra hrcc hga hgcc hA hgc
                          go_wp2_with fail
                          go_roundg (q - (k + 1))
                          case measure => omega
                          case rel => exact ⟨k + 1, rfl, by omega, by go_num, hin2⟩
                    · obtain rfl : k = q := by omega
                      go_wp2_with fail
                      go_ret
                      exact ⟨rfl, HV.out.1.chg.tr0 hin.out⟩
end Go.Proofs.YtibgfgfmljhimaaGreat

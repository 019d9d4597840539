/-
  NullEnds: what the law computes.
  Conditions: none.
-/
import Derived.Test.YtibgfgfmljhimaaGreatQNE1
import Derived.Test.YtibgfgfmljhimaaGreatQNT1
import Derived.Test.YtibgfgfmljhimaaGreatQGAny2
import Derived.Laws.IdiomStrings
set_option linter.unusedVariables false
set_option linter.unusedSimpArgs false
set_option linter.unnecessarySimpa false
namespace Go.Proofs.YtibgfgfmljhimaaGreat
open Go.RowKit Go.MapKept Go.Shelf

theorem FG.below {B : Nat} {w : World} {b1 : Option Addr} {n d1 : Nat} {b2 : Option Addr} {m d2 : Nat} {rs : List Rl} {L : List Cp} (h : FG B w b1 n d1 b2 m d2 rs L) : FG 0 w b1 n d1 b2 m d2 rs L :=
  ⟨h.ln, h.lm, row_base h.rules (Nat.zero_le _), h.nodes.below (Nat.zero_le _), h.wf, h.fn, h.fm, h.fk⟩
theorem bodies2 {w : World} {a0 : Option Addr} {n0 c0 : Nat} (h0 : FBody w a0 n0 c0) (l0 : n0 ≤ 50) {a1 : Option Addr} {n1 c1 : Nat} (h1 : FBody w a1 n1 c1) (l1 : n1 ≤ 50) {K : Nat} (hK : w.heap[K]? = some (.cells #[.slice a0 n0 c0, .slice a1 n1 c1] 23 (0, 0))) : BodiesF w (some ⟨K, 0, none⟩) 2 := by
  refine bodiesF_at (by decide) (fun i hi => ?_)
  rcases (show i = 0 ∨ i = 1 by omega) with rfl | rfl
  · exact ⟨K, 0, _, _, _, rfl, cell_of_cells hK 0, h0, l0⟩
  · exact ⟨K, 0, _, _, _, rfl, cell_of_cells hK 1, h1, l1⟩
theorem FG.chg {B : Nat} {w w' : World} {S : List Nat} {b1 : Option Addr} {n d1 : Nat} {b2 : Option Addr} {m d2 : Nat} {rs : List Rl} {L : List Cp} (h : FG B w b1 n d1 b2 m d2 rs L) (hc : Chg S w w') (hS : ∀ k ∈ S, NotRow w 43 k ∧ NotRow w 53 k ∧ NotRow w 3 k) : FG B w' b1 n d1 b2 m d2 rs L :=
  ⟨h.ln, h.lm, hc.rowOf h.rules (fun k hk => (hS k hk).1), h.nodes.chg hc (fun k hk => (hS k hk).2), h.wf, h.fn, h.fm, h.fk⟩
theorem BodiesF.chg0 {w w' : World} {a : Option Addr} {n : Nat} (h : BodiesF w a n) (hc : Chg [] w w') : BodiesF w' a n := by
  obtain ⟨KL, h1, h2, h3⟩ := h
  exact ⟨KL, h1, h2.keep hc.kp, h3⟩
theorem two_set9 {W : World} {b : Nat} {u0 u1 : Value} {t : TypeId} (h : W.heap[b]? = some (.cells #[u0, u1] t (0, 0))) (v0 v1 : Value) : ∃ w', w' = (W.setCell ⟨b, 0, none⟩ v0).setCell ⟨b, 1, none⟩ v1 ∧ w'.heap[b]? = some (.cells #[v0, v1] t (0, 0)) ∧ Chg [b] W w' := by
  refine ⟨_, rfl, ?_, ((Chg.refl [b] W).setCell (p := ⟨b, 0, none⟩) (.inl (by simp)) _).setCell (p := ⟨b, 1, none⟩) (.inl (by simp)) _⟩
  have h1 := heap_setCell_same h 0 v0
  have h2 := heap_setCell_same h1 1 v1
  exact h2
theorem tells11_fit {B : Nat} {w : World} {b1 : Option Addr} {n d1 : Nat} {b2 : Option Addr} {m d2 : Nat} {rs : List Rl} {L : List Cp} (h : FG B w b1 n d1 b2 m d2 rs L) (x y : Int) :
    Calls Tryz.prog 12 #[.agg #[.slice b1 n d1, .slice b2 m d2], .int .i64 x, .int .i64 y] w fun e w' => e = .returned (.bool true) ∧ Chg [] w w' := by
  obtain ⟨g1, g2⟩ := h.gram
  exact tells11_any w b1 n d1 b2 m d2 _ g1 g2 (by have := h.fn; omega) (by have := h.fm; omega) (fun z hz => by have := h.fk z hz; omega) x y
theorem Tryz.infoBody9 : (Tryz.prog.info? 23).map (fun i => (i.zero, i.size, i.bytes)) = some (some (.slice none 0 0), 1, 24) := by kernel_rfl
theorem kinds11 : ∀ i, i < 12 → ∃ k : Int, (#[.int .i64 1, .int .i64 2, .int .i64 6, .int .i64 7, .int .i64 8, .int .i64 9, .int .i64 10, .int .i64 11, .int .i64 12, .int .i64 4, .int .i64 3, .int .i64 5] : Array Value)[i]? = some (.int .i64 k) ∧ 1 ≤ k ∧ k ≤ 12 := fun i hi => by
  rcases (show i = 0 ∨ i = 1 ∨ i = 2 ∨ i = 3 ∨ i = 4 ∨ i = 5 ∨ i = 6 ∨ i = 7 ∨ i = 8 ∨ i = 9 ∨ i = 10 ∨ i = 11 by omega) with rfl | rfl | rfl | rfl | rfl | rfl | rfl | rfl | rfl | rfl | rfl | rfl <;> exact ⟨_, rfl, by decide, by decide⟩
theorem gram_none (w : World) : GramAt w none 0 0 none 0 0 ⟨[], []⟩ ∧ Reach ⟨[], []⟩ :=
  ⟨⟨rfl, Nat.le_refl _, Nat.zero_le _, (fun i h => by cases h), rfl, Nat.le_refl _, Nat.zero_le _, (fun i h => by cases h), ⟨(fun x hx => by cases hx), (fun x hx => by cases hx), (fun x hx => by cases hx)⟩⟩, by decide, by decide, fun x hx => by cases hx⟩

set_option maxRecDepth 100000 in
set_option maxHeartbeats 32000000 in
theorem nullEndsLaw_any (w : World) : Calls Tryz.prog 4 #[] w fun e w' => e = .returned (.bool true) ∧ Chg [] w w' := by
  obtain ⟨j0, hj0, hy0, hy1, hy2⟩ := info_parts Tryz.infoBody9
  go_enter Tryz.func4, Tryz.ntmps4
  go_wp2_with fail
  have HK := Lib.hid (heap_alloc_same w (.cells #[.int .i64 1, .int .i64 2, .int .i64 6, .int .i64 7, .int .i64 8, .int .i64 9, .int .i64 10, .int .i64 11, .int .i64 12, .int .i64 4, .int .i64 3, .int .i64 5] 30))
  have HC0 := Lib.hid ((Chg.refl [] w).alloc (.cells #[.int .i64 1, .int .i64 2, .int .i64 6, .int .i64 7, .int .i64 8, .int .i64 9, .int .i64 10, .int .i64 11, .int .i64 12, .int .i64 4, .int .i64 3, .int .i64 5] 30))
  obtain ⟨w1, e1⟩ : ∃ w1, w1 = w.alloc (.cells #[.int .i64 1, .int .i64 2, .int .i64 6, .int .i64 7, .int .i64 8, .int .i64 9, .int .i64 10, .int .i64 11, .int .i64 12, .int .i64 4, .int .i64 3, .int .i64 5] 30) := ⟨_, rfl⟩
  rw [← e1] at HK HC0 ⊢
  clear e1
  go_loopg [2] 12 (fun dd iv wr => ∃ a : Nat, dd = 12 - a ∧ a ≤ 12 ∧ iv = .int .i64 a ∧ Hid (Chg [] w1 wr))
  case atStart => exact ⟨0, rfl, Nat.zero_le _, rfl, Lib.hid (Chg.refl _ _)⟩
  case round =>
    obtain ⟨a, rfl, ha, rfl, hin⟩ := hrel
    obtain ⟨wq, rfl⟩ : ∃ wz, wz = wr := ⟨_, rfl⟩
    by_cases hla : a < 12
    · go_wp2_with fail
      rw [show decide ((a : Int) < 12) = true from decide_eq_true (by omega)]
      go_loopg [3] 12 (fun dd iv wr => ∃ b : Nat, dd = 12 - b ∧ b ≤ 12 ∧ iv = .int .i64 b ∧ Hid (Chg [] w1 wr))
      case atStart => exact ⟨0, rfl, Nat.zero_le _, rfl, hin⟩
      case round =>
        obtain ⟨b, rfl, hb, rfl, hin2⟩ := hrel
        obtain ⟨wp, rfl⟩ : ∃ wz, wz = wr := ⟨_, rfl⟩
        by_cases hlb : b < 12
        · go_wp2_with fail
          rw [show decide ((b : Int) < 12) = true from decide_eq_true (by omega)]
          go_loopg [4] 4 (fun dd iv wr => ∃ c : Nat, dd = 4 - c ∧ c ≤ 4 ∧ iv = .int .i64 c ∧ Hid (Chg [] w1 wr))
          case atStart => exact ⟨0, rfl, Nat.zero_le _, rfl, hin2⟩
          case round =>
            obtain ⟨c, rfl, hc, rfl, hin3⟩ := hrel
            obtain ⟨ws, rfl⟩ : ∃ wz, wz = wr := ⟨_, rfl⟩
            by_cases hlc : c < 4
            · obtain ⟨ka, ga, hka2⟩ := kinds11 a hla
              obtain ⟨kb, gb, hkb2⟩ := kinds11 b hlb
              have hka := (cell_of_cells (hin3.out.heap HK.out (by simp)) a).trans ga
              have hkb := (cell_of_cells (hin3.out.heap HK.out (by simp)) b).trans gb
              have hc3 : c ≤ 3 := by omega
              have hbi : (b : Int) < 12 := by omega
              have hai : (a : Int) < 12 := by omega
              clear ga gb
              have HA := Lib.hid (And.intro hka hka2)
              clear hka hka2
              go_wp2_with fail
              rw [show decide ((c : Int) < 4) = true from decide_eq_true (by omega)]
              refine wp_region_st (by kernel_rfl) (by kernel_rfl) [28, 29, 30, 31, 32, 33, 34, 35, 5] (by kernel_rfl) (fun rI rV rW => match rI with | 0 => rV = .slice (some ⟨w.heap.size, 0, none⟩) 12 12 | 1 => rV = .int .i64 b | 2 => rV = .pointer (some ⟨w.heap.size, b, none⟩) | 3 => rV = .int .i64 kb | 4 => rV = .int .i64 c | 5 => ∃ r33 n33 c33, rV = .slice r33 n33 c33 ∧ n33 ≤ 1 ∧ FBody rW r33 n33 c33 | 6 => ∃ r34 n34 c34, rV = .slice r34 n34 c34 ∧ n34 ≤ 1 ∧ FBody rW r34 n34 c34 | 7 => ∃ r35 n35 c35, rV = .slice r35 n35 c35 ∧ n35 ≤ 3 ∧ FBody rW r35 n35 c35 | 8 => ∃ r5 n5 c5, rV = .slice r5 n5 c5 ∧ n5 ≤ 3 ∧ FBody rW r5 n5 c5 | _ => True) ?hS14 ?hstep14 ?hdone14
              case hS14 =>
                intro rI rV rW rW' hc rP
                match rI, rP with
                | 0, rP => exact rP
                | 1, rP => exact rP
                | 2, rP => exact rP
                | 3, rP => exact rP
                | 4, rP => exact rP
                | 5, rP => exact (by obtain ⟨r33, n33, c33, e9, hp⟩ := rP; exact ⟨r33, n33, c33, e9, ⟨hp.1, hp.2.chg0 hc⟩⟩)
                | 6, rP => exact (by obtain ⟨r34, n34, c34, e9, hp⟩ := rP; exact ⟨r34, n34, c34, e9, ⟨hp.1, hp.2.chg0 hc⟩⟩)
                | 7, rP => exact (by obtain ⟨r35, n35, c35, e9, hp⟩ := rP; exact ⟨r35, n35, c35, e9, ⟨hp.1, hp.2.chg0 hc⟩⟩)
                | 8, rP => exact (by obtain ⟨r5, n5, c5, e9, hp⟩ := rP; exact ⟨r5, n5, c5, e9, ⟨hp.1, hp.2.chg0 hc⟩⟩)
                | _ + 9, _ => trivial
              case hstep14 =>
                intro rI rH us W hC hdep K hK
                have hiN : rI < 9 := rH
                simp only [actU, Act.put, List.setIfInBounds_toArray, List.set_cons_succ, List.set_cons_zero, Nat.reduceAdd] at hK ⊢
                rcases (show rI = 0 ∨ rI = 1 ∨ rI = 2 ∨ rI = 3 ∨ rI = 4 ∨ rI = 5 ∨ rI = 6 ∨ rI = 7 ∨ rI = 8 by omega) with rfl | rfl | rfl | rfl | rfl | rfl | rfl | rfl | rfl
                · simp only [List.getD_cons_succ, List.getD_cons_zero, List.setIfInBounds_toArray, List.set_cons_succ, List.set_cons_zero] at hK ⊢
                  refine wpOp_at rfl rfl ?_
                  go_simp
                  exact hK _ _ _ rfl (Chg.refl _ _) rfl
                · simp only [List.getD_cons_succ, List.getD_cons_zero, List.setIfInBounds_toArray, List.set_cons_succ, List.set_cons_zero] at hK ⊢
                  refine wpOp_at rfl rfl ?_
                  go_simp
                  exact hK _ _ _ rfl (Chg.refl _ _) rfl
                · have l0 := hdep 0 (by kernel_rfl)
                  replace l0 : us 0 = .slice (some ⟨w.heap.size, 0, none⟩) 12 12 := l0
                  have l1 := hdep 1 (by kernel_rfl)
                  replace l1 : us 1 = .int .i64 b := l1
                  simp only [List.getD_cons_succ, List.getD_cons_zero, List.setIfInBounds_toArray, List.set_cons_succ, List.set_cons_zero, l0, l1] at hK ⊢
                  refine wpOp_at rfl rfl ?_
                  go_simp
                  exact hK _ _ _ rfl (Chg.refl _ _) rfl
                · have l2 := hdep 2 (by kernel_rfl)
                  replace l2 : us 2 = .pointer (some ⟨w.heap.size, b, none⟩) := l2
                  simp only [List.getD_cons_succ, List.getD_cons_zero, List.setIfInBounds_toArray, List.set_cons_succ, List.set_cons_zero, l2] at hK ⊢
                  refine wpOp_at rfl rfl ?_
                  have hce := hC.cell hkb (by simp)
                  go_simp
                  exact hK _ _ _ rfl (Chg.refl _ _) rfl
                · simp only [List.getD_cons_succ, List.getD_cons_zero, List.setIfInBounds_toArray, List.set_cons_succ, List.set_cons_zero] at hK ⊢
                  refine wpOp_at rfl rfl ?_
                  go_simp
                  exact hK _ _ _ rfl (Chg.refl _ _) rfl
                · have l4 := hdep 4 (by kernel_rfl)
                  replace l4 : us 4 = .int .i64 c := l4
                  simp only [List.getD_cons_succ, List.getD_cons_zero, List.setIfInBounds_toArray, List.set_cons_succ, List.set_cons_zero, l4] at hK ⊢
                  refine wpOp_at rfl rfl ?_
                  go_simp
                  refine (leaf11_any W c hc3).mono ?_
                  rintro e wz ⟨r33, n33, c33, rfl, m33, f33, hz⟩
                  exact hK _ _ _ rfl hz ⟨r33, n33, c33, rfl, ⟨m33, f33⟩⟩
                · simp only [List.getD_cons_succ, List.getD_cons_zero, List.setIfInBounds_toArray, List.set_cons_succ, List.set_cons_zero] at hK ⊢
                  refine wpOp_at rfl rfl ?_
                  go_simp
                  refine (Word_fit W ⟨#[120]⟩ (by decide)).mono ?_
                  rintro e wz ⟨r34, n34, c34, rfl, m34, f34, hz⟩
                  exact hK _ _ _ rfl hz ⟨r34, n34, c34, rfl, ⟨m34, f34⟩⟩
                · have l3 := hdep 3 (by kernel_rfl)
                  replace l3 : us 3 = .int .i64 kb := l3
                  have l5 := hdep 5 (by kernel_rfl)
                  obtain ⟨r33, n33, c33, l5, p5⟩ := l5
                  have l6 := hdep 6 (by kernel_rfl)
                  obtain ⟨r34, n34, c34, l6, p6⟩ := l6
                  simp only [List.getD_cons_succ, List.getD_cons_zero, List.setIfInBounds_toArray, List.set_cons_succ, List.set_cons_zero, l3, l5, l6] at hK ⊢
                  refine wpOp_at rfl rfl ?_
                  go_simp
                  refine (over11_any W kb hkb2 r33 n33 c33 p5.2 r34 n34 c34 p6.2 (by have := p5.1; have := p6.1; omega)).mono ?_
                  rintro e wz ⟨r35, n35, c35, rfl, m35, f35, hz⟩
                  exact hK _ _ _ rfl hz ⟨r35, n35, c35, rfl, ⟨by have := p5.1; have := p6.1; omega, f35⟩⟩
                · have l7 := hdep 7 (by kernel_rfl)
                  obtain ⟨r35, n35, c35, l7, p7⟩ := l7
                  simp only [List.getD_cons_succ, List.getD_cons_zero, List.setIfInBounds_toArray, List.set_cons_succ, List.set_cons_zero, l7] at hK ⊢
                  refine wpOp_at rfl rfl ?_
                  go_simp
                  exact hK _ _ _ rfl (Chg.refl _ _) ⟨r35, n35, c35, rfl, p7⟩
              case hdone14 =>
                intro us W hC hall
                have l0 := hall 0 (by decide)
                replace l0 : us 0 = .slice (some ⟨w.heap.size, 0, none⟩) 12 12 := l0
                have l1 := hall 1 (by decide)
                replace l1 : us 1 = .int .i64 b := l1
                have l2 := hall 2 (by decide)
                replace l2 : us 2 = .pointer (some ⟨w.heap.size, b, none⟩) := l2
                have l3 := hall 3 (by decide)
                replace l3 : us 3 = .int .i64 kb := l3
                have l4 := hall 4 (by decide)
                replace l4 : us 4 = .int .i64 c := l4
                have l5 := hall 5 (by decide)
                obtain ⟨r33, n33, c33, l5, p5⟩ := l5
                have l6 := hall 6 (by decide)
                obtain ⟨r34, n34, c34, l6, p6⟩ := l6
                have l7 := hall 7 (by decide)
                obtain ⟨r35, n35, c35, l7, p7⟩ := l7
                have l8 := hall 8 (by decide)
                obtain ⟨r5, n5, c5, l8, p8⟩ := l8
                simp only [actU, Act.put, List.setIfInBounds_toArray, List.set_cons_succ, List.set_cons_zero, Nat.reduceAdd, l0, l1, l2, l3, l4, l5, l6, l7, l8]
                clear hall l0 l1 l2 l3 l4 l5 l6 l7 l8
                have H5 := Lib.hid p8
                have hcw := Lib.hid (hin3.out.tr hC)
                obtain ⟨hka, hka2⟩ := HA.out
                have hka := hC.cell hka (by simp)
                clear p5 p6 p7 p8 hkb hkb2 hC
                obtain ⟨wt, rfl⟩ : ∃ wz, wz = W := ⟨_, rfl⟩
                obtain ⟨q, hq, hq3⟩ : ∃ q : Nat, (c : Int) / 2 = q ∧ q ≤ 3 := ⟨c / 2, by omega, by omega⟩
                have hqw : IntKind.i64.wrap (q : Int) = q := IntWalk.i64_in _ (by omega)
                go_wp2_with fail
                refine wp_region_tail1 (by kernel_rfl) (by kernel_rfl) [36, 37, 38, 39, 40, 41, 42, 43, 44, 45, 46, 47, 6] (by kernel_rfl) (fun rI rV rW => match rI with | 0 => rV = .slice (some ⟨w.heap.size, 0, none⟩) 12 12 | 1 => rV = .int .i64 a | 2 => rV = .pointer (some ⟨w.heap.size, a, none⟩) | 3 => rV = .int .i64 ka | 4 => rV = .slice r5 n5 c5 | 5 => rV = .int .i64 c | 6 => rV = .int .i64 q | 7 => ∃ r43 n43 c43, rV = .slice r43 n43 c43 ∧ n43 ≤ 1 ∧ FBody rW r43 n43 c43 | 8 => ∃ r44 n44 c44, rV = .slice r44 n44 c44 ∧ n44 ≤ 5 ∧ FBody rW r44 n44 c44 | 9 => ∃ r45 n45 c45, rV = .slice r45 n45 c45 ∧ n45 ≤ 1 ∧ FBody rW r45 n45 c45 | 10 => ∃ b46, rV = .slice (some ⟨b46, 0, none⟩) 2 2 ∧ BodiesF rW (some ⟨b46, 0, none⟩) 2 | 11 => ∃ b1 d1 b2 m2 d2 rs L, rV = .agg #[.slice b1 2 d1, .slice b2 m2 d2] ∧ FG 0 rW b1 2 d1 b2 m2 d2 rs L | 12 => ∃ b6, rV = .pointer (some ⟨b6, 0, none⟩) ∧ wt.heap.size ≤ b6 ∧ rW.heap[b6]? = some (.cells #[.slice none 0 0, .slice none 0 0] 25 (0, 0)) | _ => True) ?hS16 ?hstep16 ?hdone16
                case hS16 =>
                  intro rI rV rW rW' hc rP
                  match rI, rP with
                  | 0, rP => exact rP
                  | 1, rP => exact rP
                  | 2, rP => exact rP
                  | 3, rP => exact rP
                  | 4, rP => exact rP
                  | 5, rP => exact rP
                  | 6, rP => exact rP
                  | 7, rP => exact (by obtain ⟨r43, n43, c43, e9, hp⟩ := rP; exact ⟨r43, n43, c43, e9, ⟨hp.1, hp.2.chg0 hc⟩⟩)
                  | 8, rP => exact (by obtain ⟨r44, n44, c44, e9, hp⟩ := rP; exact ⟨r44, n44, c44, e9, ⟨hp.1, hp.2.chg0 hc⟩⟩)
                  | 9, rP => exact (by obtain ⟨r45, n45, c45, e9, hp⟩ := rP; exact ⟨r45, n45, c45, e9, ⟨hp.1, hp.2.chg0 hc⟩⟩)
                  | 10, rP => exact (by obtain ⟨b46, e9, hp⟩ := rP; exact ⟨b46, e9, hp.chg0 hc⟩)
                  | 11, rP => exact (by obtain ⟨b1, d1, b2, m2, d2, rs, L, e9, hp⟩ := rP; exact ⟨b1, d1, b2, m2, d2, rs, L, e9, hp.chg0 hc⟩)
                  | 12, rP => exact (by obtain ⟨b6, e9, hp⟩ := rP; exact ⟨b6, e9, ⟨hp.1, hc.heap hp.2 (by simp)⟩⟩)
                  | _ + 13, _ => trivial
                case hstep16 =>
                  intro rI rH us W hC hdep K hK
                  have hiN : rI < 13 := rH
                  simp only [actU, Act.put, List.setIfInBounds_toArray, List.set_cons_succ, List.set_cons_zero, Nat.reduceAdd] at hK ⊢
                  rcases (show rI = 0 ∨ rI = 1 ∨ rI = 2 ∨ rI = 3 ∨ rI = 4 ∨ rI = 5 ∨ rI = 6 ∨ rI = 7 ∨ rI = 8 ∨ rI = 9 ∨ rI = 10 ∨ rI = 11 ∨ rI = 12 by omega) with rfl | rfl | rfl | rfl | rfl | rfl | rfl | rfl | rfl | rfl | rfl | rfl | rfl
                  · simp only [List.getD_cons_succ, List.getD_cons_zero, List.setIfInBounds_toArray, List.set_cons_succ, List.set_cons_zero] at hK ⊢
                    refine wpOp_at rfl rfl ?_
                    go_simp
                    exact hK _ _ _ rfl (Chg.refl _ _) rfl
                  · simp only [List.getD_cons_succ, List.getD_cons_zero, List.setIfInBounds_toArray, List.set_cons_succ, List.set_cons_zero] at hK ⊢
                    refine wpOp_at rfl rfl ?_
                    go_simp
                    exact hK _ _ _ rfl (Chg.refl _ _) rfl
                  · have l0 := hdep 0 (by kernel_rfl)
                    replace l0 : us 0 = .slice (some ⟨w.heap.size, 0, none⟩) 12 12 := l0
                    have l1 := hdep 1 (by kernel_rfl)
                    replace l1 : us 1 = .int .i64 a := l1
                    simp only [List.getD_cons_succ, List.getD_cons_zero, List.setIfInBounds_toArray, List.set_cons_succ, List.set_cons_zero, l0, l1] at hK ⊢
                    refine wpOp_at rfl rfl ?_
                    go_simp
                    exact hK _ _ _ rfl (Chg.refl _ _) rfl
                  · have l2 := hdep 2 (by kernel_rfl)
                    replace l2 : us 2 = .pointer (some ⟨w.heap.size, a, none⟩) := l2
                    simp only [List.getD_cons_succ, List.getD_cons_zero, List.setIfInBounds_toArray, List.set_cons_succ, List.set_cons_zero, l2] at hK ⊢
                    refine wpOp_at rfl rfl ?_
                    have hce := hC.cell hka (by simp)
                    go_simp
                    exact hK _ _ _ rfl (Chg.refl _ _) rfl
                  · simp only [List.getD_cons_succ, List.getD_cons_zero, List.setIfInBounds_toArray, List.set_cons_succ, List.set_cons_zero] at hK ⊢
                    refine wpOp_at rfl rfl ?_
                    go_simp
                    exact hK _ _ _ rfl (Chg.refl _ _) rfl
                  · simp only [List.getD_cons_succ, List.getD_cons_zero, List.setIfInBounds_toArray, List.set_cons_succ, List.set_cons_zero] at hK ⊢
                    refine wpOp_at rfl rfl ?_
                    go_simp
                    exact hK _ _ _ rfl (Chg.refl _ _) rfl
                  · have l5 := hdep 5 (by kernel_rfl)
                    replace l5 : us 5 = .int .i64 c := l5
                    simp only [List.getD_cons_succ, List.getD_cons_zero, List.setIfInBounds_toArray, List.set_cons_succ, List.set_cons_zero, l5] at hK ⊢
                    refine wpOp_at rfl rfl ?_
                    go_simp
                    exact hK _ _ _ rfl (Chg.refl _ _) rfl
                  · have l6 := hdep 6 (by kernel_rfl)
                    replace l6 : us 6 = .int .i64 q := l6
                    simp only [List.getD_cons_succ, List.getD_cons_zero, List.setIfInBounds_toArray, List.set_cons_succ, List.set_cons_zero, l6] at hK ⊢
                    refine wpOp_at rfl rfl ?_
                    go_simp
                    refine (leaf11_any W q hq3).mono ?_
                    rintro e wz ⟨r43, n43, c43, rfl, m43, f43, hz⟩
                    exact hK _ _ _ rfl hz ⟨r43, n43, c43, rfl, ⟨m43, f43⟩⟩
                  · have l3 := hdep 3 (by kernel_rfl)
                    replace l3 : us 3 = .int .i64 ka := l3
                    have l4 := hdep 4 (by kernel_rfl)
                    replace l4 : us 4 = .slice r5 n5 c5 := l4
                    have l7 := hdep 7 (by kernel_rfl)
                    obtain ⟨r43, n43, c43, l7, p7⟩ := l7
                    simp only [List.getD_cons_succ, List.getD_cons_zero, List.setIfInBounds_toArray, List.set_cons_succ, List.set_cons_zero, l3, l4, l7] at hK ⊢
                    refine wpOp_at rfl rfl ?_
                    go_simp
                    refine (over11_any W ka hka2 r5 n5 c5 (H5.out.2.chg0 hC) r43 n43 c43 p7.2 (by have := p7.1; have := H5.out.1; omega)).mono ?_
                    rintro e wz ⟨r44, n44, c44, rfl, m44, f44, hz⟩
                    exact hK _ _ _ rfl hz ⟨r44, n44, c44, rfl, ⟨by have := p7.1; have := H5.out.1; omega, f44⟩⟩
                  · simp only [List.getD_cons_succ, List.getD_cons_zero, List.setIfInBounds_toArray, List.set_cons_succ, List.set_cons_zero] at hK ⊢
                    refine wpOp_at rfl rfl ?_
                    go_simp
                    refine (Leaf_fit W 1 (by decide)).mono ?_
                    rintro e wz ⟨r45, n45, c45, rfl, m45, f45, hz⟩
                    exact hK _ _ _ rfl hz ⟨r45, n45, c45, rfl, ⟨m45, f45⟩⟩
                  · have l8 := hdep 8 (by kernel_rfl)
                    obtain ⟨r44, n44, c44, l8, p8⟩ := l8
                    have l9 := hdep 9 (by kernel_rfl)
                    obtain ⟨r45, n45, c45, l9, p9⟩ := l9
                    simp only [List.getD_cons_succ, List.getD_cons_zero, List.setIfInBounds_toArray, List.set_cons_succ, List.set_cons_zero, l8, l9] at hK ⊢
                    refine wpOp_at rfl rfl ?_
                    go_simp
                    exact hK _ _ _ rfl ((Chg.refl _ _).alloc _) ⟨W.heap.size, rfl, bodies2 ((p8.2).chg0 ((Chg.refl _ _).alloc _)) (by have := p8.1; omega) ((p9.2).chg0 ((Chg.refl _ _).alloc _)) (by have := p9.1; omega) (heap_alloc_same _ _)⟩
                  · have l10 := hdep 10 (by kernel_rfl)
                    obtain ⟨b46, l10, p10⟩ := l10
                    simp only [List.getD_cons_succ, List.getD_cons_zero, List.setIfInBounds_toArray, List.set_cons_succ, List.set_cons_zero, l10] at hK ⊢
                    refine wpOp_at rfl rfl ?_
                    go_simp
                    refine (Gram_fit W _ 2 2 p10 (by decide)).mono ?_
                    rintro e wz ⟨b1, d1, b2, m2, d2, rs, L, rfl, fg, hz⟩
                    exact hK _ _ _ rfl hz ⟨b1, d1, b2, m2, d2, rs, L, rfl, fg.below⟩
                  · simp only [List.getD_cons_succ, List.getD_cons_zero, List.setIfInBounds_toArray, List.set_cons_succ, List.set_cons_zero] at hK ⊢
                    refine wpOp_at rfl rfl ?_
                    go_simp
                    exact hK _ _ _ rfl ((Chg.refl _ _).alloc _) ⟨W.heap.size, rfl, ⟨hC.size, heap_alloc_same _ _⟩⟩
                case hdone16 =>
                  intro us W hC hall
                  have l0 := hall 0 (by decide)
                  replace l0 : us 0 = .slice (some ⟨w.heap.size, 0, none⟩) 12 12 := l0
                  have l1 := hall 1 (by decide)
                  replace l1 : us 1 = .int .i64 a := l1
                  have l2 := hall 2 (by decide)
                  replace l2 : us 2 = .pointer (some ⟨w.heap.size, a, none⟩) := l2
                  have l3 := hall 3 (by decide)
                  replace l3 : us 3 = .int .i64 ka := l3
                  have l4 := hall 4 (by decide)
                  replace l4 : us 4 = .slice r5 n5 c5 := l4
                  have l5 := hall 5 (by decide)
                  replace l5 : us 5 = .int .i64 c := l5
                  have l6 := hall 6 (by decide)
                  replace l6 : us 6 = .int .i64 q := l6
                  have l7 := hall 7 (by decide)
                  obtain ⟨r43, n43, c43, l7, p7⟩ := l7
                  have l8 := hall 8 (by decide)
                  obtain ⟨r44, n44, c44, l8, p8⟩ := l8
                  have l9 := hall 9 (by decide)
                  obtain ⟨r45, n45, c45, l9, p9⟩ := l9
                  have l10 := hall 10 (by decide)
                  obtain ⟨b46, l10, p10⟩ := l10
                  have l11 := hall 11 (by decide)
                  obtain ⟨b1, d1, b2, m2, d2, rs, L, l11, p11⟩ := l11
                  have l12 := hall 12 (by decide)
                  obtain ⟨b6, l12, p12⟩ := l12
                  simp only [actU, Act.put, List.setIfInBounds_toArray, List.set_cons_succ, List.set_cons_zero, Nat.reduceAdd, l0, l1, l2, l3, l4, l5, l6, l7, l8, l9, l10, l11, l12]
                  clear hall l0 l1 l2 l3 l4 l5 l6 l7 l8 l9 l10 l11 l12
                  obtain ⟨hb6, hh6⟩ := p12
                  have hb6l := lt_of_block hh6
                  obtain ⟨x0, x1⟩ := cells2 hh6
                  have f0 := free_of_cells hh6 0
                  have f1 := free_of_cells hh6 1
                  refine wpOp_at rfl rfl ?_
                  go_simp
                  obtain ⟨wx, ex, hx, hcx⟩ := two_set9 hh6 (.slice b1 2 d1) (.slice b2 m2 d2)
                  rw [← ex]
                  have hfg := p11.chg hcx (fun k hk => by
                    simp only [List.mem_singleton] at hk
                    subst hk
                    exact ⟨.of_cells hh6 (by decide), .of_cells hh6 (by decide), .of_cells hh6 (by decide)⟩)
                  have HX := Lib.hid (And.intro (hcw.out.tr (hC.trans hcx (fun j hj => .inr (by simp only [List.mem_singleton] at hj; omega)))) (And.intro hx hfg))
                  clear x0 x1 f0 f1 ex hh6 hfg hcx hC p7 p8 p9 p10 p11 hka hka2 H5 hcw hb6 hb6l
                  obtain ⟨x0, x1⟩ := cells2 hx
                  have hbx := lt_of_block hx
                  clear hx
                  go_wp2_with fail
                  refine (tells11_fit HX.out.2.2 _ _).mono ?_
                  rintro e wy ⟨rfl, h1⟩
                  have HY := Lib.hid (And.intro (HX.out.1.tr h1) (And.intro (h1.heap HX.out.2.1 (by simp)) (HX.out.2.2.chg0 h1)))
                  clear h1 x0 x1 hbx
                  obtain ⟨x0, x1⟩ := cells2 HY.out.2.1
                  have hbx := lt_of_block HY.out.2.1
                  have hm2 : m2 ≤ 3000 := HY.out.2.2.fm
                  go_wp2_with fail
                  refine (tells11_fit HY.out.2.2 _ _).mono ?_
                  rintro e wz ⟨rfl, h1⟩
                  have HZ := Lib.hid (HY.out.1.tr h1)
                  clear h1 x0 x1 hbx
                  go_wp2_with fail
                  go_roundg (4 - (c + 1))
                  case measure => omega
                  case rel => exact ⟨c + 1, rfl, by omega, by go_num, HZ⟩
            · obtain rfl : c = 4 := by omega
              go_wp2_with fail
              go_roundg (12 - (b + 1))
              case measure => omega
              case rel => exact ⟨b + 1, rfl, by omega, by go_num, hin3⟩
        · obtain rfl : b = 12 := by omega
          go_wp2_with fail
          go_roundg (12 - (a + 1))
          case measure => omega
          case rel => exact ⟨a + 1, rfl, by omega, by go_num, hin2⟩
    · obtain rfl : a = 12 := by omega
      go_wp2_with fail
      go_loopg [7] 33 (fun dd iv wr => ∃ n : Nat, dd = 34 - n ∧ 1 ≤ n ∧ n ≤ 34 ∧ iv = .int .i64 n ∧ Hid (Chg [] w1 wr))
      case atStart => exact ⟨1, rfl, Nat.le_refl _, by decide, rfl, hin⟩
      case round =>
        obtain ⟨n, rfl, hn1, hn, rfl, hin⟩ := hrel
        obtain ⟨wq, rfl⟩ : ∃ wz, wz = wr := ⟨_, rfl⟩
        by_cases hln : n < 34
        · go_wp2_with fail
          rw [show decide ((n : Int) < 34) = true from decide_eq_true (by omega)]
          go_loopg [8] 3 (fun dd iv wr => ∃ k : Nat, dd = 3 - k ∧ k ≤ 3 ∧ iv = .int .i64 k ∧ Hid (Chg [] w1 wr))
          case atStart => exact ⟨0, rfl, Nat.zero_le _, rfl, hin⟩
          case round =>
            obtain ⟨k, rfl, hk, rfl, hin2⟩ := hrel
            obtain ⟨wp, rfl⟩ : ∃ wz, wz = wr := ⟨_, rfl⟩
            by_cases hlk : k < 3
            · go_wp2_with fail
              rw [show decide ((k : Int) < 3) = true from decide_eq_true (by omega)]
              go_loopg [10, 9] n (fun dd iv bv wr => ∃ (i : Nat) (ba : Option Addr) (bc : Nat), dd = n - i ∧ i ≤ n ∧ iv = .int .i64 i ∧ bv = .slice ba i bc ∧ Hid (∃ VS, BRow wp.heap.size wr ba i bc VS ∧ Chg [] wp wr))
              case atStart => exact ⟨0, none, 0, rfl, Nat.zero_le _, rfl, rfl, Lib.hid ⟨[], BRow.nil _ _, Chg.refl _ _⟩⟩
              case round =>
                obtain ⟨i, ba, bc, rfl, hi, rfl, rfl, hin3⟩ := hrel
                obtain ⟨ws, rfl⟩ : ∃ wz, wz = wr := ⟨_, rfl⟩
                by_cases hli : i < n
                · rcases (show k = 0 ∨ k = 1 ∨ k = 2 by omega) with rfl | rfl | rfl
                  · by_cases hmid : i = n / 2
                    · have hz0 : 0 ≤ ((i : Int) + 1) % n ∧ ((i : Int) + 1) % n < n := ⟨Int.emod_nonneg _ (by omega), Int.emod_lt_of_pos _ (by omega)⟩
                      have hm9 : ((i : Int) == (n : Int) / 2) = true := by simp; omega
                      clear hmid
                      have HZ9 := Lib.hid hz0
                      clear hz0
                      go_wp2_with fail
                      refine (Call_fit _ _ _ (by have := HZ9.out; constructor <;> omega) (by constructor <;> omega)).mono ?_
                      rintro e wa ⟨ra, na, ca, rfl, ma, fa, ha⟩
                      have Ha := Lib.hid (And.intro ha fa)
                      clear ha fa
                      go_wp2_with fail
                      refine (In_fit _ 10 (by decide) ra na ca Ha.out.2 (by omega)).mono ?_
                      rintro e wb ⟨rb, nb, cb, rfl, mb, fb, hb⟩
                      have Hb := Lib.hid (And.intro (Ha.out.1.tr hb) fb)
                      clear hb fb
                      go_wp2_with fail
                      refine (In_fit _ 9 (by decide) rb nb cb Hb.out.2 (by omega)).mono ?_
                      rintro e wc ⟨rc, nc, cc, rfl, mc, fc, hc⟩
                      have Hc := Lib.hid (And.intro (Hb.out.1.tr hc) (And.intro fc (Hb.out.2.chg0 hc)))
                      clear hc fc
                      go_wp2_with fail
                      refine (Chain_fit _ rb nb cb Hc.out.2.2 rc nc cc Hc.out.2.1 (by omega)).mono ?_
                      rintro e wd ⟨rd, nd, cd, rfl, md, fd, hd⟩
                      obtain ⟨VS, hV, hcV⟩ := hin3.out
                      have hca := (Chg.refl [] wd).alloc (.cells #[.slice rd nd cd] 23)
                      have hCd := Hc.out.1.tr hd
                      have hV2 := hV.chg0 (hCd.tr hca)
                      have hnew := cells_at (w := wd.alloc (.cells #[.slice rd nd cd] 23)) (heap_alloc_same _ _)
                      have h1' : ∀ u ∈ [Value.slice rd nd cd], u.oneCell' = true := by simp [Value.oneCell']
                      have h2' : i + 1 ≤ maxLen ∧ (i + 1) * 24 ≤ 140737488355328 := by simp only [maxLen]; omega
                      have hb' : wp.heap.size ≤ (wd.alloc (.cells #[.slice rd nd cd] 23)).heap.size := ((hcV.tr hCd).tr hca).size
                      have HA := Lib.hid (And.intro hV2.row (And.intro hnew (And.intro h1' (And.intro h2' (And.intro hb' hV2)))))
                      have HD := Lib.hid (And.intro ((hcV.tr hCd).tr hca) (fd.chg0 hca))
                      clear hnew h1' h2' hb' hca hCd hV2 hV hcV fd hd
                      go_wp2_with (at_builtin; refine wpList_append_own_at _ rfl _ _ 37 rfl wp.heap.size 23 j0 _ 1 24 Tryz.underlying37 hj0 hy0 hy1 hy2 rfl (by decide) (.slice ba i bc) i (VS.map fun v => .slice v.1 v.2.1 v.2.2) rfl HA.out.1 ⟨wd.heap.size, 0, none⟩ 1 1 [.slice rd nd cd] rfl rfl HA.out.2.1 HA.out.2.2.1 HA.out.2.2.2.1.1 HA.out.2.2.2.1.2 HA.out.2.2.2.2.1 ?_; intro v' w7 hr7 hg7 hn7 hb7; obtain ⟨a7, c7, rfl⟩ := ownsRow_slice hr7; have HW := Lib.hid (And.intro hr7 (And.intro hg7 hb7)); clear hr7 hg7 hn7 hb7)
                      obtain ⟨s1, s2⟩ := HA.out.2.2.2.2.2.snoc HD.out.2 (by omega) HW.out.1 HW.out.2.1
                      have HE := Lib.hid (And.intro s1 (s2 wp HD.out.1 (Nat.le_refl _)))
                      clear s1 s2
                      go_roundg (n - (i + 1))
                      case measure => omega
                      case rel => exact ⟨i + 1, a7, c7, rfl, by omega, by go_num, rfl, Lib.hid ⟨_, HE.out.1, HE.out.2⟩⟩
                    · have hz0 : 0 ≤ ((i : Int) + 1) % n ∧ ((i : Int) + 1) % n < n := ⟨Int.emod_nonneg _ (by omega), Int.emod_lt_of_pos _ (by omega)⟩
                      have hm9 : ((i : Int) == (n : Int) / 2) = false := by simp; omega
                      clear hmid
                      have HZ9 := Lib.hid hz0
                      clear hz0
                      go_wp2_with fail
                      refine (Call_fit _ _ _ (by have := HZ9.out; constructor <;> omega) (by constructor <;> omega)).mono ?_
                      rintro e wa ⟨ra, na, ca, rfl, ma, fa, ha⟩
                      have Ha := Lib.hid (And.intro ha fa)
                      clear ha fa
                      go_wp2_with fail
                      refine (In_fit _ 9 (by decide) ra na ca Ha.out.2 (by omega)).mono ?_
                      rintro e wc ⟨rc, nc, cc, rfl, mc, fc, hc⟩
                      have Hc := Lib.hid (And.intro (Ha.out.1.tr hc) (And.intro fc (Ha.out.2.chg0 hc)))
                      clear hc fc
                      go_wp2_with fail
                      refine (Chain_fit _ ra na ca Hc.out.2.2 rc nc cc Hc.out.2.1 (by omega)).mono ?_
                      rintro e wd ⟨rd, nd, cd, rfl, md, fd, hd⟩
                      obtain ⟨VS, hV, hcV⟩ := hin3.out
                      have hca := (Chg.refl [] wd).alloc (.cells #[.slice rd nd cd] 23)
                      have hCd := Hc.out.1.tr hd
                      have hV2 := hV.chg0 (hCd.tr hca)
                      have hnew := cells_at (w := wd.alloc (.cells #[.slice rd nd cd] 23)) (heap_alloc_same _ _)
                      have h1' : ∀ u ∈ [Value.slice rd nd cd], u.oneCell' = true := by simp [Value.oneCell']
                      have h2' : i + 1 ≤ maxLen ∧ (i + 1) * 24 ≤ 140737488355328 := by simp only [maxLen]; omega
                      have hb' : wp.heap.size ≤ (wd.alloc (.cells #[.slice rd nd cd] 23)).heap.size := ((hcV.tr hCd).tr hca).size
                      have HA := Lib.hid (And.intro hV2.row (And.intro hnew (And.intro h1' (And.intro h2' (And.intro hb' hV2)))))
                      have HD := Lib.hid (And.intro ((hcV.tr hCd).tr hca) (fd.chg0 hca))
                      clear hnew h1' h2' hb' hca hCd hV2 hV hcV fd hd
                      go_wp2_with (at_builtin; refine wpList_append_own_at _ rfl _ _ 37 rfl wp.heap.size 23 j0 _ 1 24 Tryz.underlying37 hj0 hy0 hy1 hy2 rfl (by decide) (.slice ba i bc) i (VS.map fun v => .slice v.1 v.2.1 v.2.2) rfl HA.out.1 ⟨wd.heap.size, 0, none⟩ 1 1 [.slice rd nd cd] rfl rfl HA.out.2.1 HA.out.2.2.1 HA.out.2.2.2.1.1 HA.out.2.2.2.1.2 HA.out.2.2.2.2.1 ?_; intro v' w7 hr7 hg7 hn7 hb7; obtain ⟨a7, c7, rfl⟩ := ownsRow_slice hr7; have HW := Lib.hid (And.intro hr7 (And.intro hg7 hb7)); clear hr7 hg7 hn7 hb7)
                      obtain ⟨s1, s2⟩ := HA.out.2.2.2.2.2.snoc HD.out.2 (by omega) HW.out.1 HW.out.2.1
                      have HE := Lib.hid (And.intro s1 (s2 wp HD.out.1 (Nat.le_refl _)))
                      clear s1 s2
                      go_roundg (n - (i + 1))
                      case measure => omega
                      case rel => exact ⟨i + 1, a7, c7, rfl, by omega, by go_num, rfl, Lib.hid ⟨_, HE.out.1, HE.out.2⟩⟩
                  · by_cases hmid : i = n / 2
                    · have hz0 : 0 ≤ ((i : Int) + n - 1) % n ∧ ((i : Int) + n - 1) % n < n := ⟨Int.emod_nonneg _ (by omega), Int.emod_lt_of_pos _ (by omega)⟩
                      have hm9 : ((i : Int) == (n : Int) / 2) = true := by simp; omega
                      have hw9 : IntKind.i64.wrap ((i : Int) + n - 1) = (i : Int) + n - 1 := IntWalk.i64_in _ (by omega)
                      clear hmid
                      have HZ9 := Lib.hid hz0
                      clear hz0
                      go_wp2_with fail
                      refine (Call_fit _ _ _ (by have := HZ9.out; constructor <;> omega) (by constructor <;> omega)).mono ?_
                      rintro e wa ⟨ra, na, ca, rfl, ma, fa, ha⟩
                      have Ha := Lib.hid (And.intro ha fa)
                      clear ha fa
                      go_wp2_with fail
                      refine (In_fit _ 10 (by decide) ra na ca Ha.out.2 (by omega)).mono ?_
                      rintro e wb ⟨rb, nb, cb, rfl, mb, fb, hb⟩
                      have Hb := Lib.hid (And.intro (Ha.out.1.tr hb) fb)
                      clear hb fb
                      go_wp2_with fail
                      refine (In_fit _ 9 (by decide) rb nb cb Hb.out.2 (by omega)).mono ?_
                      rintro e wc ⟨rc, nc, cc, rfl, mc, fc, hc⟩
                      have Hc := Lib.hid (And.intro (Hb.out.1.tr hc) (And.intro fc (Hb.out.2.chg0 hc)))
                      clear hc fc
                      go_wp2_with fail
                      refine (Chain_fit _ rb nb cb Hc.out.2.2 rc nc cc Hc.out.2.1 (by omega)).mono ?_
                      rintro e wd ⟨rd, nd, cd, rfl, md, fd, hd⟩
                      obtain ⟨VS, hV, hcV⟩ := hin3.out
                      have hca := (Chg.refl [] wd).alloc (.cells #[.slice rd nd cd] 23)
                      have hCd := Hc.out.1.tr hd
                      have hV2 := hV.chg0 (hCd.tr hca)
                      have hnew := cells_at (w := wd.alloc (.cells #[.slice rd nd cd] 23)) (heap_alloc_same _ _)
                      have h1' : ∀ u ∈ [Value.slice rd nd cd], u.oneCell' = true := by simp [Value.oneCell']
                      have h2' : i + 1 ≤ maxLen ∧ (i + 1) * 24 ≤ 140737488355328 := by simp only [maxLen]; omega
                      have hb' : wp.heap.size ≤ (wd.alloc (.cells #[.slice rd nd cd] 23)).heap.size := ((hcV.tr hCd).tr hca).size
                      have HA := Lib.hid (And.intro hV2.row (And.intro hnew (And.intro h1' (And.intro h2' (And.intro hb' hV2)))))
                      have HD := Lib.hid (And.intro ((hcV.tr hCd).tr hca) (fd.chg0 hca))
                      clear hnew h1' h2' hb' hca hCd hV2 hV hcV fd hd
                      go_wp2_with (at_builtin; refine wpList_append_own_at _ rfl _ _ 37 rfl wp.heap.size 23 j0 _ 1 24 Tryz.underlying37 hj0 hy0 hy1 hy2 rfl (by decide) (.slice ba i bc) i (VS.map fun v => .slice v.1 v.2.1 v.2.2) rfl HA.out.1 ⟨wd.heap.size, 0, none⟩ 1 1 [.slice rd nd cd] rfl rfl HA.out.2.1 HA.out.2.2.1 HA.out.2.2.2.1.1 HA.out.2.2.2.1.2 HA.out.2.2.2.2.1 ?_; intro v' w7 hr7 hg7 hn7 hb7; obtain ⟨a7, c7, rfl⟩ := ownsRow_slice hr7; have HW := Lib.hid (And.intro hr7 (And.intro hg7 hb7)); clear hr7 hg7 hn7 hb7)
                      obtain ⟨s1, s2⟩ := HA.out.2.2.2.2.2.snoc HD.out.2 (by omega) HW.out.1 HW.out.2.1
                      have HE := Lib.hid (And.intro s1 (s2 wp HD.out.1 (Nat.le_refl _)))
                      clear s1 s2
                      go_roundg (n - (i + 1))
                      case measure => omega
                      case rel => exact ⟨i + 1, a7, c7, rfl, by omega, by go_num, rfl, Lib.hid ⟨_, HE.out.1, HE.out.2⟩⟩
                    · have hz0 : 0 ≤ ((i : Int) + n - 1) % n ∧ ((i : Int) + n - 1) % n < n := ⟨Int.emod_nonneg _ (by omega), Int.emod_lt_of_pos _ (by omega)⟩
                      have hm9 : ((i : Int) == (n : Int) / 2) = false := by simp; omega
                      have hw9 : IntKind.i64.wrap ((i : Int) + n - 1) = (i : Int) + n - 1 := IntWalk.i64_in _ (by omega)
                      clear hmid
                      have HZ9 := Lib.hid hz0
                      clear hz0
                      go_wp2_with fail
                      refine (Call_fit _ _ _ (by have := HZ9.out; constructor <;> omega) (by constructor <;> omega)).mono ?_
                      rintro e wa ⟨ra, na, ca, rfl, ma, fa, ha⟩
                      have Ha := Lib.hid (And.intro ha fa)
                      clear ha fa
                      go_wp2_with fail
                      refine (In_fit _ 9 (by decide) ra na ca Ha.out.2 (by omega)).mono ?_
                      rintro e wc ⟨rc, nc, cc, rfl, mc, fc, hc⟩
                      have Hc := Lib.hid (And.intro (Ha.out.1.tr hc) (And.intro fc (Ha.out.2.chg0 hc)))
                      clear hc fc
                      go_wp2_with fail
                      refine (Chain_fit _ ra na ca Hc.out.2.2 rc nc cc Hc.out.2.1 (by omega)).mono ?_
                      rintro e wd ⟨rd, nd, cd, rfl, md, fd, hd⟩
                      obtain ⟨VS, hV, hcV⟩ := hin3.out
                      have hca := (Chg.refl [] wd).alloc (.cells #[.slice rd nd cd] 23)
                      have hCd := Hc.out.1.tr hd
                      have hV2 := hV.chg0 (hCd.tr hca)
                      have hnew := cells_at (w := wd.alloc (.cells #[.slice rd nd cd] 23)) (heap_alloc_same _ _)
                      have h1' : ∀ u ∈ [Value.slice rd nd cd], u.oneCell' = true := by simp [Value.oneCell']
                      have h2' : i + 1 ≤ maxLen ∧ (i + 1) * 24 ≤ 140737488355328 := by simp only [maxLen]; omega
                      have hb' : wp.heap.size ≤ (wd.alloc (.cells #[.slice rd nd cd] 23)).heap.size := ((hcV.tr hCd).tr hca).size
                      have HA := Lib.hid (And.intro hV2.row (And.intro hnew (And.intro h1' (And.intro h2' (And.intro hb' hV2)))))
                      have HD := Lib.hid (And.intro ((hcV.tr hCd).tr hca) (fd.chg0 hca))
                      clear hnew h1' h2' hb' hca hCd hV2 hV hcV fd hd
                      go_wp2_with (at_builtin; refine wpList_append_own_at _ rfl _ _ 37 rfl wp.heap.size 23 j0 _ 1 24 Tryz.underlying37 hj0 hy0 hy1 hy2 rfl (by decide) (.slice ba i bc) i (VS.map fun v => .slice v.1 v.2.1 v.2.2) rfl HA.out.1 ⟨wd.heap.size, 0, none⟩ 1 1 [.slice rd nd cd] rfl rfl HA.out.2.1 HA.out.2.2.1 HA.out.2.2.2.1.1 HA.out.2.2.2.1.2 HA.out.2.2.2.2.1 ?_; intro v' w7 hr7 hg7 hn7 hb7; obtain ⟨a7, c7, rfl⟩ := ownsRow_slice hr7; have HW := Lib.hid (And.intro hr7 (And.intro hg7 hb7)); clear hr7 hg7 hn7 hb7)
                      obtain ⟨s1, s2⟩ := HA.out.2.2.2.2.2.snoc HD.out.2 (by omega) HW.out.1 HW.out.2.1
                      have HE := Lib.hid (And.intro s1 (s2 wp HD.out.1 (Nat.le_refl _)))
                      clear s1 s2
                      go_roundg (n - (i + 1))
                      case measure => omega
                      case rel => exact ⟨i + 1, a7, c7, rfl, by omega, by go_num, rfl, Lib.hid ⟨_, HE.out.1, HE.out.2⟩⟩
                  · have hz0 : 0 ≤ ((i : Int) + 1) % n ∧ ((i : Int) + 1) % n < n := ⟨Int.emod_nonneg _ (by omega), Int.emod_lt_of_pos _ (by omega)⟩
                    have HZ9 := Lib.hid hz0
                    clear hz0
                    go_wp2_with fail
                    refine (Call_fit _ _ _ (by have := HZ9.out; constructor <;> omega) (by constructor <;> omega)).mono ?_
                    rintro e wa ⟨ra, na, ca, rfl, ma, fa, ha⟩
                    have Ha := Lib.hid (And.intro ha fa)
                    clear ha fa
                    go_wp2_with fail
                    refine (In_fit _ 9 (by decide) ra na ca Ha.out.2 (by omega)).mono ?_
                    rintro e wc ⟨rc, nc, cc, rfl, mc, fc, hc⟩
                    have Hc := Lib.hid (And.intro (Ha.out.1.tr hc) (And.intro fc (Ha.out.2.chg0 hc)))
                    clear hc fc
                    go_wp2_with fail
                    refine (Chain_fit _ ra na ca Hc.out.2.2 rc nc cc Hc.out.2.1 (by omega)).mono ?_
                    rintro e wd ⟨rd, nd, cd, rfl, md, fd, hd⟩
                    obtain ⟨VS, hV, hcV⟩ := hin3.out
                    have hca := (Chg.refl [] wd).alloc (.cells #[.slice rd nd cd] 23)
                    have hCd := Hc.out.1.tr hd
                    have hV2 := hV.chg0 (hCd.tr hca)
                    have hnew := cells_at (w := wd.alloc (.cells #[.slice rd nd cd] 23)) (heap_alloc_same _ _)
                    have h1' : ∀ u ∈ [Value.slice rd nd cd], u.oneCell' = true := by simp [Value.oneCell']
                    have h2' : i + 1 ≤ maxLen ∧ (i + 1) * 24 ≤ 140737488355328 := by simp only [maxLen]; omega
                    have hb' : wp.heap.size ≤ (wd.alloc (.cells #[.slice rd nd cd] 23)).heap.size := ((hcV.tr hCd).tr hca).size
                    have HA := Lib.hid (And.intro hV2.row (And.intro hnew (And.intro h1' (And.intro h2' (And.intro hb' hV2)))))
                    have HD := Lib.hid (And.intro ((hcV.tr hCd).tr hca) (fd.chg0 hca))
                    clear hnew h1' h2' hb' hca hCd hV2 hV hcV fd hd
                    go_wp2_with (at_builtin; refine wpList_append_own_at _ rfl _ _ 37 rfl wp.heap.size 23 j0 _ 1 24 Tryz.underlying37 hj0 hy0 hy1 hy2 rfl (by decide) (.slice ba i bc) i (VS.map fun v => .slice v.1 v.2.1 v.2.2) rfl HA.out.1 ⟨wd.heap.size, 0, none⟩ 1 1 [.slice rd nd cd] rfl rfl HA.out.2.1 HA.out.2.2.1 HA.out.2.2.2.1.1 HA.out.2.2.2.1.2 HA.out.2.2.2.2.1 ?_; intro v' w7 hr7 hg7 hn7 hb7; obtain ⟨a7, c7, rfl⟩ := ownsRow_slice hr7; have HW := Lib.hid (And.intro hr7 (And.intro hg7 hb7)); clear hr7 hg7 hn7 hb7)
                    obtain ⟨s1, s2⟩ := HA.out.2.2.2.2.2.snoc HD.out.2 (by omega) HW.out.1 HW.out.2.1
                    have HE := Lib.hid (And.intro s1 (s2 wp HD.out.1 (Nat.le_refl _)))
                    clear s1 s2
                    go_roundg (n - (i + 1))
                    case measure => omega
                    case rel => exact ⟨i + 1, a7, c7, rfl, by omega, by go_num, rfl, Lib.hid ⟨_, HE.out.1, HE.out.2⟩⟩
                · obtain rfl : n = i := by omega
                  obtain ⟨VS, hV, hcV⟩ := hin3.out
                  go_wp2_with fail
                  refine (Gram_fit _ ba n bc (hV.bodies (by omega)) (by omega)).mono ?_
                  rintro e wg ⟨b1, d1, b2, m2, d2, rs0, L0, rfl, fg, hz⟩
                  have hca := (Chg.refl [] wg).alloc (.cells #[.slice b1 n d1, .slice b2 m2 d2] 25)
                  have HG := Lib.hid (And.intro (fg.chg0 hca) (And.intro (heap_alloc_same wg (.cells #[.slice b1 n d1, .slice b2 m2 d2] 25)) (And.intro (hz.tr hca) (hin2.out.tr hcV))))
                  clear hV hcV fg hz hca
                  go_wp2_with fail
                  obtain ⟨w5, e5⟩ : ∃ w5, w5 = wg.alloc (.cells #[.slice b1 n d1, .slice b2 m2 d2] 25) := ⟨_, rfl⟩
                  rw [← e5] at HG ⊢
                  clear e5
                  obtain ⟨T, hT⟩ : ∃ T, T = wg.heap.size := ⟨_, rfl⟩
                  rw [← hT] at HG ⊢
                  clear hT
                  go_loopg [14] (n - 26) (fun dd iv wr => ∃ i : Nat, dd = n - i ∧ 26 ≤ i ∧ iv = .int .i64 i ∧ Hid (∃ rs, FG ws.heap.size wr b1 n d1 b2 m2 d2 rs L0 ∧ wr.heap[T]? = some (.cells #[.slice b1 n d1, .slice b2 m2 d2] 25 (0, 0)) ∧ Chg [] ws wr))
                  case atStart => exact ⟨26, rfl, Nat.le_refl _, rfl, Lib.hid ⟨_, HG.out.1, HG.out.2.1, HG.out.2.2.1⟩⟩
                  case round =>
                    obtain ⟨i, rfl, hi, rfl, hin4⟩ := hrel
                    obtain ⟨wy, rfl⟩ : ∃ wz, wz = wr := ⟨_, rfl⟩
                    by_cases hli : i < n
                    · obtain ⟨rs, hf, hh, hcy⟩ := hin4.out
                      obtain ⟨x0, x1⟩ := cells2 hh
                      obtain ⟨R, v, rfl, hR, ⟨cur, hcur⟩, y0, y1, hput⟩ := hf.put hli
                      have hne : T ≠ R := fun e => by rw [e, hcur] at hh; cases hh
                      have hu : (65 + (i : Int) - 26) = ((UInt8.ofNat (65 + i - 26)).toNat : Int) := by simp only [UInt8.toNat_ofNat']; omega
                      have hconv : (convert 41 9 (.slice (some ⟨wy.heap.size, 0, none⟩) 2 2)).run Tryz.prog (wy.alloc (.cells #[.int .u8 95, .int .u8 (65 + (i : Int) - 26)] 5)) = .ok (.string ⟨#[95, UInt8.ofNat (65 + i - 26)]⟩) (wy.alloc (.cells #[.int .u8 95, .int .u8 (65 + (i : Int) - 26)] 5)) :=
                        run_convert_bytes_back (P := Tryz.prog) (wy.alloc (.cells #[.int .u8 95, .int .u8 (65 + (i : Int) - 26)] 5)) 41 9 5 ⟨wy.heap.size, 0, none⟩ 2 [95, UInt8.ofNat (65 + i - 26)] Tryz.underlying41 Tryz.underlying5 Tryz.underlying9 (by
                          intro j hj
                          have hj2 : j = 0 ∨ j = 1 := by simp at hj; omega
                          have h1 := cells_at (w := wy.alloc (.cells #[.int .u8 95, .int .u8 (65 + (i : Int) - 26)] 5)) (heap_alloc_same _ _)
                          rcases hj2 with rfl | rfl
                          · rw [h1 0 (.int .u8 95) rfl]; rfl
                          · rw [h1 1 (.int .u8 (65 + (i : Int) - 26)) rfl, hu]; rfl)
                      obtain ⟨nm, hnm⟩ : ∃ nm : ByteArray, nm = ⟨#[95, UInt8.ofNat (65 + i - 26)]⟩ := ⟨_, rfl⟩
                      rw [← hnm] at hconv
                      have hns : nm.size ≤ 1000 := by rw [hnm]; show (2 : Nat) ≤ 1000; omega
                      obtain ⟨rs', p1, p2⟩ := hput nm hns
                      have hRl := lt_of_block hcur
                      have HP := Lib.hid (And.intro p1 (And.intro p2 (And.intro hh (And.intro hne (And.intro hR hcy)))))
                      clear hf hh hput p1 p2 hu hnm hns hcur hne hR hcy
                      go_wp2_with fail
                      have hcA := (Chg.refl [] (wy.setCell ⟨R, i * 2, none⟩ (.string nm))).alloc (.cells #[.int .u8 95, .int .u8 (65 + (i : Int) - 26)] 5)
                      go_roundg (n - (i + 1))
                      case measure => omega
                      case rel => exact ⟨i + 1, rfl, by omega, by go_num, Lib.hid ⟨rs', HP.out.1.chg0 hcA, hcA.heap (HP.out.2.1.heap HP.out.2.2.1 (by simp only [List.mem_singleton]; exact HP.out.2.2.2.1)) (by simp), (HP.out.2.2.2.2.2.trans HP.out.2.1 (fun j hj => .inr (by simp only [List.mem_singleton] at hj; subst hj; exact HP.out.2.2.2.2.1))).tr hcA⟩⟩
                    · obtain ⟨rs, hf, hh, hcy⟩ := hin4.out
                      obtain ⟨x0, x1⟩ := cells2 hh
                      have hTl := lt_of_block hh
                      have HF := Lib.hid (And.intro hf (And.intro hh (HG.out.2.2.2.tr hcy)))
                      have hm2 : m2 ≤ 3000 := hf.fm
                      clear hf hh hcy
                      go_wp2_with fail
                      refine (tells11_fit HF.out.1 _ _).mono ?_
                      rintro e wz0 ⟨rfl, h1⟩
                      have HF := Lib.hid (And.intro (HF.out.1.chg0 h1) (And.intro (h1.heap HF.out.2.1 (by simp)) (HF.out.2.2.tr h1)))
                      clear h1 x0 x1 hTl
                      obtain ⟨x0, x1⟩ := cells2 HF.out.2.1
                      have hTl := lt_of_block HF.out.2.1
                      go_wp2_with fail
                      refine (tells11_fit HF.out.1 _ _).mono ?_
                      rintro e wz1 ⟨rfl, h1⟩
                      have HF := Lib.hid (And.intro (HF.out.1.chg0 h1) (And.intro (h1.heap HF.out.2.1 (by simp)) (HF.out.2.2.tr h1)))
                      clear h1 x0 x1 hTl
                      obtain ⟨x0, x1⟩ := cells2 HF.out.2.1
                      have hTl := lt_of_block HF.out.2.1
                      go_wp2_with fail
                      refine (tells11_fit HF.out.1 _ _).mono ?_
                      rintro e wz2 ⟨rfl, h1⟩
                      have HF := Lib.hid (And.intro (HF.out.1.chg0 h1) (And.intro (h1.heap HF.out.2.1 (by simp)) (HF.out.2.2.tr h1)))
                      clear h1 x0 x1 hTl
                      obtain ⟨x0, x1⟩ := cells2 HF.out.2.1
                      have hTl := lt_of_block HF.out.2.1
                      go_wp2_with fail
                      refine (tells11_fit HF.out.1 _ _).mono ?_
                      rintro e wz3 ⟨rfl, h1⟩
                      have HF := Lib.hid (And.intro (HF.out.1.chg0 h1) (And.intro (h1.heap HF.out.2.1 (by simp)) (HF.out.2.2.tr h1)))
                      clear h1 x0 x1 hTl
                      obtain ⟨x0, x1⟩ := cells2 HF.out.2.1
                      have hTl := lt_of_block HF.out.2.1
                      go_wp2_with fail
                      go_roundg (3 - (k + 1))
                      case measure => omega
                      case rel => exact ⟨k + 1, rfl, by omega, by go_num, Lib.hid HF.out.2.2⟩
            · obtain rfl : k = 3 := by omega
              go_wp2_with fail
              go_roundg (34 - (n + 1))
              case measure => omega
              case rel => exact ⟨n + 1, rfl, by omega, by omega, by go_num, hin2⟩
        · obtain rfl : n = 34 := by omega
          obtain ⟨gn1, gn2⟩ := gram_none wq
          go_wp2_with fail
          refine (tells11_any wq none 0 0 none 0 0 _ gn1 gn2 (by decide) (by decide) (fun x hx => by cases hx) _ _).mono ?_
          rintro e w2 ⟨rfl, h2⟩
          have H2 := Lib.hid (hin.out.tr h2)
          clear h2 gn1 gn2
          go_wp2_with fail
          refine (example11_any w2).mono ?_
          rintro e w3 ⟨b1, d1, b2, d2, rfl, hg, h3⟩
          have H3 := Lib.hid (And.intro (H2.out.tr h3) hg)
          clear h3 hg
          go_wp2_with fail
          refine (tells11_any w3 _ _ _ _ _ _ _ H3.out.2 (reach_of (by decide +kernel)) (by decide +kernel) (by decide +kernel) (by decide +kernel) _ _).mono ?_
          rintro e w4 ⟨rfl, h4⟩
          have H4 := Lib.hid (H3.out.1.tr h4)
          clear h4
          go_wp2_with fail
          refine (awake11_any w4).mono ?_
          rintro e w5 ⟨rfl, h5⟩
          have H5 := Lib.hid (H4.out.tr h5)
          clear h5
          go_wp2_with fail
          go_ret
          exact ⟨rfl, HC0.out.tr H5.out⟩
end Go.Proofs.YtibgfgfmljhimaaGreat

/-
  WellEnds: what the law computes.
  Conditions: none.
-/
import Derived.Test.YtibgfgfmljhimaaGreatWe9TE1
import Derived.Test.YtibgfgfmljhimaaGreatWe9TG1
import Derived.Test.YtibgfgfmljhimaaGreatWe9WeQ
import Derived.Test.YtibgfgfmljhimaaGreatWe9GAny2
set_option linter.unusedVariables false
set_option linter.unusedSimpArgs false
set_option linter.unnecessarySimpa false
namespace Go.Proofs.YtibgfgfmljhimaaGreat
open Go.RowKit Go.MapKept Go.Shelf

def FGS (W : World) (b1 : Option Addr) (n d1 : Nat) (b2 : Option Addr) (m d2 : Nat) (rs : List Rl) (L : List Cp) : Prop := m ≤ 50 * n ∧ FG 0 W b1 n d1 b2 m d2 rs L
theorem tells15_fit {B : Nat} {w : World} {b1 : Option Addr} {n d1 : Nat} {b2 : Option Addr} {m d2 : Nat} {rs : List Rl} {L : List Cp} (h : FG B w b1 n d1 b2 m d2 rs L) (hm : m ≤ 300) (x : Int) :
    Calls Tryz.prog 32 #[.agg #[.slice b1 n d1, .slice b2 m d2], .int .i64 x] w fun e w' => e = .returned (.bool true) ∧ Chg [] w w' := by
  obtain ⟨g1, g2⟩ := h.gram
  exact tells15_any w b1 n d1 b2 m d2 _ g1 g2 h.fn hm (fun z hz => by have := h.fk z hz; omega) x
theorem ex15_small : ex15.rules.length ≤ 300 ∧ ex15.nodes.length ≤ 300 ∧ (∀ x ∈ ex15.nodes, x.kids.length ≤ 300) ∧ ex15.rules.length ≤ 64 := by decide +kernel
theorem ex15_reach : Reach ex15 := by
  obtain ⟨h1, h2, h3, _⟩ := ex15_small
  exact ⟨by omega, by omega, fun x hx => by have := h3 x hx; omega⟩
theorem tells15_ex (w : World) (b1 : Option Addr) (n d1 : Nat) (b2 : Option Addr) (m d2 : Nat) (h : GramAt w b1 n d1 b2 m d2 ex15) (x : Int) :
    Calls Tryz.prog 32 #[.agg #[.slice b1 n d1, .slice b2 m d2], .int .i64 x] w fun e w' => e = .returned (.bool true) ∧ Chg [] w w' := by
  obtain ⟨h1, h2, h3, _⟩ := ex15_small
  exact tells15_any w b1 n d1 b2 m d2 _ h ex15_reach (by rw [h.e1]; exact h1) (by rw [h.e2]; exact h2) h3 x
theorem tells15_none (w : World) (x : Int) :
    Calls Tryz.prog 32 #[.agg #[.slice none 0 0, .slice none 0 0], .int .i64 x] w fun e w' => e = .returned (.bool true) ∧ Chg [] w w' :=
  tells15_any w none 0 0 none 0 0 _ (gram_none w).1 (gram_none w).2 (by omega) (by omega) (fun x hx => by cases hx) x
theorem kinds15 : ∀ i, i < 5 → ∃ k : Int, (#[.int .i64 8, .int .i64 9, .int .i64 10, .int .i64 11, .int .i64 12] : Array Value)[i]? = some (.int .i64 k) ∧ I64 k := fun i hi => by
  rcases (show i = 0 ∨ i = 1 ∨ i = 2 ∨ i = 3 ∨ i = 4 by omega) with rfl | rfl | rfl | rfl | rfl <;> exact ⟨_, rfl, by decide⟩
theorem ends15 : ∀ i, i < 8 → ∃ k : Int, (#[.int .i64 (-9223372036854775808), .int .i64 (-1), .int .i64 0, .int .i64 6, .int .i64 7, .int .i64 8, .int .i64 9, .int .i64 9223372036854775807] : Array Value)[i]? = some (.int .i64 k) := fun i hi => by
  rcases (show i = 0 ∨ i = 1 ∨ i = 2 ∨ i = 3 ∨ i = 4 ∨ i = 5 ∨ i = 6 ∨ i = 7 by omega) with rfl | rfl | rfl | rfl | rfl | rfl | rfl | rfl <;> exact ⟨_, rfl⟩
def Leaves (w : World) (LV : Nat) : Prop := ∀ c, c < 6 → ∃ r n cc, w.cell? ⟨LV, c, none⟩ = some (.slice r n cc) ∧ n ≤ 1 ∧ FBody w r n cc
theorem Leaves.chg0 {w w' : World} {LV : Nat} (h : Leaves w LV) (hc : Chg [] w w') : Leaves w' LV := fun c hl => by
  obtain ⟨r, n, cc, h1, h2, h3⟩ := h c hl
  exact ⟨r, n, cc, hc.cell h1 (by simp), h2, h3.chg0 hc⟩

set_option maxRecDepth 100000 in
set_option maxHeartbeats 64000000 in
theorem wellEndsLaw_any (w : World) : Calls Tryz.prog 9 #[] w fun e w' => e = .returned (.bool true) ∧ Chg [] w w' := by
  go_enter Tryz.func9, Tryz.ntmps9
  go_wp2_with fail
  have hK0 := heap_alloc_same w (.cells #[.int .i64 8, .int .i64 9, .int .i64 10, .int .i64 11, .int .i64 12] 30)
  have hC0 := (Chg.refl [] w).alloc (.cells #[.int .i64 8, .int .i64 9, .int .i64 10, .int .i64 11, .int .i64 12] 30)
  obtain ⟨KB, eK⟩ : ∃ k, k = w.heap.size := ⟨_, rfl⟩
  obtain ⟨u0, eu⟩ : ∃ u, u = w.alloc (.cells #[.int .i64 8, .int .i64 9, .int .i64 10, .int .i64 11, .int .i64 12] 30) := ⟨_, rfl⟩
  rw [← eK, ← eu] at hK0
  rw [← eu] at hC0
  rw [← eK, ← eu]
  have HK := Lib.hid hK0
  have HC := Lib.hid hC0
  clear hK0 hC0 eK eu
  refine (Leaf_fit u0 1 (by decide)).mono ?_
  rintro e u1 ⟨r14, n14, c14, rfl, m14, f14, h⟩
  have F14 := Lib.hid (And.intro m14 f14)
  have C0 := Lib.hid h
  clear m14 f14 h
  go_wp2_with fail
  refine (Leaf_fit u1 2 (by decide)).mono ?_
  rintro e u2 ⟨r15, n15, c15, rfl, m15, f15, h⟩
  have F15 := Lib.hid (And.intro m15 f15)
  have C1 := Lib.hid h
  clear m15 f15 h
  go_wp2_with fail
  refine (Call_fit u2 0 0 (by decide) (by decide)).mono ?_
  rintro e u3 ⟨r16, n16, c16, rfl, m16, f16, h⟩
  have F16 := Lib.hid (And.intro m16 f16)
  have C2 := Lib.hid h
  clear m16 f16 h
  go_wp2_with fail
  refine (Call_fit u3 1 9 (by decide) (by decide)).mono ?_
  rintro e u4 ⟨r17, n17, c17, rfl, m17, f17, h⟩
  have F17 := Lib.hid (And.intro m17 f17)
  have C3 := Lib.hid h
  clear m17 f17 h
  go_wp2_with fail
  refine (Among_fit u4 ⟨#[120]⟩ (by decide)).mono ?_
  rintro e u5 ⟨r18, n18, c18, rfl, m18, f18, h⟩
  have F18 := Lib.hid (And.intro m18 f18)
  have C4 := Lib.hid h
  clear m18 f18 h
  go_wp2_with fail
  refine (Word_fit u5 ⟨#[121]⟩ (by decide)).mono ?_
  rintro e u6 ⟨r19, n19, c19, rfl, m19, f19, h⟩
  have F19 := Lib.hid (And.intro m19 f19)
  have C5 := Lib.hid h
  clear m19 f19 h
  go_wp2_with fail
  have hL0 := heap_alloc_same u6 (.cells #[.slice r14 n14 c14, .slice r15 n15 c15, .slice r16 n16 c16, .slice r17 n17 c17, .slice r18 n18 c18, .slice r19 n19 c19] 23)
  have hC0 := (Chg.refl [] u6).alloc (.cells #[.slice r14 n14 c14, .slice r15 n15 c15, .slice r16 n16 c16, .slice r17 n17 c17, .slice r18 n18 c18, .slice r19 n19 c19] 23)
  obtain ⟨LV, eK⟩ : ∃ k, k = u6.heap.size := ⟨_, rfl⟩
  obtain ⟨w1, eu⟩ : ∃ u, u = u6.alloc (.cells #[.slice r14 n14 c14, .slice r15 n15 c15, .slice r16 n16 c16, .slice r17 n17 c17, .slice r18 n18 c18, .slice r19 n19 c19] 23) := ⟨_, rfl⟩
  rw [← eK, ← eu] at hL0
  rw [← eu] at hC0
  rw [← eK, ← eu]
  have hlv : Leaves w1 LV := fun c hc => by
    have hc6 := cell_of_cells hL0 c
    rcases (show c = 0 ∨ c = 1 ∨ c = 2 ∨ c = 3 ∨ c = 4 ∨ c = 5 by omega) with rfl | rfl | rfl | rfl | rfl | rfl
    · exact ⟨_, _, _, hc6, F14.out.1, (((((F14.out.2.chg0 C1.out).chg0 C2.out).chg0 C3.out).chg0 C4.out).chg0 C5.out).chg0 hC0⟩
    · exact ⟨_, _, _, hc6, F15.out.1, ((((F15.out.2.chg0 C2.out).chg0 C3.out).chg0 C4.out).chg0 C5.out).chg0 hC0⟩
    · exact ⟨_, _, _, hc6, F16.out.1, (((F16.out.2.chg0 C3.out).chg0 C4.out).chg0 C5.out).chg0 hC0⟩
    · exact ⟨_, _, _, hc6, F17.out.1, ((F17.out.2.chg0 C4.out).chg0 C5.out).chg0 hC0⟩
    · exact ⟨_, _, _, hc6, F18.out.1, (F18.out.2.chg0 C5.out).chg0 hC0⟩
    · exact ⟨_, _, _, hc6, F19.out.1, F19.out.2.chg0 hC0⟩
  have hcw := (HC.out.tr (C0.out.tr (C1.out.tr (C2.out.tr (C3.out.tr (C4.out.tr C5.out)))))).tr hC0
  have hkw : w1.heap[KB]? = some (.cells #[.int .i64 8, .int .i64 9, .int .i64 10, .int .i64 11, .int .i64 12] 30 (0, 0)) := ((C0.out.tr (C1.out.tr (C2.out.tr (C3.out.tr (C4.out.tr C5.out))))).tr hC0).heap HK.out (by simp)
  have HW := Lib.hid (And.intro hcw (And.intro hkw hlv))
  clear hcw hkw hlv hL0 hC0 eK eu HK HC C0 C1 C2 C3 C4 C5 F14 F15 F16 F17 F18 F19
  go_loopg [3] 5 (fun dd iv wr => ∃ a : Nat, dd = 5 - a ∧ a ≤ 5 ∧ iv = .int .i64 a ∧ Hid (Chg [] w1 wr))
  case atStart => exact ⟨0, rfl, Nat.zero_le _, rfl, Lib.hid (Chg.refl _ _)⟩
  case round =>
    obtain ⟨a, rfl, ha, rfl, hin⟩ := hrel
    obtain ⟨wa, rfl⟩ : ∃ wz, wz = wr := ⟨_, rfl⟩
    by_cases hla : a < 5
    · go_wp2_with fail
      rw [show decide ((a : Int) < 5) = true from decide_eq_true (by omega)]
      go_loopg [4] 5 (fun dd iv wr => ∃ b : Nat, dd = 5 - b ∧ b ≤ 5 ∧ iv = .int .i64 b ∧ Hid (Chg [] w1 wr))
      case atStart => exact ⟨0, rfl, Nat.zero_le _, rfl, hin⟩
      case round =>
        obtain ⟨b, rfl, hb, rfl, hin2⟩ := hrel
        obtain ⟨wb, rfl⟩ : ∃ wz, wz = wr := ⟨_, rfl⟩
        by_cases hlb : b < 5
        · go_wp2_with fail
          rw [show decide ((b : Int) < 5) = true from decide_eq_true (by omega)]
          go_loopg [5] 6 (fun dd iv wr => ∃ c : Nat, dd = 6 - c ∧ c ≤ 6 ∧ iv = .int .i64 c ∧ Hid (Chg [] w1 wr))
          case atStart => exact ⟨0, rfl, Nat.zero_le _, rfl, hin2⟩
          case round =>
            obtain ⟨c, rfl, hc, rfl, hin3⟩ := hrel
            obtain ⟨wc, rfl⟩ : ∃ wz, wz = wr := ⟨_, rfl⟩
            by_cases hlc : c < 6
            · go_wp2_with fail
              rw [show decide ((c : Int) < 6) = true from decide_eq_true (by omega)]
              go_loopg [6] 6 (fun dd iv wr => ∃ d : Nat, dd = 6 - d ∧ d ≤ 6 ∧ iv = .int .i64 d ∧ Hid (Chg [] w1 wr))
              case atStart => exact ⟨0, rfl, Nat.zero_le _, rfl, hin3⟩
              case round =>
                obtain ⟨d, rfl, hd, rfl, hin4⟩ := hrel
                obtain ⟨ws, rfl⟩ : ∃ wz, wz = wr := ⟨_, rfl⟩
                by_cases hld : d < 6
                · obtain ⟨ka, ga, hka2⟩ := kinds15 a hla
                  obtain ⟨kb, gb, hkb2⟩ := kinds15 b hlb
                  have hka := (cell_of_cells (hin4.out.heap HW.out.2.1 (by simp)) a).trans ga
                  have hkb := (cell_of_cells (hin4.out.heap HW.out.2.1 (by simp)) b).trans gb
                  obtain ⟨lcr, lcn, lcc, hlcc, hlc1, hlc2⟩ := (HW.out.2.2.chg0 hin4.out) c hlc
                  obtain ⟨ldr, ldn, ldc, hldc, hld1, hld2⟩ := (HW.out.2.2.chg0 hin4.out) d hld
                  have HLc := Lib.hid (And.intro hlc1 hlc2)
                  have HLd := Lib.hid (And.intro hld1 hld2)
                  have hai : (a : Int) < 5 := by omega
                  have hbi : (b : Int) < 5 := by omega
                  have hci : (c : Int) < 6 := by omega
                  have hdi : (d : Int) < 6 := by omega
                  have HA := Lib.hid (And.intro hka (And.intro hkb (And.intro hlcc hldc)))
                  clear ga gb hlc1 hlc2 hld1 hld2 hldc
                  go_wp2_with fail
                  refine wp_region_st (by kernel_rfl) (by kernel_rfl) [37, 38, 39, 40, 41, 42, 43, 44, 45, 46, 47, 48, 49, 50, 7] (by kernel_rfl) (fun rI rV rW => match rI with | 0 => rV = .slice (some ⟨KB, 0, none⟩) 5 5 | 1 => rV = .int .i64 a | 2 => rV = .pointer (some ⟨KB, a, none⟩) | 3 => rV = .int .i64 ka | 4 => rV = .slice (some ⟨KB, 0, none⟩) 5 5 | 5 => rV = .int .i64 b | 6 => rV = .pointer (some ⟨KB, b, none⟩) | 7 => rV = .int .i64 kb | 8 => rV = .slice (some ⟨LV, 0, none⟩) 6 6 | 9 => rV = .int .i64 c | 10 => rV = .pointer (some ⟨LV, c, none⟩) | 11 => rV = .slice lcr lcn lcc | 12 => ∃ r49 n49 c49, rV = .slice r49 n49 c49 ∧ n49 ≤ 2 ∧ FBody rW r49 n49 c49 | 13 => ∃ r50 n50 c50, rV = .slice r50 n50 c50 ∧ n50 ≤ 3 ∧ FBody rW r50 n50 c50 | 14 => ∃ r7 n7 c7, rV = .slice r7 n7 c7 ∧ n7 ≤ 3 ∧ FBody rW r7 n7 c7 | _ => True) ?hS18 ?hstep18 ?hdone18
                  case hS18 =>
                    intro rI rV rW rW' hc rP
                    match rI, rP with
                    | 0, rP => exact rP
                    | 1, rP => exact rP
                    | 2, rP => exact rP
                    | 3, rP => exact rP
                    | 4, rP => exact rP
                    | 5, rP => exact rP
                    | 6, rP => exact rP
                    | 7, rP => exact rP
                    | 8, rP => exact rP
                    | 9, rP => exact rP
                    | 10, rP => exact rP
                    | 11, rP => exact rP
                    | 12, rP => exact (by obtain ⟨r49, n49, c49, e9, hp⟩ := rP; exact ⟨r49, n49, c49, e9, ⟨hp.1, hp.2.chg0 hc⟩⟩)
                    | 13, rP => exact (by obtain ⟨r50, n50, c50, e9, hp⟩ := rP; exact ⟨r50, n50, c50, e9, ⟨hp.1, hp.2.chg0 hc⟩⟩)
                    | 14, rP => exact (by obtain ⟨r7, n7, c7, e9, hp⟩ := rP; exact ⟨r7, n7, c7, e9, ⟨hp.1, hp.2.chg0 hc⟩⟩)
                    | _ + 15, _ => trivial
                  case hstep18 =>
                    intro rI rH us W hC hdep K hK
                    have hiN : rI < 15 := rH
                    simp only [actU, Act.put, List.setIfInBounds_toArray, List.set_cons_succ, List.set_cons_zero, Nat.reduceAdd] at hK ⊢
                    rcases (show rI = 0 ∨ rI = 1 ∨ rI = 2 ∨ rI = 3 ∨ rI = 4 ∨ rI = 5 ∨ rI = 6 ∨ rI = 7 ∨ rI = 8 ∨ rI = 9 ∨ rI = 10 ∨ rI = 11 ∨ rI = 12 ∨ rI = 13 ∨ rI = 14 by omega) with rfl | rfl | rfl | rfl | rfl | rfl | rfl | rfl | rfl | rfl | rfl | rfl | rfl | rfl | rfl
                    · simp only [List.getD_cons_succ, List.getD_cons_zero, List.setIfInBounds_toArray, List.set_cons_succ, List.set_cons_zero] at hK ⊢
                      refine wpOp_at rfl rfl ?_
                      go_simp
                      exact hK _ _ _ rfl (Chg.refl _ _) rfl
                    · simp only [List.getD_cons_succ, List.getD_cons_zero, List.setIfInBounds_toArray, List.set_cons_succ, List.set_cons_zero] at hK ⊢
                      refine wpOp_at rfl rfl ?_
                      go_simp
                      exact hK _ _ _ rfl (Chg.refl _ _) rfl
                    · have l0 := hdep 0 (by kernel_rfl)
                      replace l0 : us 0 = .slice (some ⟨KB, 0, none⟩) 5 5 := l0
                      have l1 := hdep 1 (by kernel_rfl)
                      replace l1 : us 1 = .int .i64 a := l1
                      simp only [List.getD_cons_succ, List.getD_cons_zero, List.setIfInBounds_toArray, List.set_cons_succ, List.set_cons_zero, l0, l1] at hK ⊢
                      refine wpOp_at rfl rfl ?_
                      go_simp
                      exact hK _ _ _ rfl (Chg.refl _ _) rfl
                    · have l2 := hdep 2 (by kernel_rfl)
                      replace l2 : us 2 = .pointer (some ⟨KB, a, none⟩) := l2
                      simp only [List.getD_cons_succ, List.getD_cons_zero, List.setIfInBounds_toArray, List.set_cons_succ, List.set_cons_zero, l2] at hK ⊢
                      refine wpOp_at rfl rfl ?_
                      have hce := hC.cell hka (by simp)
                      go_simp
                      exact hK _ _ _ rfl (Chg.refl _ _) rfl
                    · simp only [List.getD_cons_succ, List.getD_cons_zero, List.setIfInBounds_toArray, List.set_cons_succ, List.set_cons_zero] at hK ⊢
                      refine wpOp_at rfl rfl ?_
                      go_simp
                      exact hK _ _ _ rfl (Chg.refl _ _) rfl
                    · simp only [List.getD_cons_succ, List.getD_cons_zero, List.setIfInBounds_toArray, List.set_cons_succ, List.set_cons_zero] at hK ⊢
                      refine wpOp_at rfl rfl ?_
                      go_simp
                      exact hK _ _ _ rfl (Chg.refl _ _) rfl
                    · have l4 := hdep 4 (by kernel_rfl)
                      replace l4 : us 4 = .slice (some ⟨KB, 0, none⟩) 5 5 := l4
                      have l5 := hdep 5 (by kernel_rfl)
                      replace l5 : us 5 = .int .i64 b := l5
                      simp only [List.getD_cons_succ, List.getD_cons_zero, List.setIfInBounds_toArray, List.set_cons_succ, List.set_cons_zero, l4, l5] at hK ⊢
                      refine wpOp_at rfl rfl ?_
                      go_simp
                      exact hK _ _ _ rfl (Chg.refl _ _) rfl
                    · have l6 := hdep 6 (by kernel_rfl)
                      replace l6 : us 6 = .pointer (some ⟨KB, b, none⟩) := l6
                      simp only [List.getD_cons_succ, List.getD_cons_zero, List.setIfInBounds_toArray, List.set_cons_succ, List.set_cons_zero, l6] at hK ⊢
                      refine wpOp_at rfl rfl ?_
                      have hce := hC.cell hkb (by simp)
                      go_simp
                      exact hK _ _ _ rfl (Chg.refl _ _) rfl
                    · simp only [List.getD_cons_succ, List.getD_cons_zero, List.setIfInBounds_toArray, List.set_cons_succ, List.set_cons_zero] at hK ⊢
                      refine wpOp_at rfl rfl ?_
                      go_simp
                      exact hK _ _ _ rfl (Chg.refl _ _) rfl
                    · simp only [List.getD_cons_succ, List.getD_cons_zero, List.setIfInBounds_toArray, List.set_cons_succ, List.set_cons_zero] at hK ⊢
                      refine wpOp_at rfl rfl ?_
                      go_simp
                      exact hK _ _ _ rfl (Chg.refl _ _) rfl
                    · have l8 := hdep 8 (by kernel_rfl)
                      replace l8 : us 8 = .slice (some ⟨LV, 0, none⟩) 6 6 := l8
                      have l9 := hdep 9 (by kernel_rfl)
                      replace l9 : us 9 = .int .i64 c := l9
                      simp only [List.getD_cons_succ, List.getD_cons_zero, List.setIfInBounds_toArray, List.set_cons_succ, List.set_cons_zero, l8, l9] at hK ⊢
                      refine wpOp_at rfl rfl ?_
                      go_simp
                      exact hK _ _ _ rfl (Chg.refl _ _) rfl
                    · have l10 := hdep 10 (by kernel_rfl)
                      replace l10 : us 10 = .pointer (some ⟨LV, c, none⟩) := l10
                      simp only [List.getD_cons_succ, List.getD_cons_zero, List.setIfInBounds_toArray, List.set_cons_succ, List.set_cons_zero, l10] at hK ⊢
                      refine wpOp_at rfl rfl ?_
                      have hce := hC.cell hlcc (by simp)
                      go_simp
                      exact hK _ _ _ rfl (Chg.refl _ _) rfl
                    · have l7 := hdep 7 (by kernel_rfl)
                      replace l7 : us 7 = .int .i64 kb := l7
                      have l11 := hdep 11 (by kernel_rfl)
                      replace l11 : us 11 = .slice lcr lcn lcc := l11
                      simp only [List.getD_cons_succ, List.getD_cons_zero, List.setIfInBounds_toArray, List.set_cons_succ, List.set_cons_zero, l7, l11] at hK ⊢
                      refine wpOp_at rfl rfl ?_
                      go_simp
                      refine (In_fit W kb hkb2 lcr lcn lcc (HLc.out.2.chg0 hC) (by have := HLc.out.1; omega)).mono ?_
                      rintro e wz ⟨r49, n49, c49, rfl, m49, f49, hz⟩
                      exact hK _ _ _ rfl hz ⟨r49, n49, c49, rfl, ⟨by have := HLc.out.1; omega, f49⟩⟩
                    · have l3 := hdep 3 (by kernel_rfl)
                      replace l3 : us 3 = .int .i64 ka := l3
                      have l12 := hdep 12 (by kernel_rfl)
                      obtain ⟨r49, n49, c49, l12, p12⟩ := l12
                      simp only [List.getD_cons_succ, List.getD_cons_zero, List.setIfInBounds_toArray, List.set_cons_succ, List.set_cons_zero, l3, l12] at hK ⊢
                      refine wpOp_at rfl rfl ?_
                      go_simp
                      refine (In_fit W ka hka2 r49 n49 c49 p12.2 (by have := p12.1; omega)).mono ?_
                      rintro e wz ⟨r50, n50, c50, rfl, m50, f50, hz⟩
                      exact hK _ _ _ rfl hz ⟨r50, n50, c50, rfl, ⟨by have := p12.1; omega, f50⟩⟩
                    · have l13 := hdep 13 (by kernel_rfl)
                      obtain ⟨r50, n50, c50, l13, p13⟩ := l13
                      simp only [List.getD_cons_succ, List.getD_cons_zero, List.setIfInBounds_toArray, List.set_cons_succ, List.set_cons_zero, l13] at hK ⊢
                      refine wpOp_at rfl rfl ?_
                      go_simp
                      exact hK _ _ _ rfl (Chg.refl _ _) ⟨r50, n50, c50, rfl, p13⟩
                  case hdone18 =>
                    intro us W hC hall
                    have l0 := hall 0 (by decide)
                    replace l0 : us 0 = .slice (some ⟨KB, 0, none⟩) 5 5 := l0
                    have l1 := hall 1 (by decide)
                    replace l1 : us 1 = .int .i64 a := l1
                    have l2 := hall 2 (by decide)
                    replace l2 : us 2 = .pointer (some ⟨KB, a, none⟩) := l2
                    have l3 := hall 3 (by decide)
                    replace l3 : us 3 = .int .i64 ka := l3
                    have l4 := hall 4 (by decide)
                    replace l4 : us 4 = .slice (some ⟨KB, 0, none⟩) 5 5 := l4
                    have l5 := hall 5 (by decide)
                    replace l5 : us 5 = .int .i64 b := l5
                    have l6 := hall 6 (by decide)
                    replace l6 : us 6 = .pointer (some ⟨KB, b, none⟩) := l6
                    have l7 := hall 7 (by decide)
                    replace l7 : us 7 = .int .i64 kb := l7
                    have l8 := hall 8 (by decide)
                    replace l8 : us 8 = .slice (some ⟨LV, 0, none⟩) 6 6 := l8
                    have l9 := hall 9 (by decide)
                    replace l9 : us 9 = .int .i64 c := l9
                    have l10 := hall 10 (by decide)
                    replace l10 : us 10 = .pointer (some ⟨LV, c, none⟩) := l10
                    have l11 := hall 11 (by decide)
                    replace l11 : us 11 = .slice lcr lcn lcc := l11
                    have l12 := hall 12 (by decide)
                    obtain ⟨r49, n49, c49, l12, p12⟩ := l12
                    have l13 := hall 13 (by decide)
                    obtain ⟨r50, n50, c50, l13, p13⟩ := l13
                    have l14 := hall 14 (by decide)
                    obtain ⟨r7, n7, c7, l14, p14⟩ := l14
                    simp only [actU, Act.put, List.setIfInBounds_toArray, List.set_cons_succ, List.set_cons_zero, Nat.reduceAdd, l0, l1, l2, l3, l4, l5, l6, l7, l8, l9, l10, l11, l12, l13, l14]
                    clear hall l0 l1 l2 l3 l4 l5 l6 l7 l8 l9 l10 l11 l12 l13 l14
                    have H7' := Lib.hid p14
                    have hcs := Lib.hid hC
                    obtain ⟨hka, hkb, hlcc, hldc⟩ := HA.out
                    replace hka := hC.cell hka (by simp)
                    replace hkb := hC.cell hkb (by simp)
                    replace hlcc := hC.cell hlcc (by simp)
                    replace hldc := hC.cell hldc (by simp)
                    have HLc0 := Lib.hid (And.intro HLc.out.1 (HLc.out.2.chg0 hC))
                    have HLd0 := Lib.hid (And.intro HLd.out.1 (HLd.out.2.chg0 hC))
                    have HA0 := Lib.hid hldc
                    clear p12 p13 p14 hC HA HLc HLd
                    obtain ⟨wt, rfl⟩ : ∃ wz, wz = W := ⟨_, rfl⟩
                    have HLc := HLc0
                    have HLd := HLd0
                    clear HLc0 HLd0
                    go_wp2_with fail
                    refine wp_region_st (by kernel_rfl) (by kernel_rfl) [51, 52, 53, 54, 55, 56, 57, 58, 59, 60, 61, 62, 63, 64, 65, 66, 67, 68, 69, 8] (by kernel_rfl) (fun rI rV rW => match rI with | 0 => rV = .slice (some ⟨KB, 0, none⟩) 5 5 | 1 => rV = .int .i64 a | 2 => rV = .pointer (some ⟨KB, a, none⟩) | 3 => rV = .int .i64 ka | 4 => rV = .slice (some ⟨LV, 0, none⟩) 6 6 | 5 => rV = .int .i64 c | 6 => rV = .pointer (some ⟨LV, c, none⟩) | 7 => rV = .slice lcr lcn lcc | 8 => rV = .slice (some ⟨KB, 0, none⟩) 5 5 | 9 => rV = .int .i64 b | 10 => rV = .pointer (some ⟨KB, b, none⟩) | 11 => rV = .int .i64 kb | 12 => rV = .slice (some ⟨LV, 0, none⟩) 6 6 | 13 => rV = .int .i64 d | 14 => rV = .pointer (some ⟨LV, d, none⟩) | 15 => rV = .slice ldr ldn ldc | 16 => ∃ r67 n67 c67, rV = .slice r67 n67 c67 ∧ n67 ≤ 2 ∧ FBody rW r67 n67 c67 | 17 => ∃ r68 n68 c68, rV = .slice r68 n68 c68 ∧ n68 ≤ 4 ∧ FBody rW r68 n68 c68 | 18 => ∃ r69 n69 c69, rV = .slice r69 n69 c69 ∧ n69 ≤ 5 ∧ FBody rW r69 n69 c69 | 19 => ∃ r8 n8 c8, rV = .slice r8 n8 c8 ∧ n8 ≤ 5 ∧ FBody rW r8 n8 c8 | _ => True) ?hS20 ?hstep20 ?hdone20
                    case hS20 =>
                      intro rI rV rW rW' hc rP
                      match rI, rP with
                      | 0, rP => exact rP
                      | 1, rP => exact rP
                      | 2, rP => exact rP
                      | 3, rP => exact rP
                      | 4, rP => exact rP
                      | 5, rP => exact rP
                      | 6, rP => exact rP
                      | 7, rP => exact rP
                      | 8, rP => exact rP
                      | 9, rP => exact rP
                      | 10, rP => exact rP
                      | 11, rP => exact rP
                      | 12, rP => exact rP
                      | 13, rP => exact rP
                      | 14, rP => exact rP
                      | 15, rP => exact rP
                      | 16, rP => exact (by obtain ⟨r67, n67, c67, e9, hp⟩ := rP; exact ⟨r67, n67, c67, e9, ⟨hp.1, hp.2.chg0 hc⟩⟩)
                      | 17, rP => exact (by obtain ⟨r68, n68, c68, e9, hp⟩ := rP; exact ⟨r68, n68, c68, e9, ⟨hp.1, hp.2.chg0 hc⟩⟩)
                      | 18, rP => exact (by obtain ⟨r69, n69, c69, e9, hp⟩ := rP; exact ⟨r69, n69, c69, e9, ⟨hp.1, hp.2.chg0 hc⟩⟩)
                      | 19, rP => exact (by obtain ⟨r8, n8, c8, e9, hp⟩ := rP; exact ⟨r8, n8, c8, e9, ⟨hp.1, hp.2.chg0 hc⟩⟩)
                      | _ + 20, _ => trivial
                    case hstep20 =>
                      intro rI rH us W hC hdep K hK
                      have hiN : rI < 20 := rH
                      simp only [actU, Act.put, List.setIfInBounds_toArray, List.set_cons_succ, List.set_cons_zero, Nat.reduceAdd] at hK ⊢
                      rcases (show rI = 0 ∨ rI = 1 ∨ rI = 2 ∨ rI = 3 ∨ rI = 4 ∨ rI = 5 ∨ rI = 6 ∨ rI = 7 ∨ rI = 8 ∨ rI = 9 ∨ rI = 10 ∨ rI = 11 ∨ rI = 12 ∨ rI = 13 ∨ rI = 14 ∨ rI = 15 ∨ rI = 16 ∨ rI = 17 ∨ rI = 18 ∨ rI = 19 by omega) with rfl | rfl | rfl | rfl | rfl | rfl | rfl | rfl | rfl | rfl | rfl | rfl | rfl | rfl | rfl | rfl | rfl | rfl | rfl | rfl
                      · simp only [List.getD_cons_succ, List.getD_cons_zero, List.setIfInBounds_toArray, List.set_cons_succ, List.set_cons_zero] at hK ⊢
                        refine wpOp_at rfl rfl ?_
                        go_simp
                        exact hK _ _ _ rfl (Chg.refl _ _) rfl
                      · simp only [List.getD_cons_succ, List.getD_cons_zero, List.setIfInBounds_toArray, List.set_cons_succ, List.set_cons_zero] at hK ⊢
                        refine wpOp_at rfl rfl ?_
                        go_simp
                        exact hK _ _ _ rfl (Chg.refl _ _) rfl
                      · have l0 := hdep 0 (by kernel_rfl)
                        replace l0 : us 0 = .slice (some ⟨KB, 0, none⟩) 5 5 := l0
                        have l1 := hdep 1 (by kernel_rfl)
                        replace l1 : us 1 = .int .i64 a := l1
                        simp only [List.getD_cons_succ, List.getD_cons_zero, List.setIfInBounds_toArray, List.set_cons_succ, List.set_cons_zero, l0, l1] at hK ⊢
                        refine wpOp_at rfl rfl ?_
                        go_simp
                        exact hK _ _ _ rfl (Chg.refl _ _) rfl
                      · have l2 := hdep 2 (by kernel_rfl)
                        replace l2 : us 2 = .pointer (some ⟨KB, a, none⟩) := l2
                        simp only [List.getD_cons_succ, List.getD_cons_zero, List.setIfInBounds_toArray, List.set_cons_succ, List.set_cons_zero, l2] at hK ⊢
                        refine wpOp_at rfl rfl ?_
                        have hce := hC.cell hka (by simp)
                        go_simp
                        exact hK _ _ _ rfl (Chg.refl _ _) rfl
                      · simp only [List.getD_cons_succ, List.getD_cons_zero, List.setIfInBounds_toArray, List.set_cons_succ, List.set_cons_zero] at hK ⊢
                        refine wpOp_at rfl rfl ?_
                        go_simp
                        exact hK _ _ _ rfl (Chg.refl _ _) rfl
                      · simp only [List.getD_cons_succ, List.getD_cons_zero, List.setIfInBounds_toArray, List.set_cons_succ, List.set_cons_zero] at hK ⊢
                        refine wpOp_at rfl rfl ?_
                        go_simp
                        exact hK _ _ _ rfl (Chg.refl _ _) rfl
                      · have l4 := hdep 4 (by kernel_rfl)
                        replace l4 : us 4 = .slice (some ⟨LV, 0, none⟩) 6 6 := l4
                        have l5 := hdep 5 (by kernel_rfl)
                        replace l5 : us 5 = .int .i64 c := l5
                        simp only [List.getD_cons_succ, List.getD_cons_zero, List.setIfInBounds_toArray, List.set_cons_succ, List.set_cons_zero, l4, l5] at hK ⊢
                        refine wpOp_at rfl rfl ?_
                        go_simp
                        exact hK _ _ _ rfl (Chg.refl _ _) rfl
                      · have l6 := hdep 6 (by kernel_rfl)
                        replace l6 : us 6 = .pointer (some ⟨LV, c, none⟩) := l6
                        simp only [List.getD_cons_succ, List.getD_cons_zero, List.setIfInBounds_toArray, List.set_cons_succ, List.set_cons_zero, l6] at hK ⊢
                        refine wpOp_at rfl rfl ?_
                        have hce := hC.cell hlcc (by simp)
                        go_simp
                        exact hK _ _ _ rfl (Chg.refl _ _) rfl
                      · simp only [List.getD_cons_succ, List.getD_cons_zero, List.setIfInBounds_toArray, List.set_cons_succ, List.set_cons_zero] at hK ⊢
                        refine wpOp_at rfl rfl ?_
                        go_simp
                        exact hK _ _ _ rfl (Chg.refl _ _) rfl
                      · simp only [List.getD_cons_succ, List.getD_cons_zero, List.setIfInBounds_toArray, List.set_cons_succ, List.set_cons_zero] at hK ⊢
                        refine wpOp_at rfl rfl ?_
                        go_simp
                        exact hK _ _ _ rfl (Chg.refl _ _) rfl
                      · have l8 := hdep 8 (by kernel_rfl)
                        replace l8 : us 8 = .slice (some ⟨KB, 0, none⟩) 5 5 := l8
                        have l9 := hdep 9 (by kernel_rfl)
                        replace l9 : us 9 = .int .i64 b := l9
                        simp only [List.getD_cons_succ, List.getD_cons_zero, List.setIfInBounds_toArray, List.set_cons_succ, List.set_cons_zero, l8, l9] at hK ⊢
                        refine wpOp_at rfl rfl ?_
                        go_simp
                        exact hK _ _ _ rfl (Chg.refl _ _) rfl
                      · have l10 := hdep 10 (by kernel_rfl)
                        replace l10 : us 10 = .pointer (some ⟨KB, b, none⟩) := l10
                        simp only [List.getD_cons_succ, List.getD_cons_zero, List.setIfInBounds_toArray, List.set_cons_succ, List.set_cons_zero, l10] at hK ⊢
                        refine wpOp_at rfl rfl ?_
                        have hce := hC.cell hkb (by simp)
                        go_simp
                        exact hK _ _ _ rfl (Chg.refl _ _) rfl
                      · simp only [List.getD_cons_succ, List.getD_cons_zero, List.setIfInBounds_toArray, List.set_cons_succ, List.set_cons_zero] at hK ⊢
                        refine wpOp_at rfl rfl ?_
                        go_simp
                        exact hK _ _ _ rfl (Chg.refl _ _) rfl
                      · simp only [List.getD_cons_succ, List.getD_cons_zero, List.setIfInBounds_toArray, List.set_cons_succ, List.set_cons_zero] at hK ⊢
                        refine wpOp_at rfl rfl ?_
                        go_simp
                        exact hK _ _ _ rfl (Chg.refl _ _) rfl
                      · have l12 := hdep 12 (by kernel_rfl)
                        replace l12 : us 12 = .slice (some ⟨LV, 0, none⟩) 6 6 := l12
                        have l13 := hdep 13 (by kernel_rfl)
                        replace l13 : us 13 = .int .i64 d := l13
                        simp only [List.getD_cons_succ, List.getD_cons_zero, List.setIfInBounds_toArray, List.set_cons_succ, List.set_cons_zero, l12, l13] at hK ⊢
                        refine wpOp_at rfl rfl ?_
                        go_simp
                        exact hK _ _ _ rfl (Chg.refl _ _) rfl
                      · have l14 := hdep 14 (by kernel_rfl)
                        replace l14 : us 14 = .pointer (some ⟨LV, d, none⟩) := l14
                        simp only [List.getD_cons_succ, List.getD_cons_zero, List.setIfInBounds_toArray, List.set_cons_succ, List.set_cons_zero, l14] at hK ⊢
                        refine wpOp_at rfl rfl ?_
                        have hce := hC.cell hldc (by simp)
                        go_simp
                        exact hK _ _ _ rfl (Chg.refl _ _) rfl
                      · have l11 := hdep 11 (by kernel_rfl)
                        replace l11 : us 11 = .int .i64 kb := l11
                        have l15 := hdep 15 (by kernel_rfl)
                        replace l15 : us 15 = .slice ldr ldn ldc := l15
                        simp only [List.getD_cons_succ, List.getD_cons_zero, List.setIfInBounds_toArray, List.set_cons_succ, List.set_cons_zero, l11, l15] at hK ⊢
                        refine wpOp_at rfl rfl ?_
                        go_simp
                        refine (In_fit W kb hkb2 ldr ldn ldc (HLd.out.2.chg0 hC) (by have := HLd.out.1; omega)).mono ?_
                        rintro e wz ⟨r67, n67, c67, rfl, m67, f67, hz⟩
                        exact hK _ _ _ rfl hz ⟨r67, n67, c67, rfl, ⟨by have := HLd.out.1; omega, f67⟩⟩
                      · have l7 := hdep 7 (by kernel_rfl)
                        replace l7 : us 7 = .slice lcr lcn lcc := l7
                        have l16 := hdep 16 (by kernel_rfl)
                        obtain ⟨r67, n67, c67, l16, p16⟩ := l16
                        simp only [List.getD_cons_succ, List.getD_cons_zero, List.setIfInBounds_toArray, List.set_cons_succ, List.set_cons_zero, l7, l16] at hK ⊢
                        refine wpOp_at rfl rfl ?_
                        go_simp
                        refine (Chain_fit W lcr lcn lcc (HLc.out.2.chg0 hC) r67 n67 c67 p16.2 (by have := p16.1; have := HLc.out.1; omega)).mono ?_
                        rintro e wz ⟨r68, n68, c68, rfl, m68, f68, hz⟩
                        exact hK _ _ _ rfl hz ⟨r68, n68, c68, rfl, ⟨by have := p16.1; have := HLc.out.1; omega, f68⟩⟩
                      · have l3 := hdep 3 (by kernel_rfl)
                        replace l3 : us 3 = .int .i64 ka := l3
                        have l17 := hdep 17 (by kernel_rfl)
                        obtain ⟨r68, n68, c68, l17, p17⟩ := l17
                        simp only [List.getD_cons_succ, List.getD_cons_zero, List.setIfInBounds_toArray, List.set_cons_succ, List.set_cons_zero, l3, l17] at hK ⊢
                        refine wpOp_at rfl rfl ?_
                        go_simp
                        refine (In_fit W ka hka2 r68 n68 c68 p17.2 (by have := p17.1; omega)).mono ?_
                        rintro e wz ⟨r69, n69, c69, rfl, m69, f69, hz⟩
                        exact hK _ _ _ rfl hz ⟨r69, n69, c69, rfl, ⟨by have := p17.1; omega, f69⟩⟩
                      · have l18 := hdep 18 (by kernel_rfl)
                        obtain ⟨r69, n69, c69, l18, p18⟩ := l18
                        simp only [List.getD_cons_succ, List.getD_cons_zero, List.setIfInBounds_toArray, List.set_cons_succ, List.set_cons_zero, l18] at hK ⊢
                        refine wpOp_at rfl rfl ?_
                        go_simp
                        exact hK _ _ _ rfl (Chg.refl _ _) ⟨r69, n69, c69, rfl, p18⟩
                    case hdone20 =>
                      intro us W hC hall
                      have l0 := hall 0 (by decide)
                      replace l0 : us 0 = .slice (some ⟨KB, 0, none⟩) 5 5 := l0
                      have l1 := hall 1 (by decide)
                      replace l1 : us 1 = .int .i64 a := l1
                      have l2 := hall 2 (by decide)
                      replace l2 : us 2 = .pointer (some ⟨KB, a, none⟩) := l2
                      have l3 := hall 3 (by decide)
                      replace l3 : us 3 = .int .i64 ka := l3
                      have l4 := hall 4 (by decide)
                      replace l4 : us 4 = .slice (some ⟨LV, 0, none⟩) 6 6 := l4
                      have l5 := hall 5 (by decide)
                      replace l5 : us 5 = .int .i64 c := l5
                      have l6 := hall 6 (by decide)
                      replace l6 : us 6 = .pointer (some ⟨LV, c, none⟩) := l6
                      have l7 := hall 7 (by decide)
                      replace l7 : us 7 = .slice lcr lcn lcc := l7
                      have l8 := hall 8 (by decide)
                      replace l8 : us 8 = .slice (some ⟨KB, 0, none⟩) 5 5 := l8
                      have l9 := hall 9 (by decide)
                      replace l9 : us 9 = .int .i64 b := l9
                      have l10 := hall 10 (by decide)
                      replace l10 : us 10 = .pointer (some ⟨KB, b, none⟩) := l10
                      have l11 := hall 11 (by decide)
                      replace l11 : us 11 = .int .i64 kb := l11
                      have l12 := hall 12 (by decide)
                      replace l12 : us 12 = .slice (some ⟨LV, 0, none⟩) 6 6 := l12
                      have l13 := hall 13 (by decide)
                      replace l13 : us 13 = .int .i64 d := l13
                      have l14 := hall 14 (by decide)
                      replace l14 : us 14 = .pointer (some ⟨LV, d, none⟩) := l14
                      have l15 := hall 15 (by decide)
                      replace l15 : us 15 = .slice ldr ldn ldc := l15
                      have l16 := hall 16 (by decide)
                      obtain ⟨r67, n67, c67, l16, p16⟩ := l16
                      have l17 := hall 17 (by decide)
                      obtain ⟨r68, n68, c68, l17, p17⟩ := l17
                      have l18 := hall 18 (by decide)
                      obtain ⟨r69, n69, c69, l18, p18⟩ := l18
                      have l19 := hall 19 (by decide)
                      obtain ⟨r8, n8, c8, l19, p19⟩ := l19
                      simp only [actU, Act.put, List.setIfInBounds_toArray, List.set_cons_succ, List.set_cons_zero, Nat.reduceAdd, l0, l1, l2, l3, l4, l5, l6, l7, l8, l9, l10, l11, l12, l13, l14, l15, l16, l17, l18, l19]
                      clear hall l0 l1 l2 l3 l4 l5 l6 l7 l8 l9 l10 l11 l12 l13 l14 l15 l16 l17 l18 l19
                      have H7 := Lib.hid (And.intro H7'.out.1 (H7'.out.2.chg0 hC))
                      have H8 := Lib.hid p19
                      have hcs2 := Lib.hid (hin4.out.tr (hcs.out.tr hC))
                      have hldc := hC.cell HA0.out (by simp)
                      have HLd0 := Lib.hid (And.intro HLd.out.1 (HLd.out.2.chg0 hC))
                      clear p16 p17 p18 p19 hC HA0 HLc HLd hka hkb hlcc H7' hcs
                      obtain ⟨wu, rfl⟩ : ∃ wz, wz = W := ⟨_, rfl⟩
                      have HLd := HLd0
                      clear HLd0
                      go_wp2_with fail
                      refine wp_region_tail1 (by kernel_rfl) (by kernel_rfl) [70, 71, 72, 73, 74, 75, 76, 77, 78, 9] (by kernel_rfl) (fun rI rV rW => match rI with | 0 => rV = .slice r7 n7 c7 | 1 => rV = .slice r8 n8 c8 | 2 => ∃ r72 n72 c72, rV = .slice r72 n72 c72 ∧ n72 ≤ 9 ∧ FBody rW r72 n72 c72 | 3 => rV = .slice (some ⟨LV, 0, none⟩) 6 6 | 4 => rV = .int .i64 d | 5 => rV = .pointer (some ⟨LV, d, none⟩) | 6 => rV = .slice ldr ldn ldc | 7 => ∃ b77, rV = .slice (some ⟨b77, 0, none⟩) 2 2 ∧ BodiesF rW (some ⟨b77, 0, none⟩) 2 | 8 => ∃ b1 d1 b2 m2 d2 rs L, rV = .agg #[.slice b1 2 d1, .slice b2 m2 d2] ∧ FGS rW b1 2 d1 b2 m2 d2 rs L | 9 => ∃ b9, rV = .pointer (some ⟨b9, 0, none⟩) ∧ wu.heap.size ≤ b9 ∧ rW.heap[b9]? = some (.cells #[.slice none 0 0, .slice none 0 0] 25 (0, 0)) | _ => True) ?hS22 ?hstep22 ?hdone22
                      case hS22 =>
                        intro rI rV rW rW' hc rP
                        match rI, rP with
                        | 0, rP => exact rP
                        | 1, rP => exact rP
                        | 2, rP => exact (by obtain ⟨r72, n72, c72, e9, hp⟩ := rP; exact ⟨r72, n72, c72, e9, ⟨hp.1, hp.2.chg0 hc⟩⟩)
                        | 3, rP => exact rP
                        | 4, rP => exact rP
                        | 5, rP => exact rP
                        | 6, rP => exact rP
                        | 7, rP => exact (by obtain ⟨b77, e9, hp⟩ := rP; exact ⟨b77, e9, hp.chg0 hc⟩)
                        | 8, rP => exact (by obtain ⟨b1, d1, b2, m2, d2, rs, L, e9, hp⟩ := rP; exact ⟨b1, d1, b2, m2, d2, rs, L, e9, ⟨hp.1, hp.2.chg0 hc⟩⟩)
                        | 9, rP => exact (by obtain ⟨b9, e9, hp⟩ := rP; exact ⟨b9, e9, ⟨hp.1, hc.heap hp.2 (by simp)⟩⟩)
                        | _ + 10, _ => trivial
                      case hstep22 =>
                        intro rI rH us W hC hdep K hK
                        have hiN : rI < 10 := rH
                        simp only [actU, Act.put, List.setIfInBounds_toArray, List.set_cons_succ, List.set_cons_zero, Nat.reduceAdd] at hK ⊢
                        rcases (show rI = 0 ∨ rI = 1 ∨ rI = 2 ∨ rI = 3 ∨ rI = 4 ∨ rI = 5 ∨ rI = 6 ∨ rI = 7 ∨ rI = 8 ∨ rI = 9 by omega) with rfl | rfl | rfl | rfl | rfl | rfl | rfl | rfl | rfl | rfl
                        · simp only [List.getD_cons_succ, List.getD_cons_zero, List.setIfInBounds_toArray, List.set_cons_succ, List.set_cons_zero] at hK ⊢
                          refine wpOp_at rfl rfl ?_
                          go_simp
                          exact hK _ _ _ rfl (Chg.refl _ _) rfl
                        · simp only [List.getD_cons_succ, List.getD_cons_zero, List.setIfInBounds_toArray, List.set_cons_succ, List.set_cons_zero] at hK ⊢
                          refine wpOp_at rfl rfl ?_
                          go_simp
                          exact hK _ _ _ rfl (Chg.refl _ _) rfl
                        · have l0 := hdep 0 (by kernel_rfl)
                          replace l0 : us 0 = .slice r7 n7 c7 := l0
                          have l1 := hdep 1 (by kernel_rfl)
                          replace l1 : us 1 = .slice r8 n8 c8 := l1
                          simp only [List.getD_cons_succ, List.getD_cons_zero, List.setIfInBounds_toArray, List.set_cons_succ, List.set_cons_zero, l0, l1] at hK ⊢
                          refine wpOp_at rfl rfl ?_
                          go_simp
                          refine (First_fit W r7 n7 c7 (H7.out.2.chg0 hC) r8 n8 c8 (H8.out.2.chg0 hC) (by have := H7.out.1; have := H8.out.1; omega)).mono ?_
                          rintro e wz ⟨r72, n72, c72, rfl, m72, f72, hz⟩
                          exact hK _ _ _ rfl hz ⟨r72, n72, c72, rfl, ⟨by have := H7.out.1; have := H8.out.1; omega, f72⟩⟩
                        · simp only [List.getD_cons_succ, List.getD_cons_zero, List.setIfInBounds_toArray, List.set_cons_succ, List.set_cons_zero] at hK ⊢
                          refine wpOp_at rfl rfl ?_
                          go_simp
                          exact hK _ _ _ rfl (Chg.refl _ _) rfl
                        · simp only [List.getD_cons_succ, List.getD_cons_zero, List.setIfInBounds_toArray, List.set_cons_succ, List.set_cons_zero] at hK ⊢
                          refine wpOp_at rfl rfl ?_
                          go_simp
                          exact hK _ _ _ rfl (Chg.refl _ _) rfl
                        · have l3 := hdep 3 (by kernel_rfl)
                          replace l3 : us 3 = .slice (some ⟨LV, 0, none⟩) 6 6 := l3
                          have l4 := hdep 4 (by kernel_rfl)
                          replace l4 : us 4 = .int .i64 d := l4
                          simp only [List.getD_cons_succ, List.getD_cons_zero, List.setIfInBounds_toArray, List.set_cons_succ, List.set_cons_zero, l3, l4] at hK ⊢
                          refine wpOp_at rfl rfl ?_
                          go_simp
                          exact hK _ _ _ rfl (Chg.refl _ _) rfl
                        · have l5 := hdep 5 (by kernel_rfl)
                          replace l5 : us 5 = .pointer (some ⟨LV, d, none⟩) := l5
                          simp only [List.getD_cons_succ, List.getD_cons_zero, List.setIfInBounds_toArray, List.set_cons_succ, List.set_cons_zero, l5] at hK ⊢
                          refine wpOp_at rfl rfl ?_
                          have hce := hC.cell hldc (by simp)
                          go_simp
                          exact hK _ _ _ rfl (Chg.refl _ _) rfl
                        · have l2 := hdep 2 (by kernel_rfl)
                          obtain ⟨r72, n72, c72, l2, p2⟩ := l2
                          have l6 := hdep 6 (by kernel_rfl)
                          replace l6 : us 6 = .slice ldr ldn ldc := l6
                          simp only [List.getD_cons_succ, List.getD_cons_zero, List.setIfInBounds_toArray, List.set_cons_succ, List.set_cons_zero, l2, l6] at hK ⊢
                          refine wpOp_at rfl rfl ?_
                          go_simp
                          exact hK _ _ _ rfl ((Chg.refl _ _).alloc _) ⟨W.heap.size, rfl, bodies2 ((p2.2).chg0 ((Chg.refl _ _).alloc _)) (by have := p2.1; omega) ((HLd.out.2.chg0 hC).chg0 ((Chg.refl _ _).alloc _)) (by have := HLd.out.1; omega) (heap_alloc_same _ _)⟩
                        · have l7 := hdep 7 (by kernel_rfl)
                          obtain ⟨b77, l7, p7⟩ := l7
                          simp only [List.getD_cons_succ, List.getD_cons_zero, List.setIfInBounds_toArray, List.set_cons_succ, List.set_cons_zero, l7] at hK ⊢
                          refine wpOp_at rfl rfl ?_
                          go_simp
                          refine (Gram_fitS W _ 2 2 p7 (by decide)).mono ?_
                          rintro e wz ⟨b1, d1, b2, m2, d2, rs, L, rfl, hm9, fg, hz⟩
                          exact hK _ _ _ rfl hz ⟨b1, d1, b2, m2, d2, rs, L, rfl, ⟨hm9, fg.below⟩⟩
                        · simp only [List.getD_cons_succ, List.getD_cons_zero, List.setIfInBounds_toArray, List.set_cons_succ, List.set_cons_zero] at hK ⊢
                          refine wpOp_at rfl rfl ?_
                          go_simp
                          exact hK _ _ _ rfl ((Chg.refl _ _).alloc _) ⟨W.heap.size, rfl, ⟨hC.size, heap_alloc_same _ _⟩⟩
                      case hdone22 =>
                        intro us W hC hall
                        have l0 := hall 0 (by decide)
                        replace l0 : us 0 = .slice r7 n7 c7 := l0
                        have l1 := hall 1 (by decide)
                        replace l1 : us 1 = .slice r8 n8 c8 := l1
                        have l2 := hall 2 (by decide)
                        obtain ⟨r72, n72, c72, l2, p2⟩ := l2
                        have l3 := hall 3 (by decide)
                        replace l3 : us 3 = .slice (some ⟨LV, 0, none⟩) 6 6 := l3
                        have l4 := hall 4 (by decide)
                        replace l4 : us 4 = .int .i64 d := l4
                        have l5 := hall 5 (by decide)
                        replace l5 : us 5 = .pointer (some ⟨LV, d, none⟩) := l5
                        have l6 := hall 6 (by decide)
                        replace l6 : us 6 = .slice ldr ldn ldc := l6
                        have l7 := hall 7 (by decide)
                        obtain ⟨b77, l7, p7⟩ := l7
                        have l8 := hall 8 (by decide)
                        obtain ⟨b1, d1, b2, m2, d2, rs, L, l8, p8⟩ := l8
                        have l9 := hall 9 (by decide)
                        obtain ⟨b9, l9, p9⟩ := l9
                        simp only [actU, Act.put, List.setIfInBounds_toArray, List.set_cons_succ, List.set_cons_zero, Nat.reduceAdd, l0, l1, l2, l3, l4, l5, l6, l7, l8, l9]
                        clear hall l0 l1 l2 l3 l4 l5 l6 l7 l8 l9
                        obtain ⟨hb6, hh6⟩ := p9
                        have hb6l := lt_of_block hh6
                        obtain ⟨x0, x1⟩ := cells2 hh6
                        have f0 := free_of_cells hh6 0
                        have f1 := free_of_cells hh6 1
                        refine wpOp_at rfl rfl ?_
                        go_simp
                        obtain ⟨wx, ex, hx, hcx⟩ := two_set9 hh6 (.slice b1 2 d1) (.slice b2 m2 d2)
                        rw [← ex]
                        have hfg := p8.2.chg hcx (fun k hk => by
                          simp only [List.mem_singleton] at hk
                          subst hk
                          exact ⟨.of_cells hh6 (by decide), .of_cells hh6 (by decide), .of_cells hh6 (by decide)⟩)
                        have hm2 : m2 ≤ 100 := p8.1
                        have HX := Lib.hid (And.intro (hcs2.out.tr (hC.trans hcx (fun j hj => .inr (by simp only [List.mem_singleton] at hj; omega)))) (And.intro hx hfg))
                        clear x0 x1 f0 f1 ex hh6 hfg hcx hC p2 p7 p8 hldc H7 H8 HLd hcs2 hb6 hb6l
                        obtain ⟨x0, x1⟩ := cells2 hx
                        have hbx := lt_of_block hx
                        clear hx
                        go_wp2_with fail
                        refine (tells15_fit HX.out.2.2 (by omega) 1).mono ?_
                        rintro e wy ⟨rfl, h1⟩
                        have HY := Lib.hid (And.intro (HX.out.1.tr h1) (And.intro (h1.heap HX.out.2.1 (by simp)) (HX.out.2.2.chg0 h1)))
                        clear h1 x0 x1 hbx
                        obtain ⟨x0, x1⟩ := cells2 HY.out.2.1
                        have hbx := lt_of_block HY.out.2.1
                        have hwr : IntKind.i64.wrap ((c : Int) + d) = (c : Int) + d := IntWalk.i64_in _ (by omega)
                        have htm : Int.tmod ((c : Int) + d) 5 = ((c : Int) + d) % 5 := Int.tmod_eq_emod_of_nonneg (by omega)
                        by_cases h5 : ((c : Int) + d) % 5 = 0
                        · go_wp2_with fail
                          refine (tells15_fit HY.out.2.2 (by omega) _).mono ?_
                          rintro e wz ⟨rfl, h1⟩
                          have HZ := Lib.hid (And.intro (HY.out.1.tr h1) (And.intro (h1.heap HY.out.2.1 (by simp)) (HY.out.2.2.chg0 h1)))
                          clear h1 x0 x1 hbx
                          obtain ⟨x0, x1⟩ := cells2 HZ.out.2.1
                          have hbx := lt_of_block HZ.out.2.1
                          go_wp2_with fail
                          refine (tells15_fit HZ.out.2.2 (by omega) 4).mono ?_
                          rintro e wv ⟨rfl, h1⟩
                          have HV := Lib.hid (HZ.out.1.tr h1)
                          clear h1 x0 x1 hbx
                          go_wp2_with fail
                          go_roundg (6 - (d + 1))
                          case measure => omega
                          case rel => exact ⟨d + 1, rfl, by omega, by go_num, HV⟩
                        · have HV := Lib.hid HY.out.1
                          clear x0 x1 hbx
                          go_wp2_with fail
                          go_roundg (6 - (d + 1))
                          case measure => omega
                          case rel => exact ⟨d + 1, rfl, by omega, by go_num, HV⟩
                · obtain rfl : d = 6 := by omega
                  go_wp2_with fail
                  go_roundg (6 - (c + 1))
                  case measure => omega
                  case rel => exact ⟨c + 1, rfl, by omega, by go_num, hin4⟩
            · obtain rfl : c = 6 := by omega
              go_wp2_with fail
              go_roundg (5 - (b + 1))
              case measure => omega
              case rel => exact ⟨b + 1, rfl, by omega, by go_num, hin3⟩
        · obtain rfl : b = 5 := by omega
          go_wp2_with fail
          go_roundg (5 - (a + 1))
          case measure => omega
          case rel => exact ⟨a + 1, rfl, by omega, by go_num, hin2⟩
    · obtain rfl : a = 5 := by omega
      go_wp2_with fail
      go_loopg [10] 12 (fun dd iv wr => ∃ n : Nat, dd = 12 - n ∧ n ≤ 12 ∧ iv = .int .i64 n ∧ Hid (Chg [] w1 wr))
      case atStart => exact ⟨0, rfl, Nat.zero_le _, rfl, hin⟩
      case round =>
        obtain ⟨n, rfl, hn, rfl, hin⟩ := hrel
        obtain ⟨wq, rfl⟩ : ∃ wz, wz = wr := ⟨_, rfl⟩
        by_cases hln : n < 12
        · go_wp2_with fail
          rw [show decide ((n : Int) < 12) = true from decide_eq_true (by omega)]
          refine (Known_fit wq n hln).mono ?_
          rintro e w2 ⟨k, hk3, b1, d1, b2, m, d2, rs, L, rfl, hm, fg, h⟩
          have HF := Lib.hid (And.intro fg (hin.out.tr h))
          clear fg h
          go_wp2_with fail
          refine (tells15_fit HF.out.1 (by omega) _).mono ?_
          rintro e w3 ⟨rfl, h1⟩
          have HV := Lib.hid (HF.out.2.tr h1)
          clear h1
          go_wp2_with fail
          go_roundg (12 - (n + 1))
          case measure => omega
          case rel => exact ⟨n + 1, rfl, by omega, by go_num, HV⟩
        · obtain rfl : n = 12 := by omega
          go_wp2_with fail
          have hB := heap_alloc_same wq (.cells #[.int .i64 (-9223372036854775808), .int .i64 (-1), .int .i64 0, .int .i64 6, .int .i64 7, .int .i64 8, .int .i64 9, .int .i64 9223372036854775807] 3)
          have hCB := hin.out.alloc (.cells #[.int .i64 (-9223372036854775808), .int .i64 (-1), .int .i64 0, .int .i64 6, .int .i64 7, .int .i64 8, .int .i64 9, .int .i64 9223372036854775807] 3)
          obtain ⟨AB, eK⟩ : ∃ k, k = wq.heap.size := ⟨_, rfl⟩
          obtain ⟨w2, eu⟩ : ∃ u, u = wq.alloc (.cells #[.int .i64 (-9223372036854775808), .int .i64 (-1), .int .i64 0, .int .i64 6, .int .i64 7, .int .i64 8, .int .i64 9, .int .i64 9223372036854775807] 3) := ⟨_, rfl⟩
          rw [← eK, ← eu] at hB
          rw [← eu] at hCB
          rw [← eK, ← eu]
          have H2 := Lib.hid (And.intro hB hCB)
          clear hB hCB eK eu
          obtain ⟨er, her⟩ : ∃ e, e = ex15.rules.length := ⟨_, rfl⟩
          obtain ⟨en, hen⟩ : ∃ e, e = ex15.nodes.length := ⟨_, rfl⟩
          have hEr := Lib.hid (And.intro her hen)
          have hex : Hid (∀ W, Calls Tryz.prog 36 #[] W fun e W' => ∃ b1 d1 b2 d2, e = .returned (.agg #[.slice b1 er d1, .slice b2 en d2]) ∧ GramAt W' b1 er d1 b2 en d2 ex15 ∧ Chg [] W W') := Lib.hid fun W => by rw [her, hen]; exact example15_any W
          clear her hen
          go_loopg [12] 8 (fun dd iv wr => ∃ i : Nat, dd = 8 - i ∧ i ≤ 8 ∧ iv = .int .i64 i ∧ Hid (Chg [] w2 wr))
          case atStart => exact ⟨0, rfl, Nat.zero_le _, rfl, Lib.hid (Chg.refl _ _)⟩
          case round =>
            obtain ⟨i, rfl, hi, rfl, hin5⟩ := hrel
            obtain ⟨wj, rfl⟩ : ∃ wz, wz = wr := ⟨_, rfl⟩
            by_cases hli : i < 8
            · obtain ⟨zi, gz⟩ := ends15 i hli
              have hzi := (cell_of_cells (hin5.out.heap H2.out.1 (by simp)) i).trans gz
              have hii : (i : Int) < 8 := by omega
              clear gz
              go_wp2_with fail
              refine wp_region_st (by kernel_rfl) (by kernel_rfl) [119, 120, 121, 122, 123, 124, 125, 126, 127, 128, 129, 130, 131, 132, 133, 134] (by kernel_rfl) (fun rI rV rW => match rI with | 0 => ∃ b1 d1 b2 d2, rV = .agg #[.slice b1 er d1, .slice b2 en d2] ∧ GramAt rW b1 er d1 b2 en d2 ex15 | 1 => rV = .slice (some ⟨AB, 0, none⟩) 8 8 | 2 => rV = .int .i64 i | 3 => rV = .pointer (some ⟨AB, i, none⟩) | 4 => rV = .int .i64 zi | 5 => rV = .bool true | 6 => rV = .bool false | 7 => rV = .bool false | 8 => rV = .agg #[.slice none 0 0, .slice none 0 0] | 9 => rV = .slice (some ⟨AB, 0, none⟩) 8 8 | 10 => rV = .int .i64 i | 11 => rV = .pointer (some ⟨AB, i, none⟩) | 12 => rV = .int .i64 zi | 13 => rV = .bool true | 14 => rV = .bool false | 15 => rV = .bool false | _ => True) ?hS14 ?hstep14 ?hdone14
              case hS14 =>
                intro rI rV rW rW' hc rP
                match rI, rP with
                | 0, rP => exact (by obtain ⟨b1, d1, b2, d2, e9, hp⟩ := rP; exact ⟨b1, d1, b2, d2, e9, hp.keep hc.kp⟩)
                | 1, rP => exact rP
                | 2, rP => exact rP
                | 3, rP => exact rP
                | 4, rP => exact rP
                | 5, rP => exact rP
                | 6, rP => exact rP
                | 7, rP => exact rP
                | 8, rP => exact rP
                | 9, rP => exact rP
                | 10, rP => exact rP
                | 11, rP => exact rP
                | 12, rP => exact rP
                | 13, rP => exact rP
                | 14, rP => exact rP
                | 15, rP => exact rP
                | _ + 16, _ => trivial
              case hstep14 =>
                intro rI rH us W hC hdep K hK
                have hiN : rI < 16 := rH
                simp only [actU, Act.put, List.setIfInBounds_toArray, List.set_cons_succ, List.set_cons_zero, Nat.reduceAdd] at hK ⊢
                rcases (show rI = 0 ∨ rI = 1 ∨ rI = 2 ∨ rI = 3 ∨ rI = 4 ∨ rI = 5 ∨ rI = 6 ∨ rI = 7 ∨ rI = 8 ∨ rI = 9 ∨ rI = 10 ∨ rI = 11 ∨ rI = 12 ∨ rI = 13 ∨ rI = 14 ∨ rI = 15 by omega) with rfl | rfl | rfl | rfl | rfl | rfl | rfl | rfl | rfl | rfl | rfl | rfl | rfl | rfl | rfl | rfl
                · simp only [List.getD_cons_succ, List.getD_cons_zero, List.setIfInBounds_toArray, List.set_cons_succ, List.set_cons_zero] at hK ⊢
                  refine wpOp_at rfl rfl ?_
                  go_simp
                  refine (hex.out W).mono ?_
                  rintro e wz ⟨b1, d1, b2, d2, rfl, hg, hz⟩
                  exact hK _ _ _ rfl hz ⟨b1, d1, b2, d2, rfl, (by first | exact hg | (rw [hEr.out.1, hEr.out.2] ; exact hg))⟩
                · simp only [List.getD_cons_succ, List.getD_cons_zero, List.setIfInBounds_toArray, List.set_cons_succ, List.set_cons_zero] at hK ⊢
                  refine wpOp_at rfl rfl ?_
                  go_simp
                  exact hK _ _ _ rfl (Chg.refl _ _) rfl
                · simp only [List.getD_cons_succ, List.getD_cons_zero, List.setIfInBounds_toArray, List.set_cons_succ, List.set_cons_zero] at hK ⊢
                  refine wpOp_at rfl rfl ?_
                  go_simp
                  exact hK _ _ _ rfl (Chg.refl _ _) rfl
                · have l1 := hdep 1 (by kernel_rfl)
                  replace l1 : us 1 = .slice (some ⟨AB, 0, none⟩) 8 8 := l1
                  have l2 := hdep 2 (by kernel_rfl)
                  replace l2 : us 2 = .int .i64 i := l2
                  simp only [List.getD_cons_succ, List.getD_cons_zero, List.setIfInBounds_toArray, List.set_cons_succ, List.set_cons_zero, l1, l2] at hK ⊢
                  refine wpOp_at rfl rfl ?_
                  go_simp
                  exact hK _ _ _ rfl (Chg.refl _ _) rfl
                · have l3 := hdep 3 (by kernel_rfl)
                  replace l3 : us 3 = .pointer (some ⟨AB, i, none⟩) := l3
                  simp only [List.getD_cons_succ, List.getD_cons_zero, List.setIfInBounds_toArray, List.set_cons_succ, List.set_cons_zero, l3] at hK ⊢
                  refine wpOp_at rfl rfl ?_
                  have hce := hC.cell hzi (by simp)
                  go_simp
                  exact hK _ _ _ rfl (Chg.refl _ _) rfl
                · have l0 := hdep 0 (by kernel_rfl)
                  obtain ⟨b1, d1, b2, d2, l0, p0⟩ := l0
                  have l4 := hdep 4 (by kernel_rfl)
                  replace l4 : us 4 = .int .i64 zi := l4
                  simp only [List.getD_cons_succ, List.getD_cons_zero, List.setIfInBounds_toArray, List.set_cons_succ, List.set_cons_zero, l0, l4] at hK ⊢
                  refine wpOp_at rfl rfl ?_
                  go_simp
                  refine (tells15_ex W b1 er d1 b2 en d2 p0 zi).mono ?_
                  rintro e wz ⟨rfl, hz⟩
                  exact hK _ _ _ rfl hz rfl
                · have l5 := hdep 5 (by kernel_rfl)
                  replace l5 : us 5 = .bool true := l5
                  simp only [List.getD_cons_succ, List.getD_cons_zero, List.setIfInBounds_toArray, List.set_cons_succ, List.set_cons_zero, l5] at hK ⊢
                  refine wpOp_at rfl rfl ?_
                  go_simp
                  exact hK _ _ _ rfl (Chg.refl _ _) rfl
                · have l6 := hdep 6 (by kernel_rfl)
                  replace l6 : us 6 = .bool false := l6
                  simp only [List.getD_cons_succ, List.getD_cons_zero, List.setIfInBounds_toArray, List.set_cons_succ, List.set_cons_zero, l6] at hK ⊢
                  refine wpOp_at rfl rfl ?_
                  go_simp
                  exact hK _ _ _ rfl (Chg.refl _ _) rfl
                · have l7 := hdep 7 (by kernel_rfl)
                  replace l7 : us 7 = .bool false := l7
                  simp only [List.getD_cons_succ, List.getD_cons_zero, List.setIfInBounds_toArray, List.set_cons_succ, List.set_cons_zero, l7] at hK ⊢
                  refine wpOp_want rfl (by rfl) ?_
                  go_simp
                  exact hK _ _ _ rfl (Chg.refl _ _) rfl
                · have l7 := hdep 7 (by kernel_rfl)
                  replace l7 : us 7 = .bool false := l7
                  simp only [List.getD_cons_succ, List.getD_cons_zero, List.setIfInBounds_toArray, List.set_cons_succ, List.set_cons_zero, l7] at hK ⊢
                  refine wpOp_want rfl (by rfl) ?_
                  go_simp
                  exact hK _ _ _ rfl (Chg.refl _ _) rfl
                · have l7 := hdep 7 (by kernel_rfl)
                  replace l7 : us 7 = .bool false := l7
                  simp only [List.getD_cons_succ, List.getD_cons_zero, List.setIfInBounds_toArray, List.set_cons_succ, List.set_cons_zero, l7] at hK ⊢
                  refine wpOp_want rfl (by rfl) ?_
                  go_simp
                  exact hK _ _ _ rfl (Chg.refl _ _) rfl
                · have l7 := hdep 7 (by kernel_rfl)
                  replace l7 : us 7 = .bool false := l7
                  have l9 := hdep 9 (by kernel_rfl)
                  replace l9 : us 9 = .slice (some ⟨AB, 0, none⟩) 8 8 := l9
                  have l10 := hdep 10 (by kernel_rfl)
                  replace l10 : us 10 = .int .i64 i := l10
                  simp only [List.getD_cons_succ, List.getD_cons_zero, List.setIfInBounds_toArray, List.set_cons_succ, List.set_cons_zero, l7, l9, l10] at hK ⊢
                  refine wpOp_want rfl (by rfl) ?_
                  go_simp
                  exact hK _ _ _ rfl (Chg.refl _ _) rfl
                · have l7 := hdep 7 (by kernel_rfl)
                  replace l7 : us 7 = .bool false := l7
                  have l11 := hdep 11 (by kernel_rfl)
                  replace l11 : us 11 = .pointer (some ⟨AB, i, none⟩) := l11
                  simp only [List.getD_cons_succ, List.getD_cons_zero, List.setIfInBounds_toArray, List.set_cons_succ, List.set_cons_zero, l7, l11] at hK ⊢
                  refine wpOp_want rfl (by rfl) ?_
                  have hce := hC.cell hzi (by simp)
                  go_simp
                  exact hK _ _ _ rfl (Chg.refl _ _) rfl
                · have l7 := hdep 7 (by kernel_rfl)
                  replace l7 : us 7 = .bool false := l7
                  have l8 := hdep 8 (by kernel_rfl)
                  replace l8 : us 8 = .agg #[.slice none 0 0, .slice none 0 0] := l8
                  have l12 := hdep 12 (by kernel_rfl)
                  replace l12 : us 12 = .int .i64 zi := l12
                  simp only [List.getD_cons_succ, List.getD_cons_zero, List.setIfInBounds_toArray, List.set_cons_succ, List.set_cons_zero, l7, l8, l12] at hK ⊢
                  refine wpOp_want rfl (by rfl) ?_
                  go_simp
                  refine (tells15_none W zi).mono ?_
                  rintro e wz ⟨rfl, hz⟩
                  exact hK _ _ _ rfl hz rfl
                · have l7 := hdep 7 (by kernel_rfl)
                  replace l7 : us 7 = .bool false := l7
                  have l13 := hdep 13 (by kernel_rfl)
                  replace l13 : us 13 = .bool true := l13
                  simp only [List.getD_cons_succ, List.getD_cons_zero, List.setIfInBounds_toArray, List.set_cons_succ, List.set_cons_zero, l7, l13] at hK ⊢
                  refine wpOp_want rfl (by rfl) ?_
                  go_simp
                  exact hK _ _ _ rfl (Chg.refl _ _) rfl
                · have l7 := hdep 7 (by kernel_rfl)
                  replace l7 : us 7 = .bool false := l7
                  have l14 := hdep 14 (by kernel_rfl)
                  replace l14 : us 14 = .bool false := l14
                  simp only [List.getD_cons_succ, List.getD_cons_zero, List.setIfInBounds_toArray, List.set_cons_succ, List.set_cons_zero, l7, l14] at hK ⊢
                  refine wpOp_at rfl rfl ?_
                  go_simp
                  exact hK _ _ _ rfl (Chg.refl _ _) rfl
              case hdone14 =>
                intro us W hC hall
                have l0 := hall 0 (by decide)
                obtain ⟨b1, d1, b2, d2, l0, p0⟩ := l0
                have l1 := hall 1 (by decide)
                replace l1 : us 1 = .slice (some ⟨AB, 0, none⟩) 8 8 := l1
                have l2 := hall 2 (by decide)
                replace l2 : us 2 = .int .i64 i := l2
                have l3 := hall 3 (by decide)
                replace l3 : us 3 = .pointer (some ⟨AB, i, none⟩) := l3
                have l4 := hall 4 (by decide)
                replace l4 : us 4 = .int .i64 zi := l4
                have l5 := hall 5 (by decide)
                replace l5 : us 5 = .bool true := l5
                have l6 := hall 6 (by decide)
                replace l6 : us 6 = .bool false := l6
                have l7 := hall 7 (by decide)
                replace l7 : us 7 = .bool false := l7
                have l8 := hall 8 (by decide)
                replace l8 : us 8 = .agg #[.slice none 0 0, .slice none 0 0] := l8
                have l9 := hall 9 (by decide)
                replace l9 : us 9 = .slice (some ⟨AB, 0, none⟩) 8 8 := l9
                have l10 := hall 10 (by decide)
                replace l10 : us 10 = .int .i64 i := l10
                have l11 := hall 11 (by decide)
                replace l11 : us 11 = .pointer (some ⟨AB, i, none⟩) := l11
                have l12 := hall 12 (by decide)
                replace l12 : us 12 = .int .i64 zi := l12
                have l13 := hall 13 (by decide)
                replace l13 : us 13 = .bool true := l13
                have l14 := hall 14 (by decide)
                replace l14 : us 14 = .bool false := l14
                have l15 := hall 15 (by decide)
                replace l15 : us 15 = .bool false := l15
                simp only [actU, Act.put, List.setIfInBounds_toArray, List.set_cons_succ, List.set_cons_zero, Nat.reduceAdd, l0, l1, l2, l3, l4, l5, l6, l7, l8, l9, l10, l11, l12, l13, l14, l15]
                clear hall l0 l1 l2 l3 l4 l5 l6 l7 l8 l9 l10 l11 l12 l13 l14 l15
                have HV := Lib.hid (hin5.out.tr hC)
                clear hC p0 hzi
                go_wp2_with fail
                go_roundg (8 - (i + 1))
                case measure => omega
                case rel => exact ⟨i + 1, rfl, by omega, by go_num, HV⟩
            · obtain rfl : i = 8 := by omega
              go_wp2_with fail
              refine (awake15_any _).mono ?_
              rintro e w3 ⟨rfl, h3⟩
              have HV := Lib.hid (HW.out.1.tr (H2.out.2.tr (hin5.out.tr h3)))
              clear h3
              go_wp2_with fail
              go_ret
              exact ⟨rfl, HV.out⟩
end Go.Proofs.YtibgfgfmljhimaaGreat

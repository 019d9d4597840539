/-
  The chapter's example answers yes.
  Conditions: none.
-/
import Derived.Test.YtnajhcoimohcaaaSmHs9
set_option linter.unusedVariables false
set_option linter.unusedSimpArgs false
set_option linter.unnecessarySimpa false
namespace Go.Proofs.Ytnajhcoimohcaaa
open Go.RowKit Go.MapKept

set_option maxRecDepth 100000 in
set_option maxHeartbeats 8000000 in
theorem awake20_any (w : World) : Calls Try.prog 8 #[] w fun e w' => e = .returned (.bool true) ∧ Chg [] w w' := by
  obtain ⟨b, hb⟩ : ∃ b, b = w.heap.size := ⟨_, rfl⟩
  have h0 := newSP w
  rw [← hb] at h0
  go_enter Try.func8, Try.ntmps8
  go_wp2_with fail
  refine h0.mono ?_
  clear h0
  rintro e w1 ⟨rfl, h1, c1⟩
  have z1 : b ≤ w1.heap.size := by have := c1.size; omega
  have H1 := Lib.hid (And.intro h1 (ChgB.of0 (b := b) c1))
  have HB := Lib.hid hb
  clear h1 c1 hb
  have k := enterSP b w1 b [] H1.out.1 z1 (by decide) 1 0 ⟨by decide, by decide⟩ ⟨by decide, by decide⟩
  rw [aw1_eq] at k
  simp only at k
  go_wp2_with fail
  refine k.mono ?_
  clear k
  rintro e w2 ⟨rfl, h2, c2⟩
  have z2 : b ≤ w2.heap.size := by have := c2.size; omega
  have H2 := Lib.hid (And.intro h2 (H1.out.2.tr c2.chgB))
  clear h2 c2 z1
  have k := enterSP b w2 b _ H2.out.1 z2 (by decide) 2 0 ⟨by decide, by decide⟩ ⟨by decide, by decide⟩
  rw [aw2_eq] at k
  simp only at k
  go_wp2_with fail
  refine k.mono ?_
  clear k
  rintro e w3 ⟨rfl, h3, c3⟩
  have z3 : b ≤ w3.heap.size := by have := c3.size; omega
  have H3 := Lib.hid (And.intro h3 (H2.out.2.tr c3.chgB))
  clear h3 c3 z2
  have k := enterSP b w3 b _ H3.out.1 z3 (by decide) 3 0 ⟨by decide, by decide⟩ ⟨by decide, by decide⟩
  rw [aw3_eq] at k
  simp only at k
  go_wp2_with fail
  refine k.mono ?_
  clear k
  rintro e w4 ⟨rfl, h4, c4⟩
  have z4 : b ≤ w4.heap.size := by have := c4.size; omega
  have H4 := Lib.hid (And.intro h4 (H3.out.2.tr c4.chgB))
  clear h4 c4 z3
  have k := readSP b w4 b _ H4.out.1 z4 2 0 ⟨by decide, by decide⟩
  rw [aw4_eq] at k
  simp only at k
  go_wp2_with fail
  refine k.mono ?_
  clear k
  rintro e w5 ⟨rfl, h5, c5⟩
  have z5 : b ≤ w5.heap.size := by have := c5.size; omega
  have H5 := Lib.hid (And.intro h5 (H4.out.2.tr c5.chgB))
  clear h5 c5 z4
  have k := involvedSP b w5 b _ H5.out.1 (by decide) 2 0
  rw [awi_eq] at k
  go_wp2_with fail
  refine k.mono ?_
  clear k
  rintro e w6 ⟨ia, ik, ic, rfl, hik, hfi, c6⟩
  simp only [List.length_cons, List.length_nil, Nat.zero_add] at hik
  subst hik
  have z6 : b ≤ w6.heap.size := by have := c6.size; omega
  have FI := Lib.hid hfi
  have H6 := Lib.hid (And.intro (H5.out.1.chg0 c6) (H5.out.2.tr (.of0 c6)))
  clear hfi c6 z5
  have k := leaveSP b w6 b _ H6.out.1 2 rfl ⟨3, 0, [2, 3], [], true⟩ rfl (by decide)
  simp only at k
  go_wp2_with fail
  refine k.mono ?_
  clear k
  rintro e v7 ⟨Xa, Xn, Xc, rfl, hn7, hf7, h7, c7⟩
  simp only [List.length_cons, List.length_nil, Nat.zero_add, Nat.reduceAdd] at hn7
  subst hn7
  obtain ⟨w7, e7⟩ : ∃ z, z = v7.alloc (.cells #[.int .i64 3, .int .i64 0, .slice Xa 2 Xc, .bool true] 65) := ⟨_, rfl⟩
  have q7 := (Chg.refl [] v7).alloc (.cells #[.int .i64 3, .int .i64 0, .slice Xa 2 Xc, .bool true] 65)
  have NX := Lib.hid (heap_alloc_same v7 (.cells #[.int .i64 3, .int .i64 0, .slice Xa 2 Xc, .bool true] 65))
  rw [← e7] at q7 NX
  replace FI := Lib.hid ((c7.tr0 q7).ints FI.out)
  have FX := Lib.hid ((ChgK.of0 (b := b) q7).ints hf7)
  have z7 : b ≤ w7.heap.size := by have := c7.size; have := q7.size; omega
  have H7 := Lib.hid (And.intro (h7.chg0 q7) (H6.out.2.tr (c7.tr0 q7).chgB))
  clear h7 c7 hf7 q7 z6
  have E7 : List.take 2 aw4 = aw5 := rfl
  rw [E7] at H7
  have k := readSP b w7 b _ H7.out.1 z7 1 0 ⟨by decide, by decide⟩
  rw [aw6_eq] at k
  simp only at k
  go_wp2_with fail
  rw [← e7]
  refine k.mono ?_
  clear k e7
  rintro e w8 ⟨rfl, h8, c8⟩
  have z8 : b ≤ w8.heap.size := by have := c8.size; omega
  replace FI := Lib.hid (c8.ints FI.out)
  replace NX := Lib.hid (c8.heap NX.out (by decide) (by decide))
  replace FX := Lib.hid (c8.ints FX.out)
  have H8 := Lib.hid (And.intro h8 (H7.out.2.tr c8.chgB))
  clear h8 c8 z7
  have k := leaveSP b w8 b _ H8.out.1 1 rfl ⟨2, 0, [1, 2, 3], [3], true⟩ rfl (by decide)
  simp only at k
  go_wp2_with fail
  refine k.mono ?_
  clear k
  rintro e v9 ⟨Ya, Yn, Yc, rfl, hn9, hf9, h9, c9⟩
  simp only [List.length_cons, List.length_nil, Nat.zero_add, Nat.reduceAdd] at hn9
  subst hn9
  obtain ⟨w9, e9⟩ : ∃ z, z = v9.alloc (.cells #[.int .i64 2, .int .i64 0, .slice Ya 3 Yc, .bool true] 65) := ⟨_, rfl⟩
  have q9 := (Chg.refl [] v9).alloc (.cells #[.int .i64 2, .int .i64 0, .slice Ya 3 Yc, .bool true] 65)
  have NY := Lib.hid (heap_alloc_same v9 (.cells #[.int .i64 2, .int .i64 0, .slice Ya 3 Yc, .bool true] 65))
  rw [← e9] at q9 NY
  replace FI := Lib.hid ((c9.tr0 q9).ints FI.out)
  replace NX := Lib.hid ((c9.tr0 q9).heap NX.out (by decide) (by decide))
  replace FX := Lib.hid ((c9.tr0 q9).ints FX.out)
  have FY := Lib.hid ((ChgK.of0 (b := b) q9).ints hf9)
  have z9 : b ≤ w9.heap.size := by have := c9.size; have := q9.size; omega
  have H9 := Lib.hid (And.intro (h9.chg0 q9) (H8.out.2.tr (c9.tr0 q9).chgB))
  clear h9 c9 hf9 q9 z8
  have E9 : List.take 1 aw6 = [⟨1, 0, [1, 2, 3], [2], false⟩] := rfl
  rw [E9] at H9
  have k := leaveSP b w9 b _ H9.out.1 0 rfl ⟨1, 0, [1, 2, 3], [2], false⟩ rfl (by decide)
  simp only at k
  go_wp2_with fail
  rw [← e9]
  refine k.mono ?_
  clear k e9
  rintro e v10 ⟨Za, Zn, Zc, rfl, hn10, hf10, h10, c10⟩
  simp only [List.length_cons, List.length_nil, Nat.zero_add, Nat.reduceAdd] at hn10
  subst hn10
  obtain ⟨w10, e10⟩ : ∃ z, z = v10.alloc (.cells #[.int .i64 1, .int .i64 0, .slice Za 3 Zc, .bool false] 65) := ⟨_, rfl⟩
  have q10 := (Chg.refl [] v10).alloc (.cells #[.int .i64 1, .int .i64 0, .slice Za 3 Zc, .bool false] 65)
  have NZ := Lib.hid (heap_alloc_same v10 (.cells #[.int .i64 1, .int .i64 0, .slice Za 3 Zc, .bool false] 65))
  rw [← e10] at q10 NZ
  replace FI := Lib.hid ((c10.tr0 q10).ints FI.out)
  replace NX := Lib.hid ((c10.tr0 q10).heap NX.out (by decide) (by decide))
  replace FX := Lib.hid ((c10.tr0 q10).ints FX.out)
  replace NY := Lib.hid ((c10.tr0 q10).heap NY.out (by decide) (by decide))
  replace FY := Lib.hid ((c10.tr0 q10).ints FY.out)
  have FZ := Lib.hid ((ChgK.of0 (b := b) q10).ints hf10)
  have z10 : b ≤ w10.heap.size := by have := c10.size; have := q10.size; omega
  have H10 := Lib.hid (And.intro (h10.chg0 q10) (H9.out.2.tr (c10.tr0 q10).chgB))
  clear h10 c10 hf10 q10 z9
  obtain ⟨xr0, xr1, xr2, xr3⟩ := cellsL4 NX.out
  obtain ⟨yr0, yr1, yr2, yr3⟩ := cellsL4 NY.out
  obtain ⟨zr0, zr1, zr2, zr3⟩ := cellsL4 NZ.out
  have lX := lt_of_block NX.out
  have lY := lt_of_block NY.out
  have lZ := lt_of_block NZ.out
  obtain ⟨hi1, -, hi2, hi3⟩ := ownInts_read FI.out.own
  obtain ⟨ig, io, ei, i0⟩ := hi1 0 (by decide)
  subst ei
  have i0' : w10.cell? ⟨ig, io, none⟩ = some (.int .i64 3) := i0
  have hic : 1 ≤ ic := hi2
  have hicm : ic ≤ 9223372036854775807 := by simpa only [maxLen] using hi3
  have EE : w10 = v10.alloc (.cells #[.int .i64 1, .int .i64 0, .slice Za 3 Zc, .bool false] 65) := e10
  clear xr0 xr1 yr0 yr1 zr0 zr1 hi1 hi2 hi3 i0
  have HX0 := Lib.hid (And.intro xr2 (And.intro xr3 (And.intro yr2 (And.intro yr3 (And.intro zr2 (And.intro zr3 i0'))))))
  rw [EE] at xr2 xr3 yr2 yr3 zr2 zr3 i0'
  clear EE
  have s10 : v10.heap.size + 1 = w10.heap.size := by rw [e10, World.size_alloc]
  have HS10 := Lib.hid s10
  clear s10
  go_wp2_with fail
  rw [← e10, HS10.out]
  clear e10 xr2 xr3 yr2 yr3 zr2 zr3 i0'

  replace H10 := Lib.hid H10.out.2
  have q := (Chg.refl [] w10).alloc (.cells #[.int .i64 2, .int .i64 3] 3)
  have g := heap_alloc_same w10 (.cells #[.int .i64 2, .int .i64 3] 3)
  have k := sameInts_any (w10.alloc (.cells #[.int .i64 2, .int .i64 3] 3)) Xa (some ⟨w10.heap.size, 0, none⟩) 2 Xc 2 2 [2, 3] [2, 3] rfl rfl (by decide) ((ownInts_read FX.out.own).1.keep q.kp) (fun i hi => ⟨w10.heap.size, 0, rfl, by
    rw [cell_of_cells g]
    rcases (show i = 0 ∨ i = 1 by simp at hi; omega) with rfl | rfl <;> rfl⟩)
  rw [show decide (([2, 3] : List Int) = [2, 3]) = true from by decide] at k
  refine k.mono ?_
  clear k g
  rintro e w11 ⟨rfl, c11⟩
  replace FI := Lib.hid (((ChgK.of0 (b := b) q).tr0 c11).ints FI.out)
  replace NX := Lib.hid (((ChgK.of0 (b := b) q).tr0 c11).heap NX.out (by decide) (by decide))
  replace FX := Lib.hid (((ChgK.of0 (b := b) q).tr0 c11).ints FX.out)
  replace NY := Lib.hid (((ChgK.of0 (b := b) q).tr0 c11).heap NY.out (by decide) (by decide))
  replace FY := Lib.hid (((ChgK.of0 (b := b) q).tr0 c11).ints FY.out)
  replace NZ := Lib.hid (((ChgK.of0 (b := b) q).tr0 c11).heap NZ.out (by decide) (by decide))
  replace FZ := Lib.hid (((ChgK.of0 (b := b) q).tr0 c11).ints FZ.out)
  replace H10 := Lib.hid ((H10.out).tr (.of0 (q.tr c11)))
  have H11 := H10
  clear q c11 H10
  obtain ⟨xr0, xr1, xr2, xr3⟩ := cellsL4 NY.out
  clear xr0 xr1 xr3
  go_wp2_with fail
  clear xr2
  have q := (Chg.refl [] w11).alloc (.cells #[.int .i64 1, .int .i64 2, .int .i64 3] 3)
  have g := heap_alloc_same w11 (.cells #[.int .i64 1, .int .i64 2, .int .i64 3] 3)
  have k := sameInts_any (w11.alloc (.cells #[.int .i64 1, .int .i64 2, .int .i64 3] 3)) Ya (some ⟨w11.heap.size, 0, none⟩) 3 Yc 3 3 [1, 2, 3] [1, 2, 3] rfl rfl (by decide) ((ownInts_read FY.out.own).1.keep q.kp) (fun i hi => ⟨w11.heap.size, 0, rfl, by
    rw [cell_of_cells g]
    rcases (show i = 0 ∨ i = 1 ∨ i = 2 by simp at hi; omega) with rfl | rfl | rfl <;> rfl⟩)
  rw [show decide (([1, 2, 3] : List Int) = [1, 2, 3]) = true from by decide] at k
  refine k.mono ?_
  clear k g
  rintro e w12 ⟨rfl, c12⟩
  replace FI := Lib.hid (((ChgK.of0 (b := b) q).tr0 c12).ints FI.out)
  replace NX := Lib.hid (((ChgK.of0 (b := b) q).tr0 c12).heap NX.out (by decide) (by decide))
  replace FX := Lib.hid (((ChgK.of0 (b := b) q).tr0 c12).ints FX.out)
  replace NY := Lib.hid (((ChgK.of0 (b := b) q).tr0 c12).heap NY.out (by decide) (by decide))
  replace FY := Lib.hid (((ChgK.of0 (b := b) q).tr0 c12).ints FY.out)
  replace NZ := Lib.hid (((ChgK.of0 (b := b) q).tr0 c12).heap NZ.out (by decide) (by decide))
  replace FZ := Lib.hid (((ChgK.of0 (b := b) q).tr0 c12).ints FZ.out)
  replace H11 := Lib.hid ((H11.out).tr (.of0 (q.tr c12)))
  have H12 := H11
  clear q c12 H11
  obtain ⟨xr0, xr1, xr2, xr3⟩ := cellsL4 NZ.out
  clear xr0 xr1 xr3
  go_wp2_with fail
  clear xr2
  have q := (Chg.refl [] w12).alloc (.cells #[.int .i64 1, .int .i64 2, .int .i64 3] 3)
  have g := heap_alloc_same w12 (.cells #[.int .i64 1, .int .i64 2, .int .i64 3] 3)
  have k := sameInts_any (w12.alloc (.cells #[.int .i64 1, .int .i64 2, .int .i64 3] 3)) Za (some ⟨w12.heap.size, 0, none⟩) 3 Zc 3 3 [1, 2, 3] [1, 2, 3] rfl rfl (by decide) ((ownInts_read FZ.out.own).1.keep q.kp) (fun i hi => ⟨w12.heap.size, 0, rfl, by
    rw [cell_of_cells g]
    rcases (show i = 0 ∨ i = 1 ∨ i = 2 by simp at hi; omega) with rfl | rfl | rfl <;> rfl⟩)
  rw [show decide (([1, 2, 3] : List Int) = [1, 2, 3]) = true from by decide] at k
  refine k.mono ?_
  clear k g
  rintro e w13 ⟨rfl, c13⟩
  replace FI := Lib.hid (((ChgK.of0 (b := b) q).tr0 c13).ints FI.out)
  replace NX := Lib.hid (((ChgK.of0 (b := b) q).tr0 c13).heap NX.out (by decide) (by decide))
  replace FX := Lib.hid (((ChgK.of0 (b := b) q).tr0 c13).ints FX.out)
  replace NY := Lib.hid (((ChgK.of0 (b := b) q).tr0 c13).heap NY.out (by decide) (by decide))
  replace FY := Lib.hid (((ChgK.of0 (b := b) q).tr0 c13).ints FY.out)
  replace NZ := Lib.hid (((ChgK.of0 (b := b) q).tr0 c13).heap NZ.out (by decide) (by decide))
  replace FZ := Lib.hid (((ChgK.of0 (b := b) q).tr0 c13).ints FZ.out)
  replace H12 := Lib.hid ((H12.out).tr (.of0 (q.tr c13)))
  have H13 := H12
  clear q c13 H12
  go_wp2_with fail
  go_ret
  exact ⟨rfl, H13.out.done (by rw [HB.out]; exact Nat.le_refl _)⟩
end Go.Proofs.Ytnajhcoimohcaaa

/-
 Package seedlingkit: grammars by hand, by their numbers.
 Conditions: none.
-/
import Derived.Test.YtlklmpjakeedcaaGreatDoorSEnNEk
import Derived.Test.YtlklmpjakeedcaaGreatDoorSEnGRule
set_option linter.unusedVariables false
set_option linter.unusedSimpArgs false
set_option linter.unnecessarySimpa false
namespace Go.Proofs.YtlklmpjakeedcaaGreatDoor
open Go.RowKit Go.MapKept Go.Shelf

def FitGramS (n : Nat) (w : World) (e : Ending) (w' : World) : Prop := ∃ b1 d1 b2 m d2 rs L, e = .returned (.agg #[.slice b1 n d1, .slice b2 m d2]) ∧ m ≤ 50 * n ∧ FG w.heap.size w' b1 n d1 b2 m d2 rs L ∧ Chg [] w w'
set_option maxRecDepth 100000 in
theorem Gram_fitS (w : World) (a : Option Addr) (n c : Nat) (h : BodiesF w a n) (hn : n ≤ 60) : Calls Tryz.prog 25 #[.slice a n c] w (FitGramS n w) := by
 obtain ⟨KL, h1, h2, h3⟩ := h
 have hsum0 := sumL_le KL 50 (fun b hb => (h3 b hb).2)
 have hsum : sumL KL ≤ 3000 := by
  have : 50 * KL.length ≤ 50 * 60 := Nat.mul_le_mul_left _ (by omega)
  omega
 refine (Gram_any w a n c KL h1 h2 (fun b hb => (h3 b hb).1.small (by have := (h3 b hb).2; omega)) hsum (by omega)).mono ?_
 rintro e w' ⟨a1, c1, a2, c2, L, rfl, hL, hR, hN, hc⟩
 obtain ⟨q1, q2, q3, q4, q5⟩ := fit_gram (fun b hb => (h3 b hb).1) hsum (by omega)
 rw [q3, ← h1]
 refine ⟨a1, c1, a2, (gramL KL).nodes.length, c2, (gramL KL).rules, L, rfl, by rw [q4, h1]; exact hsum0, ⟨by rw [q3, h1], by rw [← hL, List.length_map], hR, hN, ?_, by omega, by rw [q4]; exact hsum, fun x hx => q5 x (by rw [← hL]; exact hx)⟩, hc⟩
 rw [hL]
 exact q1
theorem bodies1 {w : World} {a0 : Option Addr} {n0 c0 : Nat} (h0 : FBody w a0 n0 c0) (l0 : n0 ≤ 50) {K : Nat} (hK : w.heap[K]? = some (.cells #[.slice a0 n0 c0] 29 (0, 0))) : BodiesF w (some ⟨K, 0, none⟩) 1 := by
 refine bodiesF_at (by decide) (fun i hi => ?_)
 obtain rfl : i = 0 := by omega
 exact ⟨K, 0, a0, n0, c0, rfl, cell_of_cells hK 0, h0, l0⟩
/-- A grammar of few rules, of one's own. -/
def KnownP (w : World) (e : Ending) (w' : World) : Prop := ∃ n, n ≤ 3 ∧ FitGramS n w e w'

set_option maxRecDepth 100000 in
set_option maxHeartbeats 4000000 in
theorem Infix_fit (w : World) (r l : Int) (s : ByteArray) (q : Int) (hr9 : I64 r) (hl9 : I64 l) (hs9 : s.size ≤ 1000) (hl8 : I64 q) : Calls Tryz.prog 57 #[.int .i64 r, .int .i64 l, .string s, .int .i64 q] w (FitBody 4 w) := by
 obtain ⟨u0, eu0⟩ : ∃ u, u = w := ⟨_, rfl⟩
 rw [← eu0]
 clear eu0
 go_enter Tryz.func57, Tryz.ntmps57
 go_wp2_with fail
 refine (Call_fit u0 r l (by first | exact hr9 | exact hl9 | exact hl8) (by first | exact hr9 | exact hl9 | exact hl8)).mono ?_
 rintro e u1 ⟨r11, n11, c11, rfl, m11, f11, h⟩
 have F11 := Lib.hid (And.intro m11 f11)
 have C0 := Lib.hid h
 clear f11 h
 go_wp2_with fail
 refine (Word_fit u1 s (by exact hs9)).mono ?_
 rintro e u2 ⟨r13, n13, c13, rfl, m13, f13, h⟩
 have F13 := Lib.hid (And.intro m13 f13)
 have C1 := Lib.hid h
 clear f13 h
 go_wp2_with fail
 refine (Call_fit u2 r q (by first | exact hr9 | exact hl9 | exact hl8) (by first | exact hr9 | exact hl9 | exact hl8)).mono ?_
 rintro e u3 ⟨r16, n16, c16, rfl, m16, f16, h⟩
 have F16 := Lib.hid (And.intro m16 f16)
 have C2 := Lib.hid h
 clear f16 h
 go_wp2_with fail
 obtain ⟨k17, ek⟩ : ∃ k, k = u3.heap.size := ⟨_, rfl⟩
 have hb := heap_alloc_same u3 (.cells #[.slice r11 n11 c11, .slice r13 n13 c13, .slice r16 n16 c16] 29)
 have hc := (Chg.refl [] u3).alloc (.cells #[.slice r11 n11 c11, .slice r13 n13 c13, .slice r16 n16 c16] 29)
 obtain ⟨u4, eu⟩ : ∃ u, u = u3.alloc (.cells #[.slice r11 n11 c11, .slice r13 n13 c13, .slice r16 n16 c16] 29) := ⟨_, rfl⟩
 rw [← ek, ← eu] at hb
 rw [← eu] at hc
 rw [← ek, ← eu]
 have K17 := Lib.hid hb
 have C3 := Lib.hid hc
 clear hb hc ek eu
 refine (Of3_fit u4 6 (by decide) r11 n11 c11 (((F11.out.2.chg0 C1.out).chg0 C2.out).chg0 C3.out) r13 n13 c13 ((F13.out.2.chg0 C2.out).chg0 C3.out) r16 n16 c16 (F16.out.2.chg0 C3.out) (by omega) K17.out).mono ?_
 rintro e u5 ⟨r18, n18, c18, rfl, m18, f18, h⟩
 have F18 := Lib.hid (And.intro m18 f18)
 have C4 := Lib.hid h
 clear f18 h
 go_wp2_with fail
 go_ret
 exact ⟨r18, n18, c18, rfl, by omega, F18.out.2, ((((C0.out.tr C1.out).tr C2.out).tr C3.out).tr C4.out)⟩

set_option maxRecDepth 100000 in
set_option maxHeartbeats 8000000 in
theorem known0 (w : World) : Calls Tryz.prog 26 #[.int .i64 0] w (KnownP w) := by
 have hP := fun W => pickK_any 0 12 W (by decide) (by decide) (by decide) (by decide)
 rw [show ((0 : Int) % 12) = 0 from rfl] at hP
 go_enter Tryz.func26, Tryz.ntmps26
 go_wp2_with fail
 refine (hP _).mono ?_
 clear hP
 rintro e u0 ⟨rfl, h0⟩
 have HR := Lib.hid (And.intro (h0.heap (heap_alloc_same w (.cells #[.slice none 0 0, .slice none 0 0] 31)) (by simp)) (((Chg.refl [] w).alloc (.cells #[.slice none 0 0, .slice none 0 0] 31)).tr h0))
 clear h0
 go_wp2_with fail
 refine (Call_fit u0 0 0 (by decide) (by decide)).mono ?_
 rintro e u1 ⟨r7, n7, c7, rfl, m7, f7, h⟩
 have F7 := Lib.hid (And.intro m7 f7)
 have C0 := Lib.hid h
 clear f7 h
 go_wp2_with fail
 refine (Word_fit u1 ⟨#[97]⟩ (by decide)).mono ?_
 rintro e u2 ⟨r8, n8, c8, rfl, m8, f8, h⟩
 have F8 := Lib.hid (And.intro m8 f8)
 have C1 := Lib.hid h
 clear f8 h
 go_wp2_with fail
 refine (Chain_fit u2 r7 n7 c7 (F7.out.2.chg0 C1.out) r8 n8 c8 F8.out.2 (by omega)).mono ?_
 rintro e u3 ⟨r9, n9, c9, rfl, m9, f9, h⟩
 have F9 := Lib.hid (And.intro m9 f9)
 have C2 := Lib.hid h
 clear f9 h
 go_wp2_with fail
 refine (Word_fit u3 ⟨#[98]⟩ (by decide)).mono ?_
 rintro e u4 ⟨r10, n10, c10, rfl, m10, f10, h⟩
 have F10 := Lib.hid (And.intro m10 f10)
 have C3 := Lib.hid h
 clear f10 h
 go_wp2_with fail
 refine (First_fit u4 r9 n9 c9 (F9.out.2.chg0 C3.out) r10 n10 c10 F10.out.2 (by omega)).mono ?_
 rintro e u5 ⟨r11, n11, c11, rfl, m11, f11, h⟩
 have F11 := Lib.hid (And.intro m11 f11)
 have C4 := Lib.hid h
 clear f11 h
 go_wp2_with fail
 obtain ⟨k12, ek⟩ : ∃ k, k = u5.heap.size := ⟨_, rfl⟩
 have hb := heap_alloc_same u5 (.cells #[.slice r11 n11 c11] 29)
 have hc := (Chg.refl [] u5).alloc (.cells #[.slice r11 n11 c11] 29)
 obtain ⟨u6, eu⟩ : ∃ u, u = u5.alloc (.cells #[.slice r11 n11 c11] 29) := ⟨_, rfl⟩
 rw [← ek, ← eu] at hb
 rw [← eu] at hc
 rw [← ek, ← eu]
 have K12 := Lib.hid hb
 have C5 := Lib.hid hc
 clear hb hc ek eu
 have hbod := bodies1 (F11.out.2.chg0 C5.out) (by omega) K12.out
 refine (Gram_fitS u6 _ 1 1 hbod (by decide)).mono ?_
 clear hbod
 rintro e u7 ⟨b1, d1, b2, m2, d2, rs, L, rfl, hm2, fg, h⟩
 have FGr := Lib.hid (And.intro hm2 (And.intro fg h))
 clear hm2 fg h
 have hcc := ((((((C0.out.tr C1.out).tr C2.out).tr C3.out).tr C4.out).tr C5.out).tr FGr.out.2.2)
 have hres := hcc.heap HR.out.1 (by simp)
 obtain ⟨z0, z1⟩ := cells2 hres
 have f0 := free_of_cells hres 0
 have f1 := free_of_cells hres 1
 have HQ := Lib.hid (And.intro hcc hres)
 clear hcc hres
 go_wp2_with fail
 obtain ⟨w6, e6, z, hcs⟩ := two_set9 HQ.out.2 (.slice b1 1 d1) (.slice b2 m2 d2)
 rw [← e6]
 obtain ⟨q0, q1⟩ := cells2 z
 have hlw : w.heap.size < u0.heap.size := lt_of_block HR.out.1
 refine bodyPost_ret (v := .agg #[.slice b1 1 d1, .slice b2 m2 d2]) (by simp [results, Tryz.results26, go_sem, q0, q1, lt_of_block z]) rfl ?_
 have hszc := HQ.out.1.size
 have hfg := FGr.out.2.1.chg hcs (fun k hk => by simp only [List.mem_singleton] at hk; subst hk; exact ⟨.of_cells HQ.out.2 (by decide), .of_cells HQ.out.2 (by decide), .of_cells HQ.out.2 (by decide)⟩)
 refine ⟨1, by decide, b1, d1, b2, m2, d2, rs, L, rfl, FGr.out.1, ⟨hfg.ln, hfg.lm, row_base hfg.rules (by have := (((((C0.out.tr C1.out).tr C2.out).tr C3.out).tr C4.out).tr C5.out).size; have := HR.out.2.size; omega), hfg.nodes.below (by have := (((((C0.out.tr C1.out).tr C2.out).tr C3.out).tr C4.out).tr C5.out).size; have := HR.out.2.size; omega), hfg.wf, hfg.fn, hfg.fm, hfg.fk⟩, (HR.out.2.tr HQ.out.1).trans hcs (fun j hj => .inr (by simp at hj; omega))⟩

set_option maxRecDepth 100000 in
set_option maxHeartbeats 8000000 in
theorem known1 (w : World) : Calls Tryz.prog 26 #[.int .i64 1] w (KnownP w) := by
 have hP := fun W => pickK_any 1 12 W (by decide) (by decide) (by decide) (by decide)
 rw [show ((1 : Int) % 12) = 1 from rfl] at hP
 go_enter Tryz.func26, Tryz.ntmps26
 go_wp2_with fail
 refine (hP _).mono ?_
 clear hP
 rintro e u0 ⟨rfl, h0⟩
 have HR := Lib.hid (And.intro (h0.heap (heap_alloc_same w (.cells #[.slice none 0 0, .slice none 0 0] 31)) (by simp)) (((Chg.refl [] w).alloc (.cells #[.slice none 0 0, .slice none 0 0] 31)).tr h0))
 clear h0
 go_wp2_with fail
 refine (Infix_fit u0 0 1 ⟨#[43]⟩ 2 (by decide) (by decide) (by decide) (by decide)).mono ?_
 rintro e u1 ⟨r16, n16, c16, rfl, m16, f16, h⟩
 have F16 := Lib.hid (And.intro m16 f16)
 have C0 := Lib.hid h
 clear f16 h
 go_wp2_with fail
 refine (Infix_fit u1 0 2 ⟨#[42]⟩ 3 (by decide) (by decide) (by decide) (by decide)).mono ?_
 rintro e u2 ⟨r17, n17, c17, rfl, m17, f17, h⟩
 have F17 := Lib.hid (And.intro m17 f17)
 have C1 := Lib.hid h
 clear f17 h
 go_wp2_with fail
 refine (Word_fit u2 ⟨#[97]⟩ (by decide)).mono ?_
 rintro e u3 ⟨r18, n18, c18, rfl, m18, f18, h⟩
 have F18 := Lib.hid (And.intro m18 f18)
 have C2 := Lib.hid h
 clear f18 h
 go_wp2_with fail
 obtain ⟨k19, ek⟩ : ∃ k, k = u3.heap.size := ⟨_, rfl⟩
 have hb := heap_alloc_same u3 (.cells #[.slice r16 n16 c16, .slice r17 n17 c17, .slice r18 n18 c18] 29)
 have hc := (Chg.refl [] u3).alloc (.cells #[.slice r16 n16 c16, .slice r17 n17 c17, .slice r18 n18 c18] 29)
 obtain ⟨u4, eu⟩ : ∃ u, u = u3.alloc (.cells #[.slice r16 n16 c16, .slice r17 n17 c17, .slice r18 n18 c18] 29) := ⟨_, rfl⟩
 rw [← ek, ← eu] at hb
 rw [← eu] at hc
 rw [← ek, ← eu]
 have K19 := Lib.hid hb
 have C3 := Lib.hid hc
 clear hb hc ek eu
 refine (Of3_fit u4 7 (by decide) r16 n16 c16 (((F16.out.2.chg0 C1.out).chg0 C2.out).chg0 C3.out) r17 n17 c17 ((F17.out.2.chg0 C2.out).chg0 C3.out) r18 n18 c18 (F18.out.2.chg0 C3.out) (by omega) K19.out).mono ?_
 rintro e u5 ⟨r20, n20, c20, rfl, m20, f20, h⟩
 have F20 := Lib.hid (And.intro m20 f20)
 have C4 := Lib.hid h
 clear f20 h
 go_wp2_with fail
 obtain ⟨k21, ek⟩ : ∃ k, k = u5.heap.size := ⟨_, rfl⟩
 have hb := heap_alloc_same u5 (.cells #[.slice r20 n20 c20] 29)
 have hc := (Chg.refl [] u5).alloc (.cells #[.slice r20 n20 c20] 29)
 obtain ⟨u6, eu⟩ : ∃ u, u = u5.alloc (.cells #[.slice r20 n20 c20] 29) := ⟨_, rfl⟩
 rw [← ek, ← eu] at hb
 rw [← eu] at hc
 rw [← ek, ← eu]
 have K21 := Lib.hid hb
 have C5 := Lib.hid hc
 clear hb hc ek eu
 have hbod := bodies1 (F20.out.2.chg0 C5.out) (by omega) K21.out
 refine (Gram_fitS u6 _ 1 1 hbod (by decide)).mono ?_
 clear hbod
 rintro e u7 ⟨b1, d1, b2, m2, d2, rs, L, rfl, hm2, fg, h⟩
 have FGr := Lib.hid (And.intro hm2 (And.intro fg h))
 clear hm2 fg h
 have hcc := ((((((C0.out.tr C1.out).tr C2.out).tr C3.out).tr C4.out).tr C5.out).tr FGr.out.2.2)
 have hres := hcc.heap HR.out.1 (by simp)
 obtain ⟨z0, z1⟩ := cells2 hres
 have f0 := free_of_cells hres 0
 have f1 := free_of_cells hres 1
 have HQ := Lib.hid (And.intro hcc hres)
 clear hcc hres
 go_wp2_with fail
 obtain ⟨w6, e6, z, hcs⟩ := two_set9 HQ.out.2 (.slice b1 1 d1) (.slice b2 m2 d2)
 rw [← e6]
 obtain ⟨q0, q1⟩ := cells2 z
 have hlw : w.heap.size < u0.heap.size := lt_of_block HR.out.1
 refine bodyPost_ret (v := .agg #[.slice b1 1 d1, .slice b2 m2 d2]) (by simp [results, Tryz.results26, go_sem, q0, q1, lt_of_block z]) rfl ?_
 have hszc := HQ.out.1.size
 have hfg := FGr.out.2.1.chg hcs (fun k hk => by simp only [List.mem_singleton] at hk; subst hk; exact ⟨.of_cells HQ.out.2 (by decide), .of_cells HQ.out.2 (by decide), .of_cells HQ.out.2 (by decide)⟩)
 refine ⟨1, by decide, b1, d1, b2, m2, d2, rs, L, rfl, FGr.out.1, ⟨hfg.ln, hfg.lm, row_base hfg.rules (by have := (((((C0.out.tr C1.out).tr C2.out).tr C3.out).tr C4.out).tr C5.out).size; have := HR.out.2.size; omega), hfg.nodes.below (by have := (((((C0.out.tr C1.out).tr C2.out).tr C3.out).tr C4.out).tr C5.out).size; have := HR.out.2.size; omega), hfg.wf, hfg.fn, hfg.fm, hfg.fk⟩, (HR.out.2.tr HQ.out.1).trans hcs (fun j hj => .inr (by simp at hj; omega))⟩

set_option maxRecDepth 100000 in
set_option maxHeartbeats 8000000 in
theorem known2 (w : World) : Calls Tryz.prog 26 #[.int .i64 2] w (KnownP w) := by
 have hP := fun W => pickK_any 2 12 W (by decide) (by decide) (by decide) (by decide)
 rw [show ((2 : Int) % 12) = 2 from rfl] at hP
 go_enter Tryz.func26, Tryz.ntmps26
 go_wp2_with fail
 refine (hP _).mono ?_
 clear hP
 rintro e u0 ⟨rfl, h0⟩
 have HR := Lib.hid (And.intro (h0.heap (heap_alloc_same w (.cells #[.slice none 0 0, .slice none 0 0] 31)) (by simp)) (((Chg.refl [] w).alloc (.cells #[.slice none 0 0, .slice none 0 0] 31)).tr h0))
 clear h0
 go_wp2_with fail
 refine (Call_fit u0 1 0 (by decide) (by decide)).mono ?_
 rintro e u1 ⟨r25, n25, c25, rfl, m25, f25, h⟩
 have F25 := Lib.hid (And.intro m25 f25)
 have C0 := Lib.hid h
 clear f25 h
 go_wp2_with fail
 refine (Word_fit u1 ⟨#[97]⟩ (by decide)).mono ?_
 rintro e u2 ⟨r26, n26, c26, rfl, m26, f26, h⟩
 have F26 := Lib.hid (And.intro m26 f26)
 have C1 := Lib.hid h
 clear f26 h
 go_wp2_with fail
 refine (Chain_fit u2 r25 n25 c25 (F25.out.2.chg0 C1.out) r26 n26 c26 F26.out.2 (by omega)).mono ?_
 rintro e u3 ⟨r27, n27, c27, rfl, m27, f27, h⟩
 have F27 := Lib.hid (And.intro m27 f27)
 have C2 := Lib.hid h
 clear f27 h
 go_wp2_with fail
 refine (Word_fit u3 ⟨#[98]⟩ (by decide)).mono ?_
 rintro e u4 ⟨r28, n28, c28, rfl, m28, f28, h⟩
 have F28 := Lib.hid (And.intro m28 f28)
 have C3 := Lib.hid h
 clear f28 h
 go_wp2_with fail
 refine (First_fit u4 r27 n27 c27 (F27.out.2.chg0 C3.out) r28 n28 c28 F28.out.2 (by omega)).mono ?_
 rintro e u5 ⟨r29, n29, c29, rfl, m29, f29, h⟩
 have F29 := Lib.hid (And.intro m29 f29)
 have C4 := Lib.hid h
 clear f29 h
 go_wp2_with fail
 refine (Call_fit u5 0 0 (by decide) (by decide)).mono ?_
 rintro e u6 ⟨r30, n30, c30, rfl, m30, f30, h⟩
 have F30 := Lib.hid (And.intro m30 f30)
 have C5 := Lib.hid h
 clear f30 h
 go_wp2_with fail
 refine (Word_fit u6 ⟨#[98]⟩ (by decide)).mono ?_
 rintro e u7 ⟨r31, n31, c31, rfl, m31, f31, h⟩
 have F31 := Lib.hid (And.intro m31 f31)
 have C6 := Lib.hid h
 clear f31 h
 go_wp2_with fail
 refine (Chain_fit u7 r30 n30 c30 (F30.out.2.chg0 C6.out) r31 n31 c31 F31.out.2 (by omega)).mono ?_
 rintro e u8 ⟨r32, n32, c32, rfl, m32, f32, h⟩
 have F32 := Lib.hid (And.intro m32 f32)
 have C7 := Lib.hid h
 clear f32 h
 go_wp2_with fail
 refine (Word_fit u8 ⟨#[97]⟩ (by decide)).mono ?_
 rintro e u9 ⟨r33, n33, c33, rfl, m33, f33, h⟩
 have F33 := Lib.hid (And.intro m33 f33)
 have C8 := Lib.hid h
 clear f33 h
 go_wp2_with fail
 refine (First_fit u9 r32 n32 c32 (F32.out.2.chg0 C8.out) r33 n33 c33 F33.out.2 (by omega)).mono ?_
 rintro e u10 ⟨r34, n34, c34, rfl, m34, f34, h⟩
 have F34 := Lib.hid (And.intro m34 f34)
 have C9 := Lib.hid h
 clear f34 h
 go_wp2_with fail
 obtain ⟨k35, ek⟩ : ∃ k, k = u10.heap.size := ⟨_, rfl⟩
 have hb := heap_alloc_same u10 (.cells #[.slice r29 n29 c29, .slice r34 n34 c34] 29)
 have hc := (Chg.refl [] u10).alloc (.cells #[.slice r29 n29 c29, .slice r34 n34 c34] 29)
 obtain ⟨u11, eu⟩ : ∃ u, u = u10.alloc (.cells #[.slice r29 n29 c29, .slice r34 n34 c34] 29) := ⟨_, rfl⟩
 rw [← ek, ← eu] at hb
 rw [← eu] at hc
 rw [← ek, ← eu]
 have K35 := Lib.hid hb
 have C10 := Lib.hid hc
 clear hb hc ek eu
 have hbod := bodies2 ((((((F29.out.2.chg0 C5.out).chg0 C6.out).chg0 C7.out).chg0 C8.out).chg0 C9.out).chg0 C10.out) (by omega) (F34.out.2.chg0 C10.out) (by omega) K35.out
 refine (Gram_fitS u11 _ 2 2 hbod (by decide)).mono ?_
 clear hbod
 rintro e u12 ⟨b1, d1, b2, m2, d2, rs, L, rfl, hm2, fg, h⟩
 have FGr := Lib.hid (And.intro hm2 (And.intro fg h))
 clear hm2 fg h
 have hcc := (((((((((((C0.out.tr C1.out).tr C2.out).tr C3.out).tr C4.out).tr C5.out).tr C6.out).tr C7.out).tr C8.out).tr C9.out).tr C10.out).tr FGr.out.2.2)
 have hres := hcc.heap HR.out.1 (by simp)
 obtain ⟨z0, z1⟩ := cells2 hres
 have f0 := free_of_cells hres 0
 have f1 := free_of_cells hres 1
 have HQ := Lib.hid (And.intro hcc hres)
 clear hcc hres
 go_wp2_with fail
 obtain ⟨w6, e6, z, hcs⟩ := two_set9 HQ.out.2 (.slice b1 2 d1) (.slice b2 m2 d2)
 rw [← e6]
 obtain ⟨q0, q1⟩ := cells2 z
 have hlw : w.heap.size < u0.heap.size := lt_of_block HR.out.1
 refine bodyPost_ret (v := .agg #[.slice b1 2 d1, .slice b2 m2 d2]) (by simp [results, Tryz.results26, go_sem, q0, q1, lt_of_block z]) rfl ?_
 have hszc := HQ.out.1.size
 have hfg := FGr.out.2.1.chg hcs (fun k hk => by simp only [List.mem_singleton] at hk; subst hk; exact ⟨.of_cells HQ.out.2 (by decide), .of_cells HQ.out.2 (by decide), .of_cells HQ.out.2 (by decide)⟩)
 refine ⟨2, by decide, b1, d1, b2, m2, d2, rs, L, rfl, FGr.out.1, ⟨hfg.ln, hfg.lm, row_base hfg.rules (by have := ((((((((((C0.out.tr C1.out).tr C2.out).tr C3.out).tr C4.out).tr C5.out).tr C6.out).tr C7.out).tr C8.out).tr C9.out).tr C10.out).size; have := HR.out.2.size; omega), hfg.nodes.below (by have := ((((((((((C0.out.tr C1.out).tr C2.out).tr C3.out).tr C4.out).tr C5.out).tr C6.out).tr C7.out).tr C8.out).tr C9.out).tr C10.out).size; have := HR.out.2.size; omega), hfg.wf, hfg.fn, hfg.fm, hfg.fk⟩, (HR.out.2.tr HQ.out.1).trans hcs (fun j hj => .inr (by simp at hj; omega))⟩

set_option maxRecDepth 100000 in
set_option maxHeartbeats 8000000 in
theorem known3 (w : World) : Calls Tryz.prog 26 #[.int .i64 3] w (KnownP w) := by
 have hP := fun W => pickK_any 3 12 W (by decide) (by decide) (by decide) (by decide)
 rw [show ((3 : Int) % 12) = 3 from rfl] at hP
 go_enter Tryz.func26, Tryz.ntmps26
 go_wp2_with fail
 refine (hP _).mono ?_
 clear hP
 rintro e u0 ⟨rfl, h0⟩
 have HR := Lib.hid (And.intro (h0.heap (heap_alloc_same w (.cells #[.slice none 0 0, .slice none 0 0] 31)) (by simp)) (((Chg.refl [] w).alloc (.cells #[.slice none 0 0, .slice none 0 0] 31)).tr h0))
 clear h0
 go_wp2_with fail
 refine (Call_fit u0 0 0 (by decide) (by decide)).mono ?_
 rintro e u1 ⟨r39, n39, c39, rfl, m39, f39, h⟩
 have F39 := Lib.hid (And.intro m39 f39)
 have C0 := Lib.hid h
 clear f39 h
 go_wp2_with fail
 refine (Word_fit u1 ⟨#[97]⟩ (by decide)).mono ?_
 rintro e u2 ⟨r40, n40, c40, rfl, m40, f40, h⟩
 have F40 := Lib.hid (And.intro m40 f40)
 have C1 := Lib.hid h
 clear f40 h
 go_wp2_with fail
 refine (Chain_fit u2 r39 n39 c39 (F39.out.2.chg0 C1.out) r40 n40 c40 F40.out.2 (by omega)).mono ?_
 rintro e u3 ⟨r41, n41, c41, rfl, m41, f41, h⟩
 have F41 := Lib.hid (And.intro m41 f41)
 have C2 := Lib.hid h
 clear f41 h
 go_wp2_with fail
 refine (Leaf_fit u3 1 (by decide)).mono ?_
 rintro e u4 ⟨r42, n42, c42, rfl, m42, f42, h⟩
 have F42 := Lib.hid (And.intro m42 f42)
 have C3 := Lib.hid h
 clear f42 h
 go_wp2_with fail
 refine (First_fit u4 r41 n41 c41 (F41.out.2.chg0 C3.out) r42 n42 c42 F42.out.2 (by omega)).mono ?_
 rintro e u5 ⟨r43, n43, c43, rfl, m43, f43, h⟩
 have F43 := Lib.hid (And.intro m43 f43)
 have C4 := Lib.hid h
 clear f43 h
 go_wp2_with fail
 obtain ⟨k44, ek⟩ : ∃ k, k = u5.heap.size := ⟨_, rfl⟩
 have hb := heap_alloc_same u5 (.cells #[.slice r43 n43 c43] 29)
 have hc := (Chg.refl [] u5).alloc (.cells #[.slice r43 n43 c43] 29)
 obtain ⟨u6, eu⟩ : ∃ u, u = u5.alloc (.cells #[.slice r43 n43 c43] 29) := ⟨_, rfl⟩
 rw [← ek, ← eu] at hb
 rw [← eu] at hc
 rw [← ek, ← eu]
 have K44 := Lib.hid hb
 have C5 := Lib.hid hc
 clear hb hc ek eu
 have hbod := bodies1 (F43.out.2.chg0 C5.out) (by omega) K44.out
 refine (Gram_fitS u6 _ 1 1 hbod (by decide)).mono ?_
 clear hbod
 rintro e u7 ⟨b1, d1, b2, m2, d2, rs, L, rfl, hm2, fg, h⟩
 have FGr := Lib.hid (And.intro hm2 (And.intro fg h))
 clear hm2 fg h
 have hcc := ((((((C0.out.tr C1.out).tr C2.out).tr C3.out).tr C4.out).tr C5.out).tr FGr.out.2.2)
 have hres := hcc.heap HR.out.1 (by simp)
 obtain ⟨z0, z1⟩ := cells2 hres
 have f0 := free_of_cells hres 0
 have f1 := free_of_cells hres 1
 have HQ := Lib.hid (And.intro hcc hres)
 clear hcc hres
 go_wp2_with fail
 obtain ⟨w6, e6, z, hcs⟩ := two_set9 HQ.out.2 (.slice b1 1 d1) (.slice b2 m2 d2)
 rw [← e6]
 obtain ⟨q0, q1⟩ := cells2 z
 have hlw : w.heap.size < u0.heap.size := lt_of_block HR.out.1
 refine bodyPost_ret (v := .agg #[.slice b1 1 d1, .slice b2 m2 d2]) (by simp [results, Tryz.results26, go_sem, q0, q1, lt_of_block z]) rfl ?_
 have hszc := HQ.out.1.size
 have hfg := FGr.out.2.1.chg hcs (fun k hk => by simp only [List.mem_singleton] at hk; subst hk; exact ⟨.of_cells HQ.out.2 (by decide), .of_cells HQ.out.2 (by decide), .of_cells HQ.out.2 (by decide)⟩)
 refine ⟨1, by decide, b1, d1, b2, m2, d2, rs, L, rfl, FGr.out.1, ⟨hfg.ln, hfg.lm, row_base hfg.rules (by have := (((((C0.out.tr C1.out).tr C2.out).tr C3.out).tr C4.out).tr C5.out).size; have := HR.out.2.size; omega), hfg.nodes.below (by have := (((((C0.out.tr C1.out).tr C2.out).tr C3.out).tr C4.out).tr C5.out).size; have := HR.out.2.size; omega), hfg.wf, hfg.fn, hfg.fm, hfg.fk⟩, (HR.out.2.tr HQ.out.1).trans hcs (fun j hj => .inr (by simp at hj; omega))⟩

set_option maxRecDepth 100000 in
set_option maxHeartbeats 8000000 in
theorem known4 (w : World) : Calls Tryz.prog 26 #[.int .i64 4] w (KnownP w) := by
 have hP := fun W => pickK_any 4 12 W (by decide) (by decide) (by decide) (by decide)
 rw [show ((4 : Int) % 12) = 4 from rfl] at hP
 go_enter Tryz.func26, Tryz.ntmps26
 go_wp2_with fail
 refine (hP _).mono ?_
 clear hP
 rintro e u0 ⟨rfl, h0⟩
 have HR := Lib.hid (And.intro (h0.heap (heap_alloc_same w (.cells #[.slice none 0 0, .slice none 0 0] 31)) (by simp)) (((Chg.refl [] w).alloc (.cells #[.slice none 0 0, .slice none 0 0] 31)).tr h0))
 clear h0
 go_wp2_with fail
 refine (Call_fit u0 1 0 (by decide) (by decide)).mono ?_
 rintro e u1 ⟨r48, n48, c48, rfl, m48, f48, h⟩
 have F48 := Lib.hid (And.intro m48 f48)
 have C0 := Lib.hid h
 clear f48 h
 go_wp2_with fail
 refine (Call_fit u1 0 0 (by decide) (by decide)).mono ?_
 rintro e u2 ⟨r49, n49, c49, rfl, m49, f49, h⟩
 have F49 := Lib.hid (And.intro m49 f49)
 have C1 := Lib.hid h
 clear f49 h
 go_wp2_with fail
 refine (Chain_fit u2 r48 n48 c48 (F48.out.2.chg0 C1.out) r49 n49 c49 F49.out.2 (by omega)).mono ?_
 rintro e u3 ⟨r50, n50, c50, rfl, m50, f50, h⟩
 have F50 := Lib.hid (And.intro m50 f50)
 have C2 := Lib.hid h
 clear f50 h
 go_wp2_with fail
 refine (Word_fit u3 ⟨#[97]⟩ (by decide)).mono ?_
 rintro e u4 ⟨r51, n51, c51, rfl, m51, f51, h⟩
 have F51 := Lib.hid (And.intro m51 f51)
 have C3 := Lib.hid h
 clear f51 h
 go_wp2_with fail
 refine (First_fit u4 r50 n50 c50 (F50.out.2.chg0 C3.out) r51 n51 c51 F51.out.2 (by omega)).mono ?_
 rintro e u5 ⟨r52, n52, c52, rfl, m52, f52, h⟩
 have F52 := Lib.hid (And.intro m52 f52)
 have C4 := Lib.hid h
 clear f52 h
 go_wp2_with fail
 refine (Call_fit u5 0 0 (by decide) (by decide)).mono ?_
 rintro e u6 ⟨r53, n53, c53, rfl, m53, f53, h⟩
 have F53 := Lib.hid (And.intro m53 f53)
 have C5 := Lib.hid h
 clear f53 h
 go_wp2_with fail
 refine (Word_fit u6 ⟨#[98]⟩ (by decide)).mono ?_
 rintro e u7 ⟨r54, n54, c54, rfl, m54, f54, h⟩
 have F54 := Lib.hid (And.intro m54 f54)
 have C6 := Lib.hid h
 clear f54 h
 go_wp2_with fail
 refine (Chain_fit u7 r53 n53 c53 (F53.out.2.chg0 C6.out) r54 n54 c54 F54.out.2 (by omega)).mono ?_
 rintro e u8 ⟨r55, n55, c55, rfl, m55, f55, h⟩
 have F55 := Lib.hid (And.intro m55 f55)
 have C7 := Lib.hid h
 clear f55 h
 go_wp2_with fail
 refine (Leaf_fit u8 1 (by decide)).mono ?_
 rintro e u9 ⟨r56, n56, c56, rfl, m56, f56, h⟩
 have F56 := Lib.hid (And.intro m56 f56)
 have C8 := Lib.hid h
 clear f56 h
 go_wp2_with fail
 refine (First_fit u9 r55 n55 c55 (F55.out.2.chg0 C8.out) r56 n56 c56 F56.out.2 (by omega)).mono ?_
 rintro e u10 ⟨r57, n57, c57, rfl, m57, f57, h⟩
 have F57 := Lib.hid (And.intro m57 f57)
 have C9 := Lib.hid h
 clear f57 h
 go_wp2_with fail
 obtain ⟨k58, ek⟩ : ∃ k, k = u10.heap.size := ⟨_, rfl⟩
 have hb := heap_alloc_same u10 (.cells #[.slice r52 n52 c52, .slice r57 n57 c57] 29)
 have hc := (Chg.refl [] u10).alloc (.cells #[.slice r52 n52 c52, .slice r57 n57 c57] 29)
 obtain ⟨u11, eu⟩ : ∃ u, u = u10.alloc (.cells #[.slice r52 n52 c52, .slice r57 n57 c57] 29) := ⟨_, rfl⟩
 rw [← ek, ← eu] at hb
 rw [← eu] at hc
 rw [← ek, ← eu]
 have K58 := Lib.hid hb
 have C10 := Lib.hid hc
 clear hb hc ek eu
 have hbod := bodies2 ((((((F52.out.2.chg0 C5.out).chg0 C6.out).chg0 C7.out).chg0 C8.out).chg0 C9.out).chg0 C10.out) (by omega) (F57.out.2.chg0 C10.out) (by omega) K58.out
 refine (Gram_fitS u11 _ 2 2 hbod (by decide)).mono ?_
 clear hbod
 rintro e u12 ⟨b1, d1, b2, m2, d2, rs, L, rfl, hm2, fg, h⟩
 have FGr := Lib.hid (And.intro hm2 (And.intro fg h))
 clear hm2 fg h
 have hcc := (((((((((((C0.out.tr C1.out).tr C2.out).tr C3.out).tr C4.out).tr C5.out).tr C6.out).tr C7.out).tr C8.out).tr C9.out).tr C10.out).tr FGr.out.2.2)
 have hres := hcc.heap HR.out.1 (by simp)
 obtain ⟨z0, z1⟩ := cells2 hres
 have f0 := free_of_cells hres 0
 have f1 := free_of_cells hres 1
 have HQ := Lib.hid (And.intro hcc hres)
 clear hcc hres
 go_wp2_with fail
 obtain ⟨w6, e6, z, hcs⟩ := two_set9 HQ.out.2 (.slice b1 2 d1) (.slice b2 m2 d2)
 rw [← e6]
 obtain ⟨q0, q1⟩ := cells2 z
 have hlw : w.heap.size < u0.heap.size := lt_of_block HR.out.1
 refine bodyPost_ret (v := .agg #[.slice b1 2 d1, .slice b2 m2 d2]) (by simp [results, Tryz.results26, go_sem, q0, q1, lt_of_block z]) rfl ?_
 have hszc := HQ.out.1.size
 have hfg := FGr.out.2.1.chg hcs (fun k hk => by simp only [List.mem_singleton] at hk; subst hk; exact ⟨.of_cells HQ.out.2 (by decide), .of_cells HQ.out.2 (by decide), .of_cells HQ.out.2 (by decide)⟩)
 refine ⟨2, by decide, b1, d1, b2, m2, d2, rs, L, rfl, FGr.out.1, ⟨hfg.ln, hfg.lm, row_base hfg.rules (by have := ((((((((((C0.out.tr C1.out).tr C2.out).tr C3.out).tr C4.out).tr C5.out).tr C6.out).tr C7.out).tr C8.out).tr C9.out).tr C10.out).size; have := HR.out.2.size; omega), hfg.nodes.below (by have := ((((((((((C0.out.tr C1.out).tr C2.out).tr C3.out).tr C4.out).tr C5.out).tr C6.out).tr C7.out).tr C8.out).tr C9.out).tr C10.out).size; have := HR.out.2.size; omega), hfg.wf, hfg.fn, hfg.fm, hfg.fk⟩, (HR.out.2.tr HQ.out.1).trans hcs (fun j hj => .inr (by simp at hj; omega))⟩

set_option maxRecDepth 100000 in
set_option maxHeartbeats 8000000 in
theorem known5 (w : World) : Calls Tryz.prog 26 #[.int .i64 5] w (KnownP w) := by
 have hP := fun W => pickK_any 5 12 W (by decide) (by decide) (by decide) (by decide)
 rw [show ((5 : Int) % 12) = 5 from rfl] at hP
 go_enter Tryz.func26, Tryz.ntmps26
 go_wp2_with fail
 refine (hP _).mono ?_
 clear hP
 rintro e u0 ⟨rfl, h0⟩
 have HR := Lib.hid (And.intro (h0.heap (heap_alloc_same w (.cells #[.slice none 0 0, .slice none 0 0] 31)) (by simp)) (((Chg.refl [] w).alloc (.cells #[.slice none 0 0, .slice none 0 0] 31)).tr h0))
 clear h0
 go_wp2_with fail
 refine (Call_fit u0 0 0 (by decide) (by decide)).mono ?_
 rintro e u1 ⟨r62, n62, c62, rfl, m62, f62, h⟩
 have F62 := Lib.hid (And.intro m62 f62)
 have C0 := Lib.hid h
 clear f62 h
 go_wp2_with fail
 refine (In_fit u1 11 (by decide) r62 n62 c62 F62.out.2 (by omega)).mono ?_
 rintro e u2 ⟨r63, n63, c63, rfl, m63, f63, h⟩
 have F63 := Lib.hid (And.intro m63 f63)
 have C1 := Lib.hid h
 clear f63 h
 go_wp2_with fail
 refine (Word_fit u2 ⟨#[97]⟩ (by decide)).mono ?_
 rintro e u3 ⟨r64, n64, c64, rfl, m64, f64, h⟩
 have F64 := Lib.hid (And.intro m64 f64)
 have C2 := Lib.hid h
 clear f64 h
 go_wp2_with fail
 refine (Chain_fit u3 r63 n63 c63 (F63.out.2.chg0 C2.out) r64 n64 c64 F64.out.2 (by omega)).mono ?_
 rintro e u4 ⟨r65, n65, c65, rfl, m65, f65, h⟩
 have F65 := Lib.hid (And.intro m65 f65)
 have C3 := Lib.hid h
 clear f65 h
 go_wp2_with fail
 refine (Call_fit u4 0 0 (by decide) (by decide)).mono ?_
 rintro e u5 ⟨r66, n66, c66, rfl, m66, f66, h⟩
 have F66 := Lib.hid (And.intro m66 f66)
 have C4 := Lib.hid h
 clear f66 h
 go_wp2_with fail
 refine (Word_fit u5 ⟨#[98]⟩ (by decide)).mono ?_
 rintro e u6 ⟨r67, n67, c67, rfl, m67, f67, h⟩
 have F67 := Lib.hid (And.intro m67 f67)
 have C5 := Lib.hid h
 clear f67 h
 go_wp2_with fail
 refine (Chain_fit u6 r66 n66 c66 (F66.out.2.chg0 C5.out) r67 n67 c67 F67.out.2 (by omega)).mono ?_
 rintro e u7 ⟨r68, n68, c68, rfl, m68, f68, h⟩
 have F68 := Lib.hid (And.intro m68 f68)
 have C6 := Lib.hid h
 clear f68 h
 go_wp2_with fail
 refine (Word_fit u7 ⟨#[97]⟩ (by decide)).mono ?_
 rintro e u8 ⟨r69, n69, c69, rfl, m69, f69, h⟩
 have F69 := Lib.hid (And.intro m69 f69)
 have C7 := Lib.hid h
 clear f69 h
 go_wp2_with fail
 refine (In_fit u8 12 (by decide) r69 n69 c69 F69.out.2 (by omega)).mono ?_
 rintro e u9 ⟨r70, n70, c70, rfl, m70, f70, h⟩
 have F70 := Lib.hid (And.intro m70 f70)
 have C8 := Lib.hid h
 clear f70 h
 go_wp2_with fail
 refine (Leaf_fit u9 2 (by decide)).mono ?_
 rintro e u10 ⟨r71, n71, c71, rfl, m71, f71, h⟩
 have F71 := Lib.hid (And.intro m71 f71)
 have C9 := Lib.hid h
 clear f71 h
 go_wp2_with fail
 refine (Chain_fit u10 r70 n70 c70 (F70.out.2.chg0 C9.out) r71 n71 c71 F71.out.2 (by omega)).mono ?_
 rintro e u11 ⟨r72, n72, c72, rfl, m72, f72, h⟩
 have F72 := Lib.hid (And.intro m72 f72)
 have C10 := Lib.hid h
 clear f72 h
 go_wp2_with fail
 obtain ⟨k73, ek⟩ : ∃ k, k = u11.heap.size := ⟨_, rfl⟩
 have hb := heap_alloc_same u11 (.cells #[.slice r65 n65 c65, .slice r68 n68 c68, .slice r72 n72 c72] 29)
 have hc := (Chg.refl [] u11).alloc (.cells #[.slice r65 n65 c65, .slice r68 n68 c68, .slice r72 n72 c72] 29)
 obtain ⟨u12, eu⟩ : ∃ u, u = u11.alloc (.cells #[.slice r65 n65 c65, .slice r68 n68 c68, .slice r72 n72 c72] 29) := ⟨_, rfl⟩
 rw [← ek, ← eu] at hb
 rw [← eu] at hc
 rw [← ek, ← eu]
 have K73 := Lib.hid hb
 have C11 := Lib.hid hc
 clear hb hc ek eu
 refine (Of3_fit u12 7 (by decide) r65 n65 c65 ((((((((F65.out.2.chg0 C4.out).chg0 C5.out).chg0 C6.out).chg0 C7.out).chg0 C8.out).chg0 C9.out).chg0 C10.out).chg0 C11.out) r68 n68 c68 (((((F68.out.2.chg0 C7.out).chg0 C8.out).chg0 C9.out).chg0 C10.out).chg0 C11.out) r72 n72 c72 (F72.out.2.chg0 C11.out) (by omega) K73.out).mono ?_
 rintro e u13 ⟨r74, n74, c74, rfl, m74, f74, h⟩
 have F74 := Lib.hid (And.intro m74 f74)
 have C12 := Lib.hid h
 clear f74 h
 go_wp2_with fail
 obtain ⟨k75, ek⟩ : ∃ k, k = u13.heap.size := ⟨_, rfl⟩
 have hb := heap_alloc_same u13 (.cells #[.slice r74 n74 c74] 29)
 have hc := (Chg.refl [] u13).alloc (.cells #[.slice r74 n74 c74] 29)
 obtain ⟨u14, eu⟩ : ∃ u, u = u13.alloc (.cells #[.slice r74 n74 c74] 29) := ⟨_, rfl⟩
 rw [← ek, ← eu] at hb
 rw [← eu] at hc
 rw [← ek, ← eu]
 have K75 := Lib.hid hb
 have C13 := Lib.hid hc
 clear hb hc ek eu
 have hbod := bodies1 (F74.out.2.chg0 C13.out) (by omega) K75.out
 refine (Gram_fitS u14 _ 1 1 hbod (by decide)).mono ?_
 clear hbod
 rintro e u15 ⟨b1, d1, b2, m2, d2, rs, L, rfl, hm2, fg, h⟩
 have FGr := Lib.hid (And.intro hm2 (And.intro fg h))
 clear hm2 fg h
 have hcc := ((((((((((((((C0.out.tr C1.out).tr C2.out).tr C3.out).tr C4.out).tr C5.out).tr C6.out).tr C7.out).tr C8.out).tr C9.out).tr C10.out).tr C11.out).tr C12.out).tr C13.out).tr FGr.out.2.2)
 have hres := hcc.heap HR.out.1 (by simp)
 obtain ⟨z0, z1⟩ := cells2 hres
 have f0 := free_of_cells hres 0
 have f1 := free_of_cells hres 1
 have HQ := Lib.hid (And.intro hcc hres)
 clear hcc hres
 go_wp2_with fail
 obtain ⟨w6, e6, z, hcs⟩ := two_set9 HQ.out.2 (.slice b1 1 d1) (.slice b2 m2 d2)
 rw [← e6]
 obtain ⟨q0, q1⟩ := cells2 z
 have hlw : w.heap.size < u0.heap.size := lt_of_block HR.out.1
 refine bodyPost_ret (v := .agg #[.slice b1 1 d1, .slice b2 m2 d2]) (by simp [results, Tryz.results26, go_sem, q0, q1, lt_of_block z]) rfl ?_
 have hszc := HQ.out.1.size
 have hfg := FGr.out.2.1.chg hcs (fun k hk => by simp only [List.mem_singleton] at hk; subst hk; exact ⟨.of_cells HQ.out.2 (by decide), .of_cells HQ.out.2 (by decide), .of_cells HQ.out.2 (by decide)⟩)
 refine ⟨1, by decide, b1, d1, b2, m2, d2, rs, L, rfl, FGr.out.1, ⟨hfg.ln, hfg.lm, row_base hfg.rules (by have := (((((((((((((C0.out.tr C1.out).tr C2.out).tr C3.out).tr C4.out).tr C5.out).tr C6.out).tr C7.out).tr C8.out).tr C9.out).tr C10.out).tr C11.out).tr C12.out).tr C13.out).size; have := HR.out.2.size; omega), hfg.nodes.below (by have := (((((((((((((C0.out.tr C1.out).tr C2.out).tr C3.out).tr C4.out).tr C5.out).tr C6.out).tr C7.out).tr C8.out).tr C9.out).tr C10.out).tr C11.out).tr C12.out).tr C13.out).size; have := HR.out.2.size; omega), hfg.wf, hfg.fn, hfg.fm, hfg.fk⟩, (HR.out.2.tr HQ.out.1).trans hcs (fun j hj => .inr (by simp at hj; omega))⟩

set_option maxRecDepth 100000 in
set_option maxHeartbeats 8000000 in
theorem known6 (w : World) : Calls Tryz.prog 26 #[.int .i64 6] w (KnownP w) := by
 have hP := fun W => pickK_any 6 12 W (by decide) (by decide) (by decide) (by decide)
 rw [show ((6 : Int) % 12) = 6 from rfl] at hP
 go_enter Tryz.func26, Tryz.ntmps26
 go_wp2_with fail
 refine (hP _).mono ?_
 clear hP
 rintro e u0 ⟨rfl, h0⟩
 have HR := Lib.hid (And.intro (h0.heap (heap_alloc_same w (.cells #[.slice none 0 0, .slice none 0 0] 31)) (by simp)) (((Chg.refl [] w).alloc (.cells #[.slice none 0 0, .slice none 0 0] 31)).tr h0))
 clear h0
 go_wp2_with fail
 refine (Call_fit u0 1 0 (by decide) (by decide)).mono ?_
 rintro e u1 ⟨r79, n79, c79, rfl, m79, f79, h⟩
 have F79 := Lib.hid (And.intro m79 f79)
 have C0 := Lib.hid h
 clear f79 h
 go_wp2_with fail
 refine (In_fit u1 8 (by decide) r79 n79 c79 F79.out.2 (by omega)).mono ?_
 rintro e u2 ⟨r80, n80, c80, rfl, m80, f80, h⟩
 have F80 := Lib.hid (And.intro m80 f80)
 have C1 := Lib.hid h
 clear f80 h
 go_wp2_with fail
 refine (Call_fit u2 2 0 (by decide) (by decide)).mono ?_
 rintro e u3 ⟨r81, n81, c81, rfl, m81, f81, h⟩
 have F81 := Lib.hid (And.intro m81 f81)
 have C2 := Lib.hid h
 clear f81 h
 go_wp2_with fail
 refine (In_fit u3 10 (by decide) r81 n81 c81 F81.out.2 (by omega)).mono ?_
 rintro e u4 ⟨r82, n82, c82, rfl, m82, f82, h⟩
 have F82 := Lib.hid (And.intro m82 f82)
 have C3 := Lib.hid h
 clear f82 h
 go_wp2_with fail
 refine (Chain_fit u4 r80 n80 c80 ((F80.out.2.chg0 C2.out).chg0 C3.out) r82 n82 c82 F82.out.2 (by omega)).mono ?_
 rintro e u5 ⟨r83, n83, c83, rfl, m83, f83, h⟩
 have F83 := Lib.hid (And.intro m83 f83)
 have C4 := Lib.hid h
 clear f83 h
 go_wp2_with fail
 refine (Call_fit u5 2 0 (by decide) (by decide)).mono ?_
 rintro e u6 ⟨r84, n84, c84, rfl, m84, f84, h⟩
 have F84 := Lib.hid (And.intro m84 f84)
 have C5 := Lib.hid h
 clear f84 h
 go_wp2_with fail
 refine (Word_fit u6 ⟨#[98]⟩ (by decide)).mono ?_
 rintro e u7 ⟨r85, n85, c85, rfl, m85, f85, h⟩
 have F85 := Lib.hid (And.intro m85 f85)
 have C6 := Lib.hid h
 clear f85 h
 go_wp2_with fail
 refine (Chain_fit u7 r84 n84 c84 (F84.out.2.chg0 C6.out) r85 n85 c85 F85.out.2 (by omega)).mono ?_
 rintro e u8 ⟨r86, n86, c86, rfl, m86, f86, h⟩
 have F86 := Lib.hid (And.intro m86 f86)
 have C7 := Lib.hid h
 clear f86 h
 go_wp2_with fail
 refine (Word_fit u8 ⟨#[97, 98]⟩ (by decide)).mono ?_
 rintro e u9 ⟨r87, n87, c87, rfl, m87, f87, h⟩
 have F87 := Lib.hid (And.intro m87 f87)
 have C8 := Lib.hid h
 clear f87 h
 go_wp2_with fail
 refine (First_fit u9 r86 n86 c86 (F86.out.2.chg0 C8.out) r87 n87 c87 F87.out.2 (by omega)).mono ?_
 rintro e u10 ⟨r88, n88, c88, rfl, m88, f88, h⟩
 have F88 := Lib.hid (And.intro m88 f88)
 have C9 := Lib.hid h
 clear f88 h
 go_wp2_with fail
 refine (Call_fit u10 1 0 (by decide) (by decide)).mono ?_
 rintro e u11 ⟨r89, n89, c89, rfl, m89, f89, h⟩
 have F89 := Lib.hid (And.intro m89 f89)
 have C10 := Lib.hid h
 clear f89 h
 go_wp2_with fail
 refine (Word_fit u11 ⟨#[97]⟩ (by decide)).mono ?_
 rintro e u12 ⟨r90, n90, c90, rfl, m90, f90, h⟩
 have F90 := Lib.hid (And.intro m90 f90)
 have C11 := Lib.hid h
 clear f90 h
 go_wp2_with fail
 refine (Chain_fit u12 r89 n89 c89 (F89.out.2.chg0 C11.out) r90 n90 c90 F90.out.2 (by omega)).mono ?_
 rintro e u13 ⟨r91, n91, c91, rfl, m91, f91, h⟩
 have F91 := Lib.hid (And.intro m91 f91)
 have C12 := Lib.hid h
 clear f91 h
 go_wp2_with fail
 refine (Among_fit u13 ⟨#[97, 98, 43]⟩ (by decide)).mono ?_
 rintro e u14 ⟨r92, n92, c92, rfl, m92, f92, h⟩
 have F92 := Lib.hid (And.intro m92 f92)
 have C13 := Lib.hid h
 clear f92 h
 go_wp2_with fail
 refine (First_fit u14 r91 n91 c91 (F91.out.2.chg0 C13.out) r92 n92 c92 F92.out.2 (by omega)).mono ?_
 rintro e u15 ⟨r93, n93, c93, rfl, m93, f93, h⟩
 have F93 := Lib.hid (And.intro m93 f93)
 have C14 := Lib.hid h
 clear f93 h
 go_wp2_with fail
 obtain ⟨k94, ek⟩ : ∃ k, k = u15.heap.size := ⟨_, rfl⟩
 have hb := heap_alloc_same u15 (.cells #[.slice r83 n83 c83, .slice r88 n88 c88, .slice r93 n93 c93] 29)
 have hc := (Chg.refl [] u15).alloc (.cells #[.slice r83 n83 c83, .slice r88 n88 c88, .slice r93 n93 c93] 29)
 obtain ⟨u16, eu⟩ : ∃ u, u = u15.alloc (.cells #[.slice r83 n83 c83, .slice r88 n88 c88, .slice r93 n93 c93] 29) := ⟨_, rfl⟩
 rw [← ek, ← eu] at hb
 rw [← eu] at hc
 rw [← ek, ← eu]
 have K94 := Lib.hid hb
 have C15 := Lib.hid hc
 clear hb hc ek eu
 have hbod := bodies3 (((((((((((F83.out.2.chg0 C5.out).chg0 C6.out).chg0 C7.out).chg0 C8.out).chg0 C9.out).chg0 C10.out).chg0 C11.out).chg0 C12.out).chg0 C13.out).chg0 C14.out).chg0 C15.out) (by omega) ((((((F88.out.2.chg0 C10.out).chg0 C11.out).chg0 C12.out).chg0 C13.out).chg0 C14.out).chg0 C15.out) (by omega) (F93.out.2.chg0 C15.out) (by omega) K94.out
 refine (Gram_fitS u16 _ 3 3 hbod (by decide)).mono ?_
 clear hbod
 rintro e u17 ⟨b1, d1, b2, m2, d2, rs, L, rfl, hm2, fg, h⟩
 have FGr := Lib.hid (And.intro hm2 (And.intro fg h))
 clear hm2 fg h
 have hcc := ((((((((((((((((C0.out.tr C1.out).tr C2.out).tr C3.out).tr C4.out).tr C5.out).tr C6.out).tr C7.out).tr C8.out).tr C9.out).tr C10.out).tr C11.out).tr C12.out).tr C13.out).tr C14.out).tr C15.out).tr FGr.out.2.2)
 have hres := hcc.heap HR.out.1 (by simp)
 obtain ⟨z0, z1⟩ := cells2 hres
 have f0 := free_of_cells hres 0
 have f1 := free_of_cells hres 1
 have HQ := Lib.hid (And.intro hcc hres)
 clear hcc hres
 go_wp2_with fail
 obtain ⟨w6, e6, z, hcs⟩ := two_set9 HQ.out.2 (.slice b1 3 d1) (.slice b2 m2 d2)
 rw [← e6]
 obtain ⟨q0, q1⟩ := cells2 z
 have hlw : w.heap.size < u0.heap.size := lt_of_block HR.out.1
 refine bodyPost_ret (v := .agg #[.slice b1 3 d1, .slice b2 m2 d2]) (by simp [results, Tryz.results26, go_sem, q0, q1, lt_of_block z]) rfl ?_
 have hszc := HQ.out.1.size
 have hfg := FGr.out.2.1.chg hcs (fun k hk => by simp only [List.mem_singleton] at hk; subst hk; exact ⟨.of_cells HQ.out.2 (by decide), .of_cells HQ.out.2 (by decide), .of_cells HQ.out.2 (by decide)⟩)
 refine ⟨3, by decide, b1, d1, b2, m2, d2, rs, L, rfl, FGr.out.1, ⟨hfg.ln, hfg.lm, row_base hfg.rules (by have := (((((((((((((((C0.out.tr C1.out).tr C2.out).tr C3.out).tr C4.out).tr C5.out).tr C6.out).tr C7.out).tr C8.out).tr C9.out).tr C10.out).tr C11.out).tr C12.out).tr C13.out).tr C14.out).tr C15.out).size; have := HR.out.2.size; omega), hfg.nodes.below (by have := (((((((((((((((C0.out.tr C1.out).tr C2.out).tr C3.out).tr C4.out).tr C5.out).tr C6.out).tr C7.out).tr C8.out).tr C9.out).tr C10.out).tr C11.out).tr C12.out).tr C13.out).tr C14.out).tr C15.out).size; have := HR.out.2.size; omega), hfg.wf, hfg.fn, hfg.fm, hfg.fk⟩, (HR.out.2.tr HQ.out.1).trans hcs (fun j hj => .inr (by simp at hj; omega))⟩

set_option maxRecDepth 100000 in
set_option maxHeartbeats 8000000 in
theorem known7 (w : World) : Calls Tryz.prog 26 #[.int .i64 7] w (KnownP w) := by
 have hP := fun W => pickK_any 7 12 W (by decide) (by decide) (by decide) (by decide)
 rw [show ((7 : Int) % 12) = 7 from rfl] at hP
 go_enter Tryz.func26, Tryz.ntmps26
 go_wp2_with fail
 refine (hP _).mono ?_
 clear hP
 rintro e u0 ⟨rfl, h0⟩
 have HR := Lib.hid (And.intro (h0.heap (heap_alloc_same w (.cells #[.slice none 0 0, .slice none 0 0] 31)) (by simp)) (((Chg.refl [] w).alloc (.cells #[.slice none 0 0, .slice none 0 0] 31)).tr h0))
 clear h0
 go_wp2_with fail
 refine (Call_fit u0 0 0 (by decide) (by decide)).mono ?_
 rintro e u1 ⟨r98, n98, c98, rfl, m98, f98, h⟩
 have F98 := Lib.hid (And.intro m98 f98)
 have C0 := Lib.hid h
 clear f98 h
 go_wp2_with fail
 refine (Call_fit u1 0 0 (by decide) (by decide)).mono ?_
 rintro e u2 ⟨r99, n99, c99, rfl, m99, f99, h⟩
 have F99 := Lib.hid (And.intro m99 f99)
 have C1 := Lib.hid h
 clear f99 h
 go_wp2_with fail
 refine (Chain_fit u2 r98 n98 c98 (F98.out.2.chg0 C1.out) r99 n99 c99 F99.out.2 (by omega)).mono ?_
 rintro e u3 ⟨r100, n100, c100, rfl, m100, f100, h⟩
 have F100 := Lib.hid (And.intro m100 f100)
 have C2 := Lib.hid h
 clear f100 h
 go_wp2_with fail
 refine (Word_fit u3 ⟨#[97]⟩ (by decide)).mono ?_
 rintro e u4 ⟨r101, n101, c101, rfl, m101, f101, h⟩
 have F101 := Lib.hid (And.intro m101 f101)
 have C3 := Lib.hid h
 clear f101 h
 go_wp2_with fail
 refine (Word_fit u4 ⟨#[98]⟩ (by decide)).mono ?_
 rintro e u5 ⟨r102, n102, c102, rfl, m102, f102, h⟩
 have F102 := Lib.hid (And.intro m102 f102)
 have C4 := Lib.hid h
 clear f102 h
 go_wp2_with fail
 obtain ⟨k103, ek⟩ : ∃ k, k = u5.heap.size := ⟨_, rfl⟩
 have hb := heap_alloc_same u5 (.cells #[.slice r100 n100 c100, .slice r101 n101 c101, .slice r102 n102 c102] 29)
 have hc := (Chg.refl [] u5).alloc (.cells #[.slice r100 n100 c100, .slice r101 n101 c101, .slice r102 n102 c102] 29)
 obtain ⟨u6, eu⟩ : ∃ u, u = u5.alloc (.cells #[.slice r100 n100 c100, .slice r101 n101 c101, .slice r102 n102 c102] 29) := ⟨_, rfl⟩
 rw [← ek, ← eu] at hb
 rw [← eu] at hc
 rw [← ek, ← eu]
 have K103 := Lib.hid hb
 have C5 := Lib.hid hc
 clear hb hc ek eu
 refine (Of3_fit u6 7 (by decide) r100 n100 c100 (((F100.out.2.chg0 C3.out).chg0 C4.out).chg0 C5.out) r101 n101 c101 ((F101.out.2.chg0 C4.out).chg0 C5.out) r102 n102 c102 (F102.out.2.chg0 C5.out) (by omega) K103.out).mono ?_
 rintro e u7 ⟨r104, n104, c104, rfl, m104, f104, h⟩
 have F104 := Lib.hid (And.intro m104 f104)
 have C6 := Lib.hid h
 clear f104 h
 go_wp2_with fail
 obtain ⟨k105, ek⟩ : ∃ k, k = u7.heap.size := ⟨_, rfl⟩
 have hb := heap_alloc_same u7 (.cells #[.slice r104 n104 c104] 29)
 have hc := (Chg.refl [] u7).alloc (.cells #[.slice r104 n104 c104] 29)
 obtain ⟨u8, eu⟩ : ∃ u, u = u7.alloc (.cells #[.slice r104 n104 c104] 29) := ⟨_, rfl⟩
 rw [← ek, ← eu] at hb
 rw [← eu] at hc
 rw [← ek, ← eu]
 have K105 := Lib.hid hb
 have C7 := Lib.hid hc
 clear hb hc ek eu
 have hbod := bodies1 (F104.out.2.chg0 C7.out) (by omega) K105.out
 refine (Gram_fitS u8 _ 1 1 hbod (by decide)).mono ?_
 clear hbod
 rintro e u9 ⟨b1, d1, b2, m2, d2, rs, L, rfl, hm2, fg, h⟩
 have FGr := Lib.hid (And.intro hm2 (And.intro fg h))
 clear hm2 fg h
 have hcc := ((((((((C0.out.tr C1.out).tr C2.out).tr C3.out).tr C4.out).tr C5.out).tr C6.out).tr C7.out).tr FGr.out.2.2)
 have hres := hcc.heap HR.out.1 (by simp)
 obtain ⟨z0, z1⟩ := cells2 hres
 have f0 := free_of_cells hres 0
 have f1 := free_of_cells hres 1
 have HQ := Lib.hid (And.intro hcc hres)
 clear hcc hres
 go_wp2_with fail
 obtain ⟨w6, e6, z, hcs⟩ := two_set9 HQ.out.2 (.slice b1 1 d1) (.slice b2 m2 d2)
 rw [← e6]
 obtain ⟨q0, q1⟩ := cells2 z
 have hlw : w.heap.size < u0.heap.size := lt_of_block HR.out.1
 refine bodyPost_ret (v := .agg #[.slice b1 1 d1, .slice b2 m2 d2]) (by simp [results, Tryz.results26, go_sem, q0, q1, lt_of_block z]) rfl ?_
 have hszc := HQ.out.1.size
 have hfg := FGr.out.2.1.chg hcs (fun k hk => by simp only [List.mem_singleton] at hk; subst hk; exact ⟨.of_cells HQ.out.2 (by decide), .of_cells HQ.out.2 (by decide), .of_cells HQ.out.2 (by decide)⟩)
 refine ⟨1, by decide, b1, d1, b2, m2, d2, rs, L, rfl, FGr.out.1, ⟨hfg.ln, hfg.lm, row_base hfg.rules (by have := (((((((C0.out.tr C1.out).tr C2.out).tr C3.out).tr C4.out).tr C5.out).tr C6.out).tr C7.out).size; have := HR.out.2.size; omega), hfg.nodes.below (by have := (((((((C0.out.tr C1.out).tr C2.out).tr C3.out).tr C4.out).tr C5.out).tr C6.out).tr C7.out).size; have := HR.out.2.size; omega), hfg.wf, hfg.fn, hfg.fm, hfg.fk⟩, (HR.out.2.tr HQ.out.1).trans hcs (fun j hj => .inr (by simp at hj; omega))⟩

set_option maxRecDepth 100000 in
set_option maxHeartbeats 8000000 in
theorem known8 (w : World) : Calls Tryz.prog 26 #[.int .i64 8] w (KnownP w) := by
 have hP := fun W => pickK_any 8 12 W (by decide) (by decide) (by decide) (by decide)
 rw [show ((8 : Int) % 12) = 8 from rfl] at hP
 go_enter Tryz.func26, Tryz.ntmps26
 go_wp2_with fail
 refine (hP _).mono ?_
 clear hP
 rintro e u0 ⟨rfl, h0⟩
 have HR := Lib.hid (And.intro (h0.heap (heap_alloc_same w (.cells #[.slice none 0 0, .slice none 0 0] 31)) (by simp)) (((Chg.refl [] w).alloc (.cells #[.slice none 0 0, .slice none 0 0] 31)).tr h0))
 clear h0
 go_wp2_with fail
 refine (Word_fit u0 ⟨#[97]⟩ (by decide)).mono ?_
 rintro e u1 ⟨r109, n109, c109, rfl, m109, f109, h⟩
 have F109 := Lib.hid (And.intro m109 f109)
 have C0 := Lib.hid h
 clear f109 h
 go_wp2_with fail
 refine (Call_fit u1 0 1 (by decide) (by decide)).mono ?_
 rintro e u2 ⟨r110, n110, c110, rfl, m110, f110, h⟩
 have F110 := Lib.hid (And.intro m110 f110)
 have C1 := Lib.hid h
 clear f110 h
 go_wp2_with fail
 refine (Chain_fit u2 r109 n109 c109 (F109.out.2.chg0 C1.out) r110 n110 c110 F110.out.2 (by omega)).mono ?_
 rintro e u3 ⟨r111, n111, c111, rfl, m111, f111, h⟩
 have F111 := Lib.hid (And.intro m111 f111)
 have C2 := Lib.hid h
 clear f111 h
 go_wp2_with fail
 refine (Word_fit u3 ⟨#[98]⟩ (by decide)).mono ?_
 rintro e u4 ⟨r112, n112, c112, rfl, m112, f112, h⟩
 have F112 := Lib.hid (And.intro m112 f112)
 have C3 := Lib.hid h
 clear f112 h
 go_wp2_with fail
 refine (First_fit u4 r111 n111 c111 (F111.out.2.chg0 C3.out) r112 n112 c112 F112.out.2 (by omega)).mono ?_
 rintro e u5 ⟨r113, n113, c113, rfl, m113, f113, h⟩
 have F113 := Lib.hid (And.intro m113 f113)
 have C4 := Lib.hid h
 clear f113 h
 go_wp2_with fail
 obtain ⟨k114, ek⟩ : ∃ k, k = u5.heap.size := ⟨_, rfl⟩
 have hb := heap_alloc_same u5 (.cells #[.slice r113 n113 c113] 29)
 have hc := (Chg.refl [] u5).alloc (.cells #[.slice r113 n113 c113] 29)
 obtain ⟨u6, eu⟩ : ∃ u, u = u5.alloc (.cells #[.slice r113 n113 c113] 29) := ⟨_, rfl⟩
 rw [← ek, ← eu] at hb
 rw [← eu] at hc
 rw [← ek, ← eu]
 have K114 := Lib.hid hb
 have C5 := Lib.hid hc
 clear hb hc ek eu
 have hbod := bodies1 (F113.out.2.chg0 C5.out) (by omega) K114.out
 refine (Gram_fitS u6 _ 1 1 hbod (by decide)).mono ?_
 clear hbod
 rintro e u7 ⟨b1, d1, b2, m2, d2, rs, L, rfl, hm2, fg, h⟩
 have FGr := Lib.hid (And.intro hm2 (And.intro fg h))
 clear hm2 fg h
 have hcc := ((((((C0.out.tr C1.out).tr C2.out).tr C3.out).tr C4.out).tr C5.out).tr FGr.out.2.2)
 have hres := hcc.heap HR.out.1 (by simp)
 obtain ⟨z0, z1⟩ := cells2 hres
 have f0 := free_of_cells hres 0
 have f1 := free_of_cells hres 1
 have HQ := Lib.hid (And.intro hcc hres)
 clear hcc hres
 go_wp2_with fail
 obtain ⟨w6, e6, z, hcs⟩ := two_set9 HQ.out.2 (.slice b1 1 d1) (.slice b2 m2 d2)
 rw [← e6]
 obtain ⟨q0, q1⟩ := cells2 z
 have hlw : w.heap.size < u0.heap.size := lt_of_block HR.out.1
 refine bodyPost_ret (v := .agg #[.slice b1 1 d1, .slice b2 m2 d2]) (by simp [results, Tryz.results26, go_sem, q0, q1, lt_of_block z]) rfl ?_
 have hszc := HQ.out.1.size
 have hfg := FGr.out.2.1.chg hcs (fun k hk => by simp only [List.mem_singleton] at hk; subst hk; exact ⟨.of_cells HQ.out.2 (by decide), .of_cells HQ.out.2 (by decide), .of_cells HQ.out.2 (by decide)⟩)
 refine ⟨1, by decide, b1, d1, b2, m2, d2, rs, L, rfl, FGr.out.1, ⟨hfg.ln, hfg.lm, row_base hfg.rules (by have := (((((C0.out.tr C1.out).tr C2.out).tr C3.out).tr C4.out).tr C5.out).size; have := HR.out.2.size; omega), hfg.nodes.below (by have := (((((C0.out.tr C1.out).tr C2.out).tr C3.out).tr C4.out).tr C5.out).size; have := HR.out.2.size; omega), hfg.wf, hfg.fn, hfg.fm, hfg.fk⟩, (HR.out.2.tr HQ.out.1).trans hcs (fun j hj => .inr (by simp at hj; omega))⟩

set_option maxRecDepth 100000 in
set_option maxHeartbeats 8000000 in
theorem known9 (w : World) : Calls Tryz.prog 26 #[.int .i64 9] w (KnownP w) := by
 have hP := fun W => pickK_any 9 12 W (by decide) (by decide) (by decide) (by decide)
 rw [show ((9 : Int) % 12) = 9 from rfl] at hP
 go_enter Tryz.func26, Tryz.ntmps26
 go_wp2_with fail
 refine (hP _).mono ?_
 clear hP
 rintro e u0 ⟨rfl, h0⟩
 have HR := Lib.hid (And.intro (h0.heap (heap_alloc_same w (.cells #[.slice none 0 0, .slice none 0 0] 31)) (by simp)) (((Chg.refl [] w).alloc (.cells #[.slice none 0 0, .slice none 0 0] 31)).tr h0))
 clear h0
 go_wp2_with fail
 refine (Call_fit u0 1 0 (by decide) (by decide)).mono ?_
 rintro e u1 ⟨r118, n118, c118, rfl, m118, f118, h⟩
 have F118 := Lib.hid (And.intro m118 f118)
 have C0 := Lib.hid h
 clear f118 h
 go_wp2_with fail
 refine (Word_fit u1 ⟨#[43]⟩ (by decide)).mono ?_
 rintro e u2 ⟨r119, n119, c119, rfl, m119, f119, h⟩
 have F119 := Lib.hid (And.intro m119 f119)
 have C1 := Lib.hid h
 clear f119 h
 go_wp2_with fail
 refine (Chain_fit u2 r118 n118 c118 (F118.out.2.chg0 C1.out) r119 n119 c119 F119.out.2 (by omega)).mono ?_
 rintro e u3 ⟨r120, n120, c120, rfl, m120, f120, h⟩
 have F120 := Lib.hid (And.intro m120 f120)
 have C2 := Lib.hid h
 clear f120 h
 go_wp2_with fail
 refine (Call_fit u3 1 3 (by decide) (by decide)).mono ?_
 rintro e u4 ⟨r121, n121, c121, rfl, m121, f121, h⟩
 have F121 := Lib.hid (And.intro m121 f121)
 have C3 := Lib.hid h
 clear f121 h
 go_wp2_with fail
 refine (Word_fit u4 ⟨#[42]⟩ (by decide)).mono ?_
 rintro e u5 ⟨r122, n122, c122, rfl, m122, f122, h⟩
 have F122 := Lib.hid (And.intro m122 f122)
 have C4 := Lib.hid h
 clear f122 h
 go_wp2_with fail
 refine (Chain_fit u5 r121 n121 c121 (F121.out.2.chg0 C4.out) r122 n122 c122 F122.out.2 (by omega)).mono ?_
 rintro e u6 ⟨r123, n123, c123, rfl, m123, f123, h⟩
 have F123 := Lib.hid (And.intro m123 f123)
 have C5 := Lib.hid h
 clear f123 h
 go_wp2_with fail
 refine (First_fit u6 r120 n120 c120 (((F120.out.2.chg0 C3.out).chg0 C4.out).chg0 C5.out) r123 n123 c123 F123.out.2 (by omega)).mono ?_
 rintro e u7 ⟨r124, n124, c124, rfl, m124, f124, h⟩
 have F124 := Lib.hid (And.intro m124 f124)
 have C6 := Lib.hid h
 clear f124 h
 go_wp2_with fail
 refine (In_fit u7 8 (by decide) r124 n124 c124 F124.out.2 (by omega)).mono ?_
 rintro e u8 ⟨r125, n125, c125, rfl, m125, f125, h⟩
 have F125 := Lib.hid (And.intro m125 f125)
 have C7 := Lib.hid h
 clear f125 h
 go_wp2_with fail
 refine (Call_fit u8 1 1 (by decide) (by decide)).mono ?_
 rintro e u9 ⟨r126, n126, c126, rfl, m126, f126, h⟩
 have F126 := Lib.hid (And.intro m126 f126)
 have C8 := Lib.hid h
 clear f126 h
 go_wp2_with fail
 refine (Chain_fit u9 r125 n125 c125 (F125.out.2.chg0 C8.out) r126 n126 c126 F126.out.2 (by omega)).mono ?_
 rintro e u10 ⟨r127, n127, c127, rfl, m127, f127, h⟩
 have F127 := Lib.hid (And.intro m127 f127)
 have C9 := Lib.hid h
 clear f127 h
 go_wp2_with fail
 refine (Word_fit u10 ⟨#[97]⟩ (by decide)).mono ?_
 rintro e u11 ⟨r128, n128, c128, rfl, m128, f128, h⟩
 have F128 := Lib.hid (And.intro m128 f128)
 have C10 := Lib.hid h
 clear f128 h
 go_wp2_with fail
 refine (In_fit u11 9 (by decide) r128 n128 c128 F128.out.2 (by omega)).mono ?_
 rintro e u12 ⟨r129, n129, c129, rfl, m129, f129, h⟩
 have F129 := Lib.hid (And.intro m129 f129)
 have C11 := Lib.hid h
 clear f129 h
 go_wp2_with fail
 refine (Word_fit u12 ⟨#[98]⟩ (by decide)).mono ?_
 rintro e u13 ⟨r130, n130, c130, rfl, m130, f130, h⟩
 have F130 := Lib.hid (And.intro m130 f130)
 have C12 := Lib.hid h
 clear f130 h
 go_wp2_with fail
 refine (Call_fit u13 2 0 (by decide) (by decide)).mono ?_
 rintro e u14 ⟨r131, n131, c131, rfl, m131, f131, h⟩
 have F131 := Lib.hid (And.intro m131 f131)
 have C13 := Lib.hid h
 clear f131 h
 go_wp2_with fail
 refine (Chain_fit u14 r130 n130 c130 (F130.out.2.chg0 C13.out) r131 n131 c131 F131.out.2 (by omega)).mono ?_
 rintro e u15 ⟨r132, n132, c132, rfl, m132, f132, h⟩
 have F132 := Lib.hid (And.intro m132 f132)
 have C14 := Lib.hid h
 clear f132 h
 go_wp2_with fail
 refine (First_fit u15 r129 n129 c129 (((F129.out.2.chg0 C12.out).chg0 C13.out).chg0 C14.out) r132 n132 c132 F132.out.2 (by omega)).mono ?_
 rintro e u16 ⟨r133, n133, c133, rfl, m133, f133, h⟩
 have F133 := Lib.hid (And.intro m133 f133)
 have C15 := Lib.hid h
 clear f133 h
 go_wp2_with fail
 refine (Call_fit u16 0 2 (by decide) (by decide)).mono ?_
 rintro e u17 ⟨r134, n134, c134, rfl, m134, f134, h⟩
 have F134 := Lib.hid (And.intro m134 f134)
 have C16 := Lib.hid h
 clear f134 h
 go_wp2_with fail
 refine (Leaf_fit u17 1 (by decide)).mono ?_
 rintro e u18 ⟨r135, n135, c135, rfl, m135, f135, h⟩
 have F135 := Lib.hid (And.intro m135 f135)
 have C17 := Lib.hid h
 clear f135 h
 go_wp2_with fail
 refine (First_fit u18 r134 n134 c134 (F134.out.2.chg0 C17.out) r135 n135 c135 F135.out.2 (by omega)).mono ?_
 rintro e u19 ⟨r136, n136, c136, rfl, m136, f136, h⟩
 have F136 := Lib.hid (And.intro m136 f136)
 have C18 := Lib.hid h
 clear f136 h
 go_wp2_with fail
 obtain ⟨k137, ek⟩ : ∃ k, k = u19.heap.size := ⟨_, rfl⟩
 have hb := heap_alloc_same u19 (.cells #[.slice r127 n127 c127, .slice r133 n133 c133, .slice r136 n136 c136] 29)
 have hc := (Chg.refl [] u19).alloc (.cells #[.slice r127 n127 c127, .slice r133 n133 c133, .slice r136 n136 c136] 29)
 obtain ⟨u20, eu⟩ : ∃ u, u = u19.alloc (.cells #[.slice r127 n127 c127, .slice r133 n133 c133, .slice r136 n136 c136] 29) := ⟨_, rfl⟩
 rw [← ek, ← eu] at hb
 rw [← eu] at hc
 rw [← ek, ← eu]
 have K137 := Lib.hid hb
 have C19 := Lib.hid hc
 clear hb hc ek eu
 have hbod := bodies3 ((((((((((F127.out.2.chg0 C10.out).chg0 C11.out).chg0 C12.out).chg0 C13.out).chg0 C14.out).chg0 C15.out).chg0 C16.out).chg0 C17.out).chg0 C18.out).chg0 C19.out) (by omega) ((((F133.out.2.chg0 C16.out).chg0 C17.out).chg0 C18.out).chg0 C19.out) (by omega) (F136.out.2.chg0 C19.out) (by omega) K137.out
 refine (Gram_fitS u20 _ 3 3 hbod (by decide)).mono ?_
 clear hbod
 rintro e u21 ⟨b1, d1, b2, m2, d2, rs, L, rfl, hm2, fg, h⟩
 have FGr := Lib.hid (And.intro hm2 (And.intro fg h))
 clear hm2 fg h
 have hcc := ((((((((((((((((((((C0.out.tr C1.out).tr C2.out).tr C3.out).tr C4.out).tr C5.out).tr C6.out).tr C7.out).tr C8.out).tr C9.out).tr C10.out).tr C11.out).tr C12.out).tr C13.out).tr C14.out).tr C15.out).tr C16.out).tr C17.out).tr C18.out).tr C19.out).tr FGr.out.2.2)
 have hres := hcc.heap HR.out.1 (by simp)
 obtain ⟨z0, z1⟩ := cells2 hres
 have f0 := free_of_cells hres 0
 have f1 := free_of_cells hres 1
 have HQ := Lib.hid (And.intro hcc hres)
 clear hcc hres
 go_wp2_with fail
 obtain ⟨w6, e6, z, hcs⟩ := two_set9 HQ.out.2 (.slice b1 3 d1) (.slice b2 m2 d2)
 rw [← e6]
 obtain ⟨q0, q1⟩ := cells2 z
 have hlw : w.heap.size < u0.heap.size := lt_of_block HR.out.1
 refine bodyPost_ret (v := .agg #[.slice b1 3 d1, .slice b2 m2 d2]) (by simp [results, Tryz.results26, go_sem, q0, q1, lt_of_block z]) rfl ?_
 have hszc := HQ.out.1.size
 have hfg := FGr.out.2.1.chg hcs (fun k hk => by simp only [List.mem_singleton] at hk; subst hk; exact ⟨.of_cells HQ.out.2 (by decide), .of_cells HQ.out.2 (by decide), .of_cells HQ.out.2 (by decide)⟩)
 refine ⟨3, by decide, b1, d1, b2, m2, d2, rs, L, rfl, FGr.out.1, ⟨hfg.ln, hfg.lm, row_base hfg.rules (by have := (((((((((((((((((((C0.out.tr C1.out).tr C2.out).tr C3.out).tr C4.out).tr C5.out).tr C6.out).tr C7.out).tr C8.out).tr C9.out).tr C10.out).tr C11.out).tr C12.out).tr C13.out).tr C14.out).tr C15.out).tr C16.out).tr C17.out).tr C18.out).tr C19.out).size; have := HR.out.2.size; omega), hfg.nodes.below (by have := (((((((((((((((((((C0.out.tr C1.out).tr C2.out).tr C3.out).tr C4.out).tr C5.out).tr C6.out).tr C7.out).tr C8.out).tr C9.out).tr C10.out).tr C11.out).tr C12.out).tr C13.out).tr C14.out).tr C15.out).tr C16.out).tr C17.out).tr C18.out).tr C19.out).size; have := HR.out.2.size; omega), hfg.wf, hfg.fn, hfg.fm, hfg.fk⟩, (HR.out.2.tr HQ.out.1).trans hcs (fun j hj => .inr (by simp at hj; omega))⟩

set_option maxRecDepth 100000 in
set_option maxHeartbeats 8000000 in
theorem known10 (w : World) : Calls Tryz.prog 26 #[.int .i64 10] w (KnownP w) := by
 have hP := fun W => pickK_any 10 12 W (by decide) (by decide) (by decide) (by decide)
 rw [show ((10 : Int) % 12) = 10 from rfl] at hP
 go_enter Tryz.func26, Tryz.ntmps26
 go_wp2_with fail
 refine (hP _).mono ?_
 clear hP
 rintro e u0 ⟨rfl, h0⟩
 have HR := Lib.hid (And.intro (h0.heap (heap_alloc_same w (.cells #[.slice none 0 0, .slice none 0 0] 31)) (by simp)) (((Chg.refl [] w).alloc (.cells #[.slice none 0 0, .slice none 0 0] 31)).tr h0))
 clear h0
 go_wp2_with fail
 refine (Call_fit u0 1 0 (by decide) (by decide)).mono ?_
 rintro e u1 ⟨r141, n141, c141, rfl, m141, f141, h⟩
 have F141 := Lib.hid (And.intro m141 f141)
 have C0 := Lib.hid h
 clear f141 h
 go_wp2_with fail
 refine (Word_fit u1 ⟨#[43]⟩ (by decide)).mono ?_
 rintro e u2 ⟨r142, n142, c142, rfl, m142, f142, h⟩
 have F142 := Lib.hid (And.intro m142 f142)
 have C1 := Lib.hid h
 clear f142 h
 go_wp2_with fail
 refine (Call_fit u2 0 0 (by decide) (by decide)).mono ?_
 rintro e u3 ⟨r143, n143, c143, rfl, m143, f143, h⟩
 have F143 := Lib.hid (And.intro m143 f143)
 have C2 := Lib.hid h
 clear f143 h
 go_wp2_with fail
 obtain ⟨k144, ek⟩ : ∃ k, k = u3.heap.size := ⟨_, rfl⟩
 have hb := heap_alloc_same u3 (.cells #[.slice r141 n141 c141, .slice r142 n142 c142, .slice r143 n143 c143] 29)
 have hc := (Chg.refl [] u3).alloc (.cells #[.slice r141 n141 c141, .slice r142 n142 c142, .slice r143 n143 c143] 29)
 obtain ⟨u4, eu⟩ : ∃ u, u = u3.alloc (.cells #[.slice r141 n141 c141, .slice r142 n142 c142, .slice r143 n143 c143] 29) := ⟨_, rfl⟩
 rw [← ek, ← eu] at hb
 rw [← eu] at hc
 rw [← ek, ← eu]
 have K144 := Lib.hid hb
 have C3 := Lib.hid hc
 clear hb hc ek eu
 refine (Of3_fit u4 6 (by decide) r141 n141 c141 (((F141.out.2.chg0 C1.out).chg0 C2.out).chg0 C3.out) r142 n142 c142 ((F142.out.2.chg0 C2.out).chg0 C3.out) r143 n143 c143 (F143.out.2.chg0 C3.out) (by omega) K144.out).mono ?_
 rintro e u5 ⟨r145, n145, c145, rfl, m145, f145, h⟩
 have F145 := Lib.hid (And.intro m145 f145)
 have C4 := Lib.hid h
 clear f145 h
 go_wp2_with fail
 refine (Call_fit u5 1 0 (by decide) (by decide)).mono ?_
 rintro e u6 ⟨r146, n146, c146, rfl, m146, f146, h⟩
 have F146 := Lib.hid (And.intro m146 f146)
 have C5 := Lib.hid h
 clear f146 h
 go_wp2_with fail
 refine (First_fit u6 r145 n145 c145 (F145.out.2.chg0 C5.out) r146 n146 c146 F146.out.2 (by omega)).mono ?_
 rintro e u7 ⟨r147, n147, c147, rfl, m147, f147, h⟩
 have F147 := Lib.hid (And.intro m147 f147)
 have C6 := Lib.hid h
 clear f147 h
 go_wp2_with fail
 refine (Word_fit u7 ⟨#[43]⟩ (by decide)).mono ?_
 rintro e u8 ⟨r148, n148, c148, rfl, m148, f148, h⟩
 have F148 := Lib.hid (And.intro m148 f148)
 have C7 := Lib.hid h
 clear f148 h
 go_wp2_with fail
 refine (In_fit u8 11 (by decide) r148 n148 c148 F148.out.2 (by omega)).mono ?_
 rintro e u9 ⟨r149, n149, c149, rfl, m149, f149, h⟩
 have F149 := Lib.hid (And.intro m149 f149)
 have C8 := Lib.hid h
 clear f149 h
 go_wp2_with fail
 refine (Leaf_fit u9 2 (by decide)).mono ?_
 rintro e u10 ⟨r150, n150, c150, rfl, m150, f150, h⟩
 have F150 := Lib.hid (And.intro m150 f150)
 have C9 := Lib.hid h
 clear f150 h
 go_wp2_with fail
 refine (Call_fit u10 1 0 (by decide) (by decide)).mono ?_
 rintro e u11 ⟨r151, n151, c151, rfl, m151, f151, h⟩
 have F151 := Lib.hid (And.intro m151 f151)
 have C10 := Lib.hid h
 clear f151 h
 go_wp2_with fail
 obtain ⟨k152, ek⟩ : ∃ k, k = u11.heap.size := ⟨_, rfl⟩
 have hb := heap_alloc_same u11 (.cells #[.slice r149 n149 c149, .slice r150 n150 c150, .slice r151 n151 c151] 29)
 have hc := (Chg.refl [] u11).alloc (.cells #[.slice r149 n149 c149, .slice r150 n150 c150, .slice r151 n151 c151] 29)
 obtain ⟨u12, eu⟩ : ∃ u, u = u11.alloc (.cells #[.slice r149 n149 c149, .slice r150 n150 c150, .slice r151 n151 c151] 29) := ⟨_, rfl⟩
 rw [← ek, ← eu] at hb
 rw [← eu] at hc
 rw [← ek, ← eu]
 have K152 := Lib.hid hb
 have C11 := Lib.hid hc
 clear hb hc ek eu
 refine (Of3_fit u12 6 (by decide) r149 n149 c149 (((F149.out.2.chg0 C9.out).chg0 C10.out).chg0 C11.out) r150 n150 c150 ((F150.out.2.chg0 C10.out).chg0 C11.out) r151 n151 c151 (F151.out.2.chg0 C11.out) (by omega) K152.out).mono ?_
 rintro e u13 ⟨r153, n153, c153, rfl, m153, f153, h⟩
 have F153 := Lib.hid (And.intro m153 f153)
 have C12 := Lib.hid h
 clear f153 h
 go_wp2_with fail
 refine (Leaf_fit u13 1 (by decide)).mono ?_
 rintro e u14 ⟨r154, n154, c154, rfl, m154, f154, h⟩
 have F154 := Lib.hid (And.intro m154 f154)
 have C13 := Lib.hid h
 clear f154 h
 go_wp2_with fail
 refine (First_fit u14 r153 n153 c153 (F153.out.2.chg0 C13.out) r154 n154 c154 F154.out.2 (by omega)).mono ?_
 rintro e u15 ⟨r155, n155, c155, rfl, m155, f155, h⟩
 have F155 := Lib.hid (And.intro m155 f155)
 have C14 := Lib.hid h
 clear f155 h
 go_wp2_with fail
 obtain ⟨k156, ek⟩ : ∃ k, k = u15.heap.size := ⟨_, rfl⟩
 have hb := heap_alloc_same u15 (.cells #[.slice r147 n147 c147, .slice r155 n155 c155] 29)
 have hc := (Chg.refl [] u15).alloc (.cells #[.slice r147 n147 c147, .slice r155 n155 c155] 29)
 obtain ⟨u16, eu⟩ : ∃ u, u = u15.alloc (.cells #[.slice r147 n147 c147, .slice r155 n155 c155] 29) := ⟨_, rfl⟩
 rw [← ek, ← eu] at hb
 rw [← eu] at hc
 rw [← ek, ← eu]
 have K156 := Lib.hid hb
 have C15 := Lib.hid hc
 clear hb hc ek eu
 have hbod := bodies2 (((((((((F147.out.2.chg0 C7.out).chg0 C8.out).chg0 C9.out).chg0 C10.out).chg0 C11.out).chg0 C12.out).chg0 C13.out).chg0 C14.out).chg0 C15.out) (by omega) (F155.out.2.chg0 C15.out) (by omega) K156.out
 refine (Gram_fitS u16 _ 2 2 hbod (by decide)).mono ?_
 clear hbod
 rintro e u17 ⟨b1, d1, b2, m2, d2, rs, L, rfl, hm2, fg, h⟩
 have FGr := Lib.hid (And.intro hm2 (And.intro fg h))
 clear hm2 fg h
 have hcc := ((((((((((((((((C0.out.tr C1.out).tr C2.out).tr C3.out).tr C4.out).tr C5.out).tr C6.out).tr C7.out).tr C8.out).tr C9.out).tr C10.out).tr C11.out).tr C12.out).tr C13.out).tr C14.out).tr C15.out).tr FGr.out.2.2)
 have hres := hcc.heap HR.out.1 (by simp)
 obtain ⟨z0, z1⟩ := cells2 hres
 have f0 := free_of_cells hres 0
 have f1 := free_of_cells hres 1
 have HQ := Lib.hid (And.intro hcc hres)
 clear hcc hres
 go_wp2_with fail
 obtain ⟨w6, e6, z, hcs⟩ := two_set9 HQ.out.2 (.slice b1 2 d1) (.slice b2 m2 d2)
 rw [← e6]
 obtain ⟨q0, q1⟩ := cells2 z
 have hlw : w.heap.size < u0.heap.size := lt_of_block HR.out.1
 refine bodyPost_ret (v := .agg #[.slice b1 2 d1, .slice b2 m2 d2]) (by simp [results, Tryz.results26, go_sem, q0, q1, lt_of_block z]) rfl ?_
 have hszc := HQ.out.1.size
 have hfg := FGr.out.2.1.chg hcs (fun k hk => by simp only [List.mem_singleton] at hk; subst hk; exact ⟨.of_cells HQ.out.2 (by decide), .of_cells HQ.out.2 (by decide), .of_cells HQ.out.2 (by decide)⟩)
 refine ⟨2, by decide, b1, d1, b2, m2, d2, rs, L, rfl, FGr.out.1, ⟨hfg.ln, hfg.lm, row_base hfg.rules (by have := (((((((((((((((C0.out.tr C1.out).tr C2.out).tr C3.out).tr C4.out).tr C5.out).tr C6.out).tr C7.out).tr C8.out).tr C9.out).tr C10.out).tr C11.out).tr C12.out).tr C13.out).tr C14.out).tr C15.out).size; have := HR.out.2.size; omega), hfg.nodes.below (by have := (((((((((((((((C0.out.tr C1.out).tr C2.out).tr C3.out).tr C4.out).tr C5.out).tr C6.out).tr C7.out).tr C8.out).tr C9.out).tr C10.out).tr C11.out).tr C12.out).tr C13.out).tr C14.out).tr C15.out).size; have := HR.out.2.size; omega), hfg.wf, hfg.fn, hfg.fm, hfg.fk⟩, (HR.out.2.tr HQ.out.1).trans hcs (fun j hj => .inr (by simp at hj; omega))⟩

set_option maxRecDepth 100000 in
set_option maxHeartbeats 8000000 in
theorem known11 (w : World) : Calls Tryz.prog 26 #[.int .i64 11] w (KnownP w) := by
 have hP := fun W => pickK_any 11 12 W (by decide) (by decide) (by decide) (by decide)
 rw [show ((11 : Int) % 12) = 11 from rfl] at hP
 go_enter Tryz.func26, Tryz.ntmps26
 go_wp2_with fail
 refine (hP _).mono ?_
 clear hP
 rintro e u0 ⟨rfl, h0⟩
 have HR := Lib.hid (And.intro (h0.heap (heap_alloc_same w (.cells #[.slice none 0 0, .slice none 0 0] 31)) (by simp)) (((Chg.refl [] w).alloc (.cells #[.slice none 0 0, .slice none 0 0] 31)).tr h0))
 clear h0
 go_wp2_with fail
 refine (Call_fit u0 0 1 (by decide) (by decide)).mono ?_
 rintro e u1 ⟨r158, n158, c158, rfl, m158, f158, h⟩
 have F158 := Lib.hid (And.intro m158 f158)
 have C0 := Lib.hid h
 clear f158 h
 go_wp2_with fail
 refine (Call_fit u1 1 1 (by decide) (by decide)).mono ?_
 rintro e u2 ⟨r159, n159, c159, rfl, m159, f159, h⟩
 have F159 := Lib.hid (And.intro m159 f159)
 have C1 := Lib.hid h
 clear f159 h
 go_wp2_with fail
 refine (Chain_fit u2 r158 n158 c158 (F158.out.2.chg0 C1.out) r159 n159 c159 F159.out.2 (by omega)).mono ?_
 rintro e u3 ⟨r160, n160, c160, rfl, m160, f160, h⟩
 have F160 := Lib.hid (And.intro m160 f160)
 have C2 := Lib.hid h
 clear f160 h
 go_wp2_with fail
 refine (Call_fit u3 1 0 (by decide) (by decide)).mono ?_
 rintro e u4 ⟨r161, n161, c161, rfl, m161, f161, h⟩
 have F161 := Lib.hid (And.intro m161 f161)
 have C3 := Lib.hid h
 clear f161 h
 go_wp2_with fail
 refine (First_fit u4 r160 n160 c160 (F160.out.2.chg0 C3.out) r161 n161 c161 F161.out.2 (by omega)).mono ?_
 rintro e u5 ⟨r162, n162, c162, rfl, m162, f162, h⟩
 have F162 := Lib.hid (And.intro m162 f162)
 have C4 := Lib.hid h
 clear f162 h
 go_wp2_with fail
 refine (Call_fit u5 0 2 (by decide) (by decide)).mono ?_
 rintro e u6 ⟨r163, n163, c163, rfl, m163, f163, h⟩
 have F163 := Lib.hid (And.intro m163 f163)
 have C5 := Lib.hid h
 clear f163 h
 go_wp2_with fail
 refine (Word_fit u6 ⟨#[97]⟩ (by decide)).mono ?_
 rintro e u7 ⟨r164, n164, c164, rfl, m164, f164, h⟩
 have F164 := Lib.hid (And.intro m164 f164)
 have C6 := Lib.hid h
 clear f164 h
 go_wp2_with fail
 refine (Chain_fit u7 r163 n163 c163 (F163.out.2.chg0 C6.out) r164 n164 c164 F164.out.2 (by omega)).mono ?_
 rintro e u8 ⟨r165, n165, c165, rfl, m165, f165, h⟩
 have F165 := Lib.hid (And.intro m165 f165)
 have C7 := Lib.hid h
 clear f165 h
 go_wp2_with fail
 refine (Word_fit u8 ⟨#[98]⟩ (by decide)).mono ?_
 rintro e u9 ⟨r166, n166, c166, rfl, m166, f166, h⟩
 have F166 := Lib.hid (And.intro m166 f166)
 have C8 := Lib.hid h
 clear f166 h
 go_wp2_with fail
 refine (Word_fit u9 ⟨#[97]⟩ (by decide)).mono ?_
 rintro e u10 ⟨r167, n167, c167, rfl, m167, f167, h⟩
 have F167 := Lib.hid (And.intro m167 f167)
 have C9 := Lib.hid h
 clear f167 h
 go_wp2_with fail
 obtain ⟨k168, ek⟩ : ∃ k, k = u10.heap.size := ⟨_, rfl⟩
 have hb := heap_alloc_same u10 (.cells #[.slice r165 n165 c165, .slice r166 n166 c166, .slice r167 n167 c167] 29)
 have hc := (Chg.refl [] u10).alloc (.cells #[.slice r165 n165 c165, .slice r166 n166 c166, .slice r167 n167 c167] 29)
 obtain ⟨u11, eu⟩ : ∃ u, u = u10.alloc (.cells #[.slice r165 n165 c165, .slice r166 n166 c166, .slice r167 n167 c167] 29) := ⟨_, rfl⟩
 rw [← ek, ← eu] at hb
 rw [← eu] at hc
 rw [← ek, ← eu]
 have K168 := Lib.hid hb
 have C10 := Lib.hid hc
 clear hb hc ek eu
 refine (Of3_fit u11 7 (by decide) r165 n165 c165 (((F165.out.2.chg0 C8.out).chg0 C9.out).chg0 C10.out) r166 n166 c166 ((F166.out.2.chg0 C9.out).chg0 C10.out) r167 n167 c167 (F167.out.2.chg0 C10.out) (by omega) K168.out).mono ?_
 rintro e u12 ⟨r169, n169, c169, rfl, m169, f169, h⟩
 have F169 := Lib.hid (And.intro m169 f169)
 have C11 := Lib.hid h
 clear f169 h
 go_wp2_with fail
 obtain ⟨k170, ek⟩ : ∃ k, k = u12.heap.size := ⟨_, rfl⟩
 have hb := heap_alloc_same u12 (.cells #[.slice r162 n162 c162, .slice r169 n169 c169] 29)
 have hc := (Chg.refl [] u12).alloc (.cells #[.slice r162 n162 c162, .slice r169 n169 c169] 29)
 obtain ⟨u13, eu⟩ : ∃ u, u = u12.alloc (.cells #[.slice r162 n162 c162, .slice r169 n169 c169] 29) := ⟨_, rfl⟩
 rw [← ek, ← eu] at hb
 rw [← eu] at hc
 rw [← ek, ← eu]
 have K170 := Lib.hid hb
 have C12 := Lib.hid hc
 clear hb hc ek eu
 have hbod := bodies2 ((((((((F162.out.2.chg0 C5.out).chg0 C6.out).chg0 C7.out).chg0 C8.out).chg0 C9.out).chg0 C10.out).chg0 C11.out).chg0 C12.out) (by omega) (F169.out.2.chg0 C12.out) (by omega) K170.out
 refine (Gram_fitS u13 _ 2 2 hbod (by decide)).mono ?_
 clear hbod
 rintro e u14 ⟨b1, d1, b2, m2, d2, rs, L, rfl, hm2, fg, h⟩
 have FGr := Lib.hid (And.intro hm2 (And.intro fg h))
 clear hm2 fg h
 have hcc := (((((((((((((C0.out.tr C1.out).tr C2.out).tr C3.out).tr C4.out).tr C5.out).tr C6.out).tr C7.out).tr C8.out).tr C9.out).tr C10.out).tr C11.out).tr C12.out).tr FGr.out.2.2)
 have hres := hcc.heap HR.out.1 (by simp)
 obtain ⟨z0, z1⟩ := cells2 hres
 have f0 := free_of_cells hres 0
 have f1 := free_of_cells hres 1
 have HQ := Lib.hid (And.intro hcc hres)
 clear hcc hres
 go_wp2_with fail
 obtain ⟨w6, e6, z, hcs⟩ := two_set9 HQ.out.2 (.slice b1 2 d1) (.slice b2 m2 d2)
 rw [← e6]
 obtain ⟨q0, q1⟩ := cells2 z
 have hlw : w.heap.size < u0.heap.size := lt_of_block HR.out.1
 refine bodyPost_ret (v := .agg #[.slice b1 2 d1, .slice b2 m2 d2]) (by simp [results, Tryz.results26, go_sem, q0, q1, lt_of_block z]) rfl ?_
 have hszc := HQ.out.1.size
 have hfg := FGr.out.2.1.chg hcs (fun k hk => by simp only [List.mem_singleton] at hk; subst hk; exact ⟨.of_cells HQ.out.2 (by decide), .of_cells HQ.out.2 (by decide), .of_cells HQ.out.2 (by decide)⟩)
 refine ⟨2, by decide, b1, d1, b2, m2, d2, rs, L, rfl, FGr.out.1, ⟨hfg.ln, hfg.lm, row_base hfg.rules (by have := ((((((((((((C0.out.tr C1.out).tr C2.out).tr C3.out).tr C4.out).tr C5.out).tr C6.out).tr C7.out).tr C8.out).tr C9.out).tr C10.out).tr C11.out).tr C12.out).size; have := HR.out.2.size; omega), hfg.nodes.below (by have := ((((((((((((C0.out.tr C1.out).tr C2.out).tr C3.out).tr C4.out).tr C5.out).tr C6.out).tr C7.out).tr C8.out).tr C9.out).tr C10.out).tr C11.out).tr C12.out).size; have := HR.out.2.size; omega), hfg.wf, hfg.fn, hfg.fm, hfg.fk⟩, (HR.out.2.tr HQ.out.1).trans hcs (fun j hj => .inr (by simp at hj; omega))⟩

theorem Known_fit (w : World) (k : Nat) (hk : k < 12) : Calls Tryz.prog 26 #[.int .i64 k] w (KnownP w) := by
 rcases (show k = 0 ∨ k = 1 ∨ k = 2 ∨ k = 3 ∨ k = 4 ∨ k = 5 ∨ k = 6 ∨ k = 7 ∨ k = 8 ∨ k = 9 ∨ k = 10 ∨ k = 11 by omega) with rfl | rfl | rfl | rfl | rfl | rfl | rfl | rfl | rfl | rfl | rfl | rfl
 ·exact known0 w
 ·exact known1 w
 ·exact known2 w
 ·exact known3 w
 ·exact known4 w
 ·exact known5 w
 ·exact known6 w
 ·exact known7 w
 ·exact known8 w
 ·exact known9 w
 ·exact known10 w
 ·exact known11 w
end Go.Proofs.YtlklmpjakeedcaaGreatDoor

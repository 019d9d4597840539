/-
  HeadsDoes: is a stack the document's?
  Conditions: none.
-/
import Derived.Test.YtnajhcoimohcaaaSmHd21
import Derived.Test.YtnajhcoimohcaaaSmHd19
import Derived.Test.YtnajhcoimohcaaaSmHs10
import Derived.Test.YtnajhcoimohcaaaSmHd25
set_option linter.unusedVariables false
set_option linter.unusedSimpArgs false
set_option linter.unnecessarySimpa false
namespace Go.Proofs.Ytnajhcoimohcaaa
open Go.RowKit Go.MapKept

theorem sameInts_self (w : World) (a b : Option Addr) (n c m d' : Nat) (xs : List Int) (hn : n = xs.length) (hm : m = xs.length) (hs : n ≤ 9223372036854775807) (hx : Ints w a xs) (hy : Ints w b xs) :
    Calls Try.prog 29 #[.slice a n c, .slice b m d'] w fun e w' => e = .returned (.bool true) ∧ Chg [] w w' := by
  have h := sameInts_any w a b n c m d' xs xs hn hm hs hx hy
  rwa [show decide (xs = xs) = true from decide_eq_true rfl] at h
/-- What was told: a row. -/
structure ToldI (n : Nat) (w : World) (a : Option Addr) (c : Nat) (zs : List Int) : Prop where
  len : n = zs.length
  row : FreshInts 0 w a c zs
/-- What holds of the plain rows of a stack. -/
structure PlainOK (s : List Fm) : Prop where
  dist : DistF s
  own : ∀ f ∈ s, f.rule ∈ f.tch
  few : s.length ≤ 1000000
  inv : ∀ f ∈ s, f.inv.length ≤ 1000000
  tch : ∀ f ∈ s, f.tch.length ≤ 1000000

set_option maxRecDepth 100000 in
set_option maxHeartbeats 8000000 in
theorem same_any {NB : Nat} (w : World) (b HB RB : Nat) (s : List Fm) (hs : SP b w HB s) (ra : Option Addr) (rc : Nat) (l : List Rf) (hr : RefAt NB w RB ra rc l) (hl : rfs l = s) (hp : PlainOK s) (what rule place : Int) (ta : Option Addr) (tn tc : Nat) (tch : List Int) (htn : tn = tch.length) (htc : tn ≤ tc) (htm : tc ≤ 9223372036854775807) (hti : Ints w ta tch) (hri : I64 rule) :
    Calls Try.prog 33 #[.pointer (some ⟨HB, 0, none⟩), .pointer (some ⟨RB, 0, none⟩), .agg #[.int .i64 what, .int .i64 rule, .int .i64 place, .slice ta tn tc]] w fun e w' => e = .returned (.bool true) ∧ Chg [] w w' := by
  obtain ⟨n, hn⟩ : ∃ n, n = l.length := ⟨_, rfl⟩
  have hns : n = s.length := by rw [hn, ← hl, rfs_len]
  have hca := (Chg.refl [] w).alloc (.cells #[.int .i64 what, .int .i64 rule, .int .i64 place, .slice ta tn tc] 55)
  have hd := heap_alloc_same w (.cells #[.int .i64 what, .int .i64 rule, .int .i64 place, .slice ta tn tc] 55)
  obtain ⟨wa, ea⟩ : ∃ z, z = w.alloc (.cells #[.int .i64 what, .int .i64 rule, .int .i64 place, .slice ta tn tc] 55) := ⟨_, rfl⟩
  rw [← ea] at hca hd
  have hpr : Calls Try.prog 54 #[.pointer (some ⟨HB, 0, none⟩)] wa (PairsP wa s) := by
    obtain ⟨a, c, fr, h1, rfl, h3⟩ := hs.chg0 hca
    exact pairsS_any wa HB a c fr h1 (by have := hp.few; rwa [fms_len] at this)
  have HH := Lib.hid (And.intro (hs.chg0 hca) (And.intro (hr.chg0 hca) (And.intro hl (And.intro hp (And.intro hn (And.intro hns (And.intro htn (And.intro (hti.keep hca.kp) (And.intro hca hd)))))))))
  have hn9 : n ≤ 1000000 := by rw [hns]; exact hp.few
  clear hs hr hl hp hn hns htn hti hca hd
  go_enter Try.func33, Try.ntmps33
  go_wp2_with fail
  rw [← ea]
  refine hpr.mono ?_
  clear hpr ea
  rintro e w1 ⟨pa, pn, pc, rfl, hpn, hprow, hc1⟩
  obtain ⟨D0, hD0⟩ : ∃ z, z = w.heap.size := ⟨_, rfl⟩
  have hpn' : pn = n := by rw [hpn]; exact HH.out.2.2.2.2.2.1.symm
  subst hpn'
  have hd1 := hc1.heap HH.out.2.2.2.2.2.2.2.2.2 (by simp)
  rw [← hD0] at hd1
  obtain ⟨tv, htv⟩ : ∃ v, v = tntB s := ⟨_, rfl⟩
  obtain ⟨fv, hfv⟩ : ∃ v, v = freeB s place tch := ⟨_, rfl⟩
  obtain ⟨iv, hiv⟩ : ∃ v, v = invL s rule place := ⟨_, rfl⟩
  have hs1 := HH.out.1.chg0 hc1
  have hr1 := HH.out.2.1.chg0 hc1
  have ht1 := HH.out.2.2.2.2.2.2.2.1.keep hc1.kp
  have hivl : iv.length ≤ 1000000 := by
    rw [hiv]
    unfold invL
    split
    · simp
    · split
      · simp
      · rename_i f hf
        exact HH.out.2.2.2.1.inv f (List.mem_of_getElem? hf)
  have x0 := cells1 hr1.top
  rw [← HH.out.2.2.2.2.1] at x0
  have cT := fun (W : World) (hW : Chg [] w1 W) => taintedSP b W HB s (hs1.chg0 hW)
  have cTR := fun (W : World) (hW : Chg [] w1 W) => taintedR_any W RB ra rc l (hr1.chg0 hW)
  have cF := fun (W : World) (hW : Chg [] w1 W) => freeSP b W HB s (hs1.chg0 hW) place ta tn tc tch HH.out.2.2.2.2.2.2.1 htc htm (ht1.keep hW.kp)
  have cFR := fun (W : World) (hW : Chg [] w1 W) => freeR_any W RB ra rc l (hr1.chg0 hW) place ta tn tc tch HH.out.2.2.2.2.2.2.1 htc htm (ht1.keep hW.kp)
  have cI := fun (W : World) (hW : Chg [] w1 W) => involvedSP b W HB s (hs1.chg0 hW) HH.out.2.2.2.1.inv rule place
  have cIR := fun (W : World) (hW : Chg [] w1 W) => involvedR_any W RB ra rc l (hr1.chg0 hW) rule place
  rw [HH.out.2.2.1] at cTR cFR cIR
  rw [← htv] at cT cTR
  rw [← hfv] at cF cFR
  rw [← hiv] at cI cIR
  have HS := Lib.hid (And.intro cT (And.intro cTR (And.intro cF (And.intro cFR (And.intro cI (And.intro cIR (And.intro x0 (And.intro hd1 hivl))))))))
  have HP1 := Lib.hid (And.intro hs1 (And.intro hr1 (And.intro hprow hc1)))
  have hnt : (tv != tv) = false := by cases tv <;> rfl
  have hnf : (fv != fv) = false := by cases fv <;> rfl
  have HDz := Lib.hid hD0
  clear cT cTR cF cFR cI cIR hd1 hs1 hr1 ht1 hprow hpn hc1 htv hfv hiv hivl
  go_wp2_with fail
  rw [← HDz.out]
  clear hD0 x0
  refine wp_region_st (by kernel_rfl) (by kernel_rfl) [14, 15, 16, 17, 18, 19, 20, 21, 22, 23, 24, 25, 26, 27, 28, 29, 30, 31, 32, 33, 34, 35, 36, 37, 38, 39, 40, 41, 42, 43, 44, 45, 46, 47, 48, 49, 50, 51, 52, 53, 54, 55, 56, 57, 58, 59] (by kernel_rfl) (fun rI rV rW => match rI with | 0 => rV = .slice pa pn pc | 1 => rV = .int .i64 pn | 2 => rV = .pointer (some ⟨RB, 0, none⟩) | 3 => rV = .pointer (some ⟨RB, 0, none⟩) | 4 => rV = .pointer (some ⟨RB, 0, none⟩) | 5 => rV = .slice ra pn rc | 6 => rV = .int .i64 pn | 7 => rV = .bool false | 8 => rV = .bool false | 9 => rV = .pointer (some ⟨HB, 0, none⟩) | 10 => rV = .bool tv | 11 => rV = .pointer (some ⟨RB, 0, none⟩) | 12 => rV = .bool tv | 13 => rV = .bool false | 14 => rV = .bool false | 15 => rV = .bool false | 16 => rV = .pointer (some ⟨HB, 0, none⟩) | 17 => rV = .pointer (some ⟨D0, 2, none⟩) | 18 => rV = .int .i64 place | 19 => rV = .pointer (some ⟨D0, 3, none⟩) | 20 => rV = .slice ta tn tc | 21 => rV = .bool fv | 22 => rV = .pointer (some ⟨RB, 0, none⟩) | 23 => rV = .pointer (some ⟨D0, 2, none⟩) | 24 => rV = .int .i64 place | 25 => rV = .pointer (some ⟨D0, 3, none⟩) | 26 => rV = .slice ta tn tc | 27 => rV = .bool fv | 28 => rV = .bool false | 29 => rV = .bool false | 30 => rV = .bool false | 31 => rV = .pointer (some ⟨HB, 0, none⟩) | 32 => rV = .pointer (some ⟨D0, 1, none⟩) | 33 => rV = .int .i64 rule | 34 => rV = .pointer (some ⟨D0, 2, none⟩) | 35 => rV = .int .i64 place | 36 => ∃ a50 n50 c50, rV = .slice a50 n50 c50 ∧ ToldI n50 rW a50 c50 iv | 37 => rV = .pointer (some ⟨RB, 0, none⟩) | 38 => rV = .pointer (some ⟨D0, 1, none⟩) | 39 => rV = .int .i64 rule | 40 => rV = .pointer (some ⟨D0, 2, none⟩) | 41 => rV = .int .i64 place | 42 => ∃ a56 n56 c56, rV = .slice a56 n56 c56 ∧ ToldI n56 rW a56 c56 iv | 43 => rV = .bool true | 44 => rV = .bool false | 45 => rV = .bool false | _ => True) ?hS2 ?hstep2 ?hdone2
  case hS2 =>
    intro rI rV rW rW' hc rP
    match rI, rP with
    | 0, rP => exact rP
    | 1, rP => exact rP
    | 2, rP => exact rP
    | 3, rP => exact rP
    | 4, rP => exact rP
    | 5, rP => exact rP
    | 6, rP => exact rP
    | 7, rP => exact rP
    | 8, rP => exact rP
    | 9, rP => exact rP
    | 10, rP => exact rP
    | 11, rP => exact rP
    | 12, rP => exact rP
    | 13, rP => exact rP
    | 14, rP => exact rP
    | 15, rP => exact rP
    | 16, rP => exact rP
    | 17, rP => exact rP
    | 18, rP => exact rP
    | 19, rP => exact rP
    | 20, rP => exact rP
    | 21, rP => exact rP
    | 22, rP => exact rP
    | 23, rP => exact rP
    | 24, rP => exact rP
    | 25, rP => exact rP
    | 26, rP => exact rP
    | 27, rP => exact rP
    | 28, rP => exact rP
    | 29, rP => exact rP
    | 30, rP => exact rP
    | 31, rP => exact rP
    | 32, rP => exact rP
    | 33, rP => exact rP
    | 34, rP => exact rP
    | 35, rP => exact rP
    | 36, rP => exact (by obtain ⟨a50, n50, c50, e9, hp⟩ := rP; exact ⟨a50, n50, c50, e9, ⟨hp.1, hc.row hp.2 (fun _ _ => by simp)⟩⟩)
    | 37, rP => exact rP
    | 38, rP => exact rP
    | 39, rP => exact rP
    | 40, rP => exact rP
    | 41, rP => exact rP
    | 42, rP => exact (by obtain ⟨a56, n56, c56, e9, hp⟩ := rP; exact ⟨a56, n56, c56, e9, ⟨hp.1, hc.row hp.2 (fun _ _ => by simp)⟩⟩)
    | 43, rP => exact rP
    | 44, rP => exact rP
    | 45, rP => exact rP
    | _ + 46, _ => trivial
  case hstep2 =>
    intro rI rH us W hC hdep K hK
    have hiN : rI < 46 := rH
    simp only [actU, Act.put, List.setIfInBounds_toArray, List.set_cons_succ, List.set_cons_zero, Nat.reduceAdd] at hK ⊢
    have hx0 := hC.cell HS.out.2.2.2.2.2.2.1 (by simp)
    obtain ⟨hd0, hd1, hd2, hd3⟩ := cellsL4 (hC.heap HS.out.2.2.2.2.2.2.2.1 (by simp))
    rcases (show rI = 0 ∨ rI = 1 ∨ rI = 2 ∨ rI = 3 ∨ rI = 4 ∨ rI = 5 ∨ rI = 6 ∨ rI = 7 ∨ rI = 8 ∨ rI = 9 ∨ rI = 10 ∨ rI = 11 ∨ rI = 12 ∨ rI = 13 ∨ rI = 14 ∨ rI = 15 ∨ rI = 16 ∨ rI = 17 ∨ rI = 18 ∨ rI = 19 ∨ rI = 20 ∨ rI = 21 ∨ rI = 22 ∨ rI = 23 ∨ rI = 24 ∨ rI = 25 ∨ rI = 26 ∨ rI = 27 ∨ rI = 28 ∨ rI = 29 ∨ rI = 30 ∨ rI = 31 ∨ rI = 32 ∨ rI = 33 ∨ rI = 34 ∨ rI = 35 ∨ rI = 36 ∨ rI = 37 ∨ rI = 38 ∨ rI = 39 ∨ rI = 40 ∨ rI = 41 ∨ rI = 42 ∨ rI = 43 ∨ rI = 44 ∨ rI = 45 by omega) with rfl | rfl | rfl | rfl | rfl | rfl | rfl | rfl | rfl | rfl | rfl | rfl | rfl | rfl | rfl | rfl | rfl | rfl | rfl | rfl | rfl | rfl | rfl | rfl | rfl | rfl | rfl | rfl | rfl | rfl | rfl | rfl | rfl | rfl | rfl | rfl | rfl | rfl | rfl | rfl | rfl | rfl | rfl | rfl | rfl | rfl
    · simp only [List.getD_cons_succ, List.getD_cons_zero, List.setIfInBounds_toArray, List.set_cons_succ, List.set_cons_zero] at hK ⊢
      refine wpOp_at rfl rfl ?_
      go_simp
      exact hK _ _ _ rfl (Chg.refl _ _) rfl
    · have l0 := hdep 0 (by kernel_rfl)
      replace l0 : us 0 = .slice pa pn pc := l0
      simp only [List.getD_cons_succ, List.getD_cons_zero, List.setIfInBounds_toArray, List.set_cons_succ, List.set_cons_zero, l0] at hK ⊢
      refine wpOp_at rfl rfl ?_
      go_simp
      exact hK _ _ _ rfl (Chg.refl _ _) rfl
    · simp only [List.getD_cons_succ, List.getD_cons_zero, List.setIfInBounds_toArray, List.set_cons_succ, List.set_cons_zero] at hK ⊢
      refine wpOp_at rfl rfl ?_
      go_simp
      exact hK _ _ _ rfl (Chg.refl _ _) rfl
    · have l2 := hdep 2 (by kernel_rfl)
      replace l2 : us 2 = .pointer (some ⟨RB, 0, none⟩) := l2
      simp only [List.getD_cons_succ, List.getD_cons_zero, List.setIfInBounds_toArray, List.set_cons_succ, List.set_cons_zero, l2] at hK ⊢
      refine wpOp_at rfl rfl ?_
      go_simp
      exact hK _ _ _ rfl (Chg.refl _ _) rfl
    · have l3 := hdep 3 (by kernel_rfl)
      replace l3 : us 3 = .pointer (some ⟨RB, 0, none⟩) := l3
      simp only [List.getD_cons_succ, List.getD_cons_zero, List.setIfInBounds_toArray, List.set_cons_succ, List.set_cons_zero, l3] at hK ⊢
      refine wpOp_at rfl rfl ?_
      go_simp
      exact hK _ _ _ rfl (Chg.refl _ _) rfl
    · have l4 := hdep 4 (by kernel_rfl)
      replace l4 : us 4 = .pointer (some ⟨RB, 0, none⟩) := l4
      simp only [List.getD_cons_succ, List.getD_cons_zero, List.setIfInBounds_toArray, List.set_cons_succ, List.set_cons_zero, l4] at hK ⊢
      refine wpOp_at rfl rfl ?_
      go_simp
      exact hK _ _ _ rfl (Chg.refl _ _) rfl
    · have l5 := hdep 5 (by kernel_rfl)
      replace l5 : us 5 = .slice ra pn rc := l5
      simp only [List.getD_cons_succ, List.getD_cons_zero, List.setIfInBounds_toArray, List.set_cons_succ, List.set_cons_zero, l5] at hK ⊢
      refine wpOp_at rfl rfl ?_
      go_simp
      exact hK _ _ _ rfl (Chg.refl _ _) rfl
    · have l1 := hdep 1 (by kernel_rfl)
      replace l1 : us 1 = .int .i64 pn := l1
      have l6 := hdep 6 (by kernel_rfl)
      replace l6 : us 6 = .int .i64 pn := l6
      simp only [List.getD_cons_succ, List.getD_cons_zero, List.setIfInBounds_toArray, List.set_cons_succ, List.set_cons_zero, l1, l6] at hK ⊢
      refine wpOp_at rfl rfl ?_
      go_simp
      exact hK _ _ _ rfl (Chg.refl _ _) rfl
    · have l7 := hdep 7 (by kernel_rfl)
      replace l7 : us 7 = .bool false := l7
      simp only [List.getD_cons_succ, List.getD_cons_zero, List.setIfInBounds_toArray, List.set_cons_succ, List.set_cons_zero, l7] at hK ⊢
      refine wpOp_at rfl rfl ?_
      go_simp
      exact hK _ _ _ rfl (Chg.refl _ _) rfl
    · have l8 := hdep 8 (by kernel_rfl)
      replace l8 : us 8 = .bool false := l8
      simp only [List.getD_cons_succ, List.getD_cons_zero, List.setIfInBounds_toArray, List.set_cons_succ, List.set_cons_zero, l8] at hK ⊢
      refine wpOp_want rfl (by rfl) ?_
      go_simp
      exact hK _ _ _ rfl (Chg.refl _ _) rfl
    · have l8 := hdep 8 (by kernel_rfl)
      replace l8 : us 8 = .bool false := l8
      have l9 := hdep 9 (by kernel_rfl)
      replace l9 : us 9 = .pointer (some ⟨HB, 0, none⟩) := l9
      simp only [List.getD_cons_succ, List.getD_cons_zero, List.setIfInBounds_toArray, List.set_cons_succ, List.set_cons_zero, l8, l9] at hK ⊢
      refine wpOp_want rfl (by rfl) ?_
      go_simp
      refine (HS.out.1 W hC).mono ?_
      rintro e wz ⟨rfl, hz⟩
      exact hK _ _ _ rfl hz rfl
    · have l8 := hdep 8 (by kernel_rfl)
      replace l8 : us 8 = .bool false := l8
      simp only [List.getD_cons_succ, List.getD_cons_zero, List.setIfInBounds_toArray, List.set_cons_succ, List.set_cons_zero, l8] at hK ⊢
      refine wpOp_want rfl (by rfl) ?_
      go_simp
      exact hK _ _ _ rfl (Chg.refl _ _) rfl
    · have l8 := hdep 8 (by kernel_rfl)
      replace l8 : us 8 = .bool false := l8
      have l11 := hdep 11 (by kernel_rfl)
      replace l11 : us 11 = .pointer (some ⟨RB, 0, none⟩) := l11
      simp only [List.getD_cons_succ, List.getD_cons_zero, List.setIfInBounds_toArray, List.set_cons_succ, List.set_cons_zero, l8, l11] at hK ⊢
      refine wpOp_want rfl (by rfl) ?_
      go_simp
      refine (HS.out.2.1 W hC).mono ?_
      rintro e wz ⟨rfl, hz⟩
      exact hK _ _ _ rfl hz rfl
    · have l8 := hdep 8 (by kernel_rfl)
      replace l8 : us 8 = .bool false := l8
      have l10 := hdep 10 (by kernel_rfl)
      replace l10 : us 10 = .bool tv := l10
      have l12 := hdep 12 (by kernel_rfl)
      replace l12 : us 12 = .bool tv := l12
      simp only [List.getD_cons_succ, List.getD_cons_zero, List.setIfInBounds_toArray, List.set_cons_succ, List.set_cons_zero, l8, l10, l12] at hK ⊢
      refine wpOp_want rfl (by rfl) ?_
      go_simp
      exact hK _ _ _ rfl (Chg.refl _ _) rfl
    · have l8 := hdep 8 (by kernel_rfl)
      replace l8 : us 8 = .bool false := l8
      have l13 := hdep 13 (by kernel_rfl)
      replace l13 : us 13 = .bool false := l13
      simp only [List.getD_cons_succ, List.getD_cons_zero, List.setIfInBounds_toArray, List.set_cons_succ, List.set_cons_zero, l8, l13] at hK ⊢
      refine wpOp_at rfl rfl ?_
      go_simp
      exact hK _ _ _ rfl (Chg.refl _ _) rfl
    · have l14 := hdep 14 (by kernel_rfl)
      replace l14 : us 14 = .bool false := l14
      simp only [List.getD_cons_succ, List.getD_cons_zero, List.setIfInBounds_toArray, List.set_cons_succ, List.set_cons_zero, l14] at hK ⊢
      refine wpOp_at rfl rfl ?_
      go_simp
      exact hK _ _ _ rfl (Chg.refl _ _) rfl
    · have l15 := hdep 15 (by kernel_rfl)
      replace l15 : us 15 = .bool false := l15
      simp only [List.getD_cons_succ, List.getD_cons_zero, List.setIfInBounds_toArray, List.set_cons_succ, List.set_cons_zero, l15] at hK ⊢
      refine wpOp_want rfl (by rfl) ?_
      go_simp
      exact hK _ _ _ rfl (Chg.refl _ _) rfl
    · have l15 := hdep 15 (by kernel_rfl)
      replace l15 : us 15 = .bool false := l15
      simp only [List.getD_cons_succ, List.getD_cons_zero, List.setIfInBounds_toArray, List.set_cons_succ, List.set_cons_zero, l15] at hK ⊢
      refine wpOp_want rfl (by rfl) ?_
      go_simp
      exact hK _ _ _ rfl (Chg.refl _ _) rfl
    · have l15 := hdep 15 (by kernel_rfl)
      replace l15 : us 15 = .bool false := l15
      have l17 := hdep 17 (by kernel_rfl)
      replace l17 : us 17 = .pointer (some ⟨D0, 2, none⟩) := l17
      simp only [List.getD_cons_succ, List.getD_cons_zero, List.setIfInBounds_toArray, List.set_cons_succ, List.set_cons_zero, l15, l17] at hK ⊢
      refine wpOp_want rfl (by rfl) ?_
      go_simp
      exact hK _ _ _ rfl (Chg.refl _ _) rfl
    · have l15 := hdep 15 (by kernel_rfl)
      replace l15 : us 15 = .bool false := l15
      simp only [List.getD_cons_succ, List.getD_cons_zero, List.setIfInBounds_toArray, List.set_cons_succ, List.set_cons_zero, l15] at hK ⊢
      refine wpOp_want rfl (by rfl) ?_
      go_simp
      exact hK _ _ _ rfl (Chg.refl _ _) rfl
    · have l15 := hdep 15 (by kernel_rfl)
      replace l15 : us 15 = .bool false := l15
      have l19 := hdep 19 (by kernel_rfl)
      replace l19 : us 19 = .pointer (some ⟨D0, 3, none⟩) := l19
      simp only [List.getD_cons_succ, List.getD_cons_zero, List.setIfInBounds_toArray, List.set_cons_succ, List.set_cons_zero, l15, l19] at hK ⊢
      refine wpOp_want rfl (by rfl) ?_
      go_simp
      exact hK _ _ _ rfl (Chg.refl _ _) rfl
    · have l15 := hdep 15 (by kernel_rfl)
      replace l15 : us 15 = .bool false := l15
      have l16 := hdep 16 (by kernel_rfl)
      replace l16 : us 16 = .pointer (some ⟨HB, 0, none⟩) := l16
      have l18 := hdep 18 (by kernel_rfl)
      replace l18 : us 18 = .int .i64 place := l18
      have l20 := hdep 20 (by kernel_rfl)
      replace l20 : us 20 = .slice ta tn tc := l20
      simp only [List.getD_cons_succ, List.getD_cons_zero, List.setIfInBounds_toArray, List.set_cons_succ, List.set_cons_zero, l15, l16, l18, l20] at hK ⊢
      refine wpOp_want rfl (by rfl) ?_
      go_simp
      refine (HS.out.2.2.1 W hC).mono ?_
      rintro e wz ⟨rfl, hz⟩
      exact hK _ _ _ rfl hz rfl
    · have l15 := hdep 15 (by kernel_rfl)
      replace l15 : us 15 = .bool false := l15
      simp only [List.getD_cons_succ, List.getD_cons_zero, List.setIfInBounds_toArray, List.set_cons_succ, List.set_cons_zero, l15] at hK ⊢
      refine wpOp_want rfl (by rfl) ?_
      go_simp
      exact hK _ _ _ rfl (Chg.refl _ _) rfl
    · have l15 := hdep 15 (by kernel_rfl)
      replace l15 : us 15 = .bool false := l15
      simp only [List.getD_cons_succ, List.getD_cons_zero, List.setIfInBounds_toArray, List.set_cons_succ, List.set_cons_zero, l15] at hK ⊢
      refine wpOp_want rfl (by rfl) ?_
      go_simp
      exact hK _ _ _ rfl (Chg.refl _ _) rfl
    · have l15 := hdep 15 (by kernel_rfl)
      replace l15 : us 15 = .bool false := l15
      have l23 := hdep 23 (by kernel_rfl)
      replace l23 : us 23 = .pointer (some ⟨D0, 2, none⟩) := l23
      simp only [List.getD_cons_succ, List.getD_cons_zero, List.setIfInBounds_toArray, List.set_cons_succ, List.set_cons_zero, l15, l23] at hK ⊢
      refine wpOp_want rfl (by rfl) ?_
      go_simp
      exact hK _ _ _ rfl (Chg.refl _ _) rfl
    · have l15 := hdep 15 (by kernel_rfl)
      replace l15 : us 15 = .bool false := l15
      simp only [List.getD_cons_succ, List.getD_cons_zero, List.setIfInBounds_toArray, List.set_cons_succ, List.set_cons_zero, l15] at hK ⊢
      refine wpOp_want rfl (by rfl) ?_
      go_simp
      exact hK _ _ _ rfl (Chg.refl _ _) rfl
    · have l15 := hdep 15 (by kernel_rfl)
      replace l15 : us 15 = .bool false := l15
      have l25 := hdep 25 (by kernel_rfl)
      replace l25 : us 25 = .pointer (some ⟨D0, 3, none⟩) := l25
      simp only [List.getD_cons_succ, List.getD_cons_zero, List.setIfInBounds_toArray, List.set_cons_succ, List.set_cons_zero, l15, l25] at hK ⊢
      refine wpOp_want rfl (by rfl) ?_
      go_simp
      exact hK _ _ _ rfl (Chg.refl _ _) rfl
    · have l15 := hdep 15 (by kernel_rfl)
      replace l15 : us 15 = .bool false := l15
      have l22 := hdep 22 (by kernel_rfl)
      replace l22 : us 22 = .pointer (some ⟨RB, 0, none⟩) := l22
      have l24 := hdep 24 (by kernel_rfl)
      replace l24 : us 24 = .int .i64 place := l24
      have l26 := hdep 26 (by kernel_rfl)
      replace l26 : us 26 = .slice ta tn tc := l26
      simp only [List.getD_cons_succ, List.getD_cons_zero, List.setIfInBounds_toArray, List.set_cons_succ, List.set_cons_zero, l15, l22, l24, l26] at hK ⊢
      refine wpOp_want rfl (by rfl) ?_
      go_simp
      refine (HS.out.2.2.2.1 W hC).mono ?_
      rintro e wz ⟨rfl, hz⟩
      exact hK _ _ _ rfl hz rfl
    · have l15 := hdep 15 (by kernel_rfl)
      replace l15 : us 15 = .bool false := l15
      have l21 := hdep 21 (by kernel_rfl)
      replace l21 : us 21 = .bool fv := l21
      have l27 := hdep 27 (by kernel_rfl)
      replace l27 : us 27 = .bool fv := l27
      simp only [List.getD_cons_succ, List.getD_cons_zero, List.setIfInBounds_toArray, List.set_cons_succ, List.set_cons_zero, l15, l21, l27] at hK ⊢
      refine wpOp_want rfl (by rfl) ?_
      go_simp
      exact hK _ _ _ rfl (Chg.refl _ _) rfl
    · have l15 := hdep 15 (by kernel_rfl)
      replace l15 : us 15 = .bool false := l15
      have l28 := hdep 28 (by kernel_rfl)
      replace l28 : us 28 = .bool false := l28
      simp only [List.getD_cons_succ, List.getD_cons_zero, List.setIfInBounds_toArray, List.set_cons_succ, List.set_cons_zero, l15, l28] at hK ⊢
      refine wpOp_at rfl rfl ?_
      go_simp
      exact hK _ _ _ rfl (Chg.refl _ _) rfl
    · have l29 := hdep 29 (by kernel_rfl)
      replace l29 : us 29 = .bool false := l29
      simp only [List.getD_cons_succ, List.getD_cons_zero, List.setIfInBounds_toArray, List.set_cons_succ, List.set_cons_zero, l29] at hK ⊢
      refine wpOp_at rfl rfl ?_
      go_simp
      exact hK _ _ _ rfl (Chg.refl _ _) rfl
    · have l30 := hdep 30 (by kernel_rfl)
      replace l30 : us 30 = .bool false := l30
      simp only [List.getD_cons_succ, List.getD_cons_zero, List.setIfInBounds_toArray, List.set_cons_succ, List.set_cons_zero, l30] at hK ⊢
      refine wpOp_want rfl (by rfl) ?_
      go_simp
      exact hK _ _ _ rfl (Chg.refl _ _) rfl
    · have l30 := hdep 30 (by kernel_rfl)
      replace l30 : us 30 = .bool false := l30
      simp only [List.getD_cons_succ, List.getD_cons_zero, List.setIfInBounds_toArray, List.set_cons_succ, List.set_cons_zero, l30] at hK ⊢
      refine wpOp_want rfl (by rfl) ?_
      go_simp
      exact hK _ _ _ rfl (Chg.refl _ _) rfl
    · have l30 := hdep 30 (by kernel_rfl)
      replace l30 : us 30 = .bool false := l30
      have l32 := hdep 32 (by kernel_rfl)
      replace l32 : us 32 = .pointer (some ⟨D0, 1, none⟩) := l32
      simp only [List.getD_cons_succ, List.getD_cons_zero, List.setIfInBounds_toArray, List.set_cons_succ, List.set_cons_zero, l30, l32] at hK ⊢
      refine wpOp_want rfl (by rfl) ?_
      go_simp
      exact hK _ _ _ rfl (Chg.refl _ _) rfl
    · have l30 := hdep 30 (by kernel_rfl)
      replace l30 : us 30 = .bool false := l30
      simp only [List.getD_cons_succ, List.getD_cons_zero, List.setIfInBounds_toArray, List.set_cons_succ, List.set_cons_zero, l30] at hK ⊢
      refine wpOp_want rfl (by rfl) ?_
      go_simp
      exact hK _ _ _ rfl (Chg.refl _ _) rfl
    · have l30 := hdep 30 (by kernel_rfl)
      replace l30 : us 30 = .bool false := l30
      have l34 := hdep 34 (by kernel_rfl)
      replace l34 : us 34 = .pointer (some ⟨D0, 2, none⟩) := l34
      simp only [List.getD_cons_succ, List.getD_cons_zero, List.setIfInBounds_toArray, List.set_cons_succ, List.set_cons_zero, l30, l34] at hK ⊢
      refine wpOp_want rfl (by rfl) ?_
      go_simp
      exact hK _ _ _ rfl (Chg.refl _ _) rfl
    · have l30 := hdep 30 (by kernel_rfl)
      replace l30 : us 30 = .bool false := l30
      have l31 := hdep 31 (by kernel_rfl)
      replace l31 : us 31 = .pointer (some ⟨HB, 0, none⟩) := l31
      have l33 := hdep 33 (by kernel_rfl)
      replace l33 : us 33 = .int .i64 rule := l33
      have l35 := hdep 35 (by kernel_rfl)
      replace l35 : us 35 = .int .i64 place := l35
      simp only [List.getD_cons_succ, List.getD_cons_zero, List.setIfInBounds_toArray, List.set_cons_succ, List.set_cons_zero, l30, l31, l33, l35] at hK ⊢
      refine wpOp_want rfl (by rfl) ?_
      go_simp
      refine (HS.out.2.2.2.2.1 W hC).mono ?_
      rintro e wz ⟨a50, n50, c50, rfl, m50, f50, hz⟩
      exact hK _ _ _ rfl hz ⟨a50, n50, c50, rfl, ⟨m50, row_base f50 (Nat.zero_le _)⟩⟩
    · have l30 := hdep 30 (by kernel_rfl)
      replace l30 : us 30 = .bool false := l30
      simp only [List.getD_cons_succ, List.getD_cons_zero, List.setIfInBounds_toArray, List.set_cons_succ, List.set_cons_zero, l30] at hK ⊢
      refine wpOp_want rfl (by rfl) ?_
      go_simp
      exact hK _ _ _ rfl (Chg.refl _ _) rfl
    · have l30 := hdep 30 (by kernel_rfl)
      replace l30 : us 30 = .bool false := l30
      simp only [List.getD_cons_succ, List.getD_cons_zero, List.setIfInBounds_toArray, List.set_cons_succ, List.set_cons_zero, l30] at hK ⊢
      refine wpOp_want rfl (by rfl) ?_
      go_simp
      exact hK _ _ _ rfl (Chg.refl _ _) rfl
    · have l30 := hdep 30 (by kernel_rfl)
      replace l30 : us 30 = .bool false := l30
      have l38 := hdep 38 (by kernel_rfl)
      replace l38 : us 38 = .pointer (some ⟨D0, 1, none⟩) := l38
      simp only [List.getD_cons_succ, List.getD_cons_zero, List.setIfInBounds_toArray, List.set_cons_succ, List.set_cons_zero, l30, l38] at hK ⊢
      refine wpOp_want rfl (by rfl) ?_
      go_simp
      exact hK _ _ _ rfl (Chg.refl _ _) rfl
    · have l30 := hdep 30 (by kernel_rfl)
      replace l30 : us 30 = .bool false := l30
      simp only [List.getD_cons_succ, List.getD_cons_zero, List.setIfInBounds_toArray, List.set_cons_succ, List.set_cons_zero, l30] at hK ⊢
      refine wpOp_want rfl (by rfl) ?_
      go_simp
      exact hK _ _ _ rfl (Chg.refl _ _) rfl
    · have l30 := hdep 30 (by kernel_rfl)
      replace l30 : us 30 = .bool false := l30
      have l40 := hdep 40 (by kernel_rfl)
      replace l40 : us 40 = .pointer (some ⟨D0, 2, none⟩) := l40
      simp only [List.getD_cons_succ, List.getD_cons_zero, List.setIfInBounds_toArray, List.set_cons_succ, List.set_cons_zero, l30, l40] at hK ⊢
      refine wpOp_want rfl (by rfl) ?_
      go_simp
      exact hK _ _ _ rfl (Chg.refl _ _) rfl
    · have l30 := hdep 30 (by kernel_rfl)
      replace l30 : us 30 = .bool false := l30
      have l37 := hdep 37 (by kernel_rfl)
      replace l37 : us 37 = .pointer (some ⟨RB, 0, none⟩) := l37
      have l39 := hdep 39 (by kernel_rfl)
      replace l39 : us 39 = .int .i64 rule := l39
      have l41 := hdep 41 (by kernel_rfl)
      replace l41 : us 41 = .int .i64 place := l41
      simp only [List.getD_cons_succ, List.getD_cons_zero, List.setIfInBounds_toArray, List.set_cons_succ, List.set_cons_zero, l30, l37, l39, l41] at hK ⊢
      refine wpOp_want rfl (by rfl) ?_
      go_simp
      refine (HS.out.2.2.2.2.2.1 W hC).mono ?_
      rintro e wz ⟨a56, n56, c56, rfl, m56, f56, hz⟩
      exact hK _ _ _ rfl hz ⟨a56, n56, c56, rfl, ⟨m56, f56⟩⟩
    · have l30 := hdep 30 (by kernel_rfl)
      replace l30 : us 30 = .bool false := l30
      have l36 := hdep 36 (by kernel_rfl)
      obtain ⟨a50, n50, c50, l36, p36⟩ := l36
      have l42 := hdep 42 (by kernel_rfl)
      obtain ⟨a56, n56, c56, l42, p42⟩ := l42
      simp only [List.getD_cons_succ, List.getD_cons_zero, List.setIfInBounds_toArray, List.set_cons_succ, List.set_cons_zero, l30, l36, l42] at hK ⊢
      refine wpOp_want rfl (by rfl) ?_
      go_simp
      refine (sameInts_self W a50 a56 n50 c50 n56 c56 iv p36.len p42.len (by have := p36.len; have := HS.out.2.2.2.2.2.2.2.2; omega) (ownInts_read (show FreshInts 0 W a50 c50 iv from p36.row).own).1 (ownInts_read (show FreshInts 0 W a56 c56 iv from p42.row).own).1).mono ?_
      rintro e wz ⟨rfl, hz⟩
      exact hK _ _ _ rfl hz rfl
    · have l30 := hdep 30 (by kernel_rfl)
      replace l30 : us 30 = .bool false := l30
      have l43 := hdep 43 (by kernel_rfl)
      replace l43 : us 43 = .bool true := l43
      simp only [List.getD_cons_succ, List.getD_cons_zero, List.setIfInBounds_toArray, List.set_cons_succ, List.set_cons_zero, l30, l43] at hK ⊢
      refine wpOp_want rfl (by rfl) ?_
      go_simp
      exact hK _ _ _ rfl (Chg.refl _ _) rfl
    · have l30 := hdep 30 (by kernel_rfl)
      replace l30 : us 30 = .bool false := l30
      have l44 := hdep 44 (by kernel_rfl)
      replace l44 : us 44 = .bool false := l44
      simp only [List.getD_cons_succ, List.getD_cons_zero, List.setIfInBounds_toArray, List.set_cons_succ, List.set_cons_zero, l30, l44] at hK ⊢
      refine wpOp_at rfl rfl ?_
      go_simp
      exact hK _ _ _ rfl (Chg.refl _ _) rfl
  case hdone2 =>
    intro us W hC hall
    have l0 := hall 0 (by decide)
    replace l0 : us 0 = .slice pa pn pc := l0
    have l1 := hall 1 (by decide)
    replace l1 : us 1 = .int .i64 pn := l1
    have l2 := hall 2 (by decide)
    replace l2 : us 2 = .pointer (some ⟨RB, 0, none⟩) := l2
    have l3 := hall 3 (by decide)
    replace l3 : us 3 = .pointer (some ⟨RB, 0, none⟩) := l3
    have l4 := hall 4 (by decide)
    replace l4 : us 4 = .pointer (some ⟨RB, 0, none⟩) := l4
    have l5 := hall 5 (by decide)
    replace l5 : us 5 = .slice ra pn rc := l5
    have l6 := hall 6 (by decide)
    replace l6 : us 6 = .int .i64 pn := l6
    have l7 := hall 7 (by decide)
    replace l7 : us 7 = .bool false := l7
    have l8 := hall 8 (by decide)
    replace l8 : us 8 = .bool false := l8
    have l9 := hall 9 (by decide)
    replace l9 : us 9 = .pointer (some ⟨HB, 0, none⟩) := l9
    have l10 := hall 10 (by decide)
    replace l10 : us 10 = .bool tv := l10
    have l11 := hall 11 (by decide)
    replace l11 : us 11 = .pointer (some ⟨RB, 0, none⟩) := l11
    have l12 := hall 12 (by decide)
    replace l12 : us 12 = .bool tv := l12
    have l13 := hall 13 (by decide)
    replace l13 : us 13 = .bool false := l13
    have l14 := hall 14 (by decide)
    replace l14 : us 14 = .bool false := l14
    have l15 := hall 15 (by decide)
    replace l15 : us 15 = .bool false := l15
    have l16 := hall 16 (by decide)
    replace l16 : us 16 = .pointer (some ⟨HB, 0, none⟩) := l16
    have l17 := hall 17 (by decide)
    replace l17 : us 17 = .pointer (some ⟨D0, 2, none⟩) := l17
    have l18 := hall 18 (by decide)
    replace l18 : us 18 = .int .i64 place := l18
    have l19 := hall 19 (by decide)
    replace l19 : us 19 = .pointer (some ⟨D0, 3, none⟩) := l19
    have l20 := hall 20 (by decide)
    replace l20 : us 20 = .slice ta tn tc := l20
    have l21 := hall 21 (by decide)
    replace l21 : us 21 = .bool fv := l21
    have l22 := hall 22 (by decide)
    replace l22 : us 22 = .pointer (some ⟨RB, 0, none⟩) := l22
    have l23 := hall 23 (by decide)
    replace l23 : us 23 = .pointer (some ⟨D0, 2, none⟩) := l23
    have l24 := hall 24 (by decide)
    replace l24 : us 24 = .int .i64 place := l24
    have l25 := hall 25 (by decide)
    replace l25 : us 25 = .pointer (some ⟨D0, 3, none⟩) := l25
    have l26 := hall 26 (by decide)
    replace l26 : us 26 = .slice ta tn tc := l26
    have l27 := hall 27 (by decide)
    replace l27 : us 27 = .bool fv := l27
    have l28 := hall 28 (by decide)
    replace l28 : us 28 = .bool false := l28
    have l29 := hall 29 (by decide)
    replace l29 : us 29 = .bool false := l29
    have l30 := hall 30 (by decide)
    replace l30 : us 30 = .bool false := l30
    have l31 := hall 31 (by decide)
    replace l31 : us 31 = .pointer (some ⟨HB, 0, none⟩) := l31
    have l32 := hall 32 (by decide)
    replace l32 : us 32 = .pointer (some ⟨D0, 1, none⟩) := l32
    have l33 := hall 33 (by decide)
    replace l33 : us 33 = .int .i64 rule := l33
    have l34 := hall 34 (by decide)
    replace l34 : us 34 = .pointer (some ⟨D0, 2, none⟩) := l34
    have l35 := hall 35 (by decide)
    replace l35 : us 35 = .int .i64 place := l35
    have l36 := hall 36 (by decide)
    obtain ⟨a50, n50, c50, l36, p36⟩ := l36
    have l37 := hall 37 (by decide)
    replace l37 : us 37 = .pointer (some ⟨RB, 0, none⟩) := l37
    have l38 := hall 38 (by decide)
    replace l38 : us 38 = .pointer (some ⟨D0, 1, none⟩) := l38
    have l39 := hall 39 (by decide)
    replace l39 : us 39 = .int .i64 rule := l39
    have l40 := hall 40 (by decide)
    replace l40 : us 40 = .pointer (some ⟨D0, 2, none⟩) := l40
    have l41 := hall 41 (by decide)
    replace l41 : us 41 = .int .i64 place := l41
    have l42 := hall 42 (by decide)
    obtain ⟨a56, n56, c56, l42, p42⟩ := l42
    have l43 := hall 43 (by decide)
    replace l43 : us 43 = .bool true := l43
    have l44 := hall 44 (by decide)
    replace l44 : us 44 = .bool false := l44
    have l45 := hall 45 (by decide)
    replace l45 : us 45 = .bool false := l45
    simp only [actU, Act.put, List.setIfInBounds_toArray, List.set_cons_succ, List.set_cons_zero, Nat.reduceAdd, l0, l1, l2, l3, l4, l5, l6, l7, l8, l9, l10, l11, l12, l13, l14, l15, l16, l17, l18, l19, l20, l21, l22, l23, l24, l25, l26, l27, l28, l29, l30, l31, l32, l33, l34, l35, l36, l37, l38, l39, l40, l41, l42, l43, l44, l45]
    clear hall l0 l1 l2 l3 l4 l5 l6 l7 l8 l9 l10 l11 l12 l13 l14 l15 l16 l17 l18 l19 l20 l21 l22 l23 l24 l25 l26 l27 l28 l29 l30 l31 l32 l33 l34 l35 l36 l37 l38 l39 l40 l41 l42 l43 l44 l45
    have HC2 := Lib.hid hC
    clear hC p36 p42
    have HC3 := Lib.hid (HP1.out.2.2.2.tr HC2.out)
    go_wp2_with fail
    go_loopg [8] pn (fun dd jv wr => ∃ i : Nat, dd = pn - i ∧ i ≤ pn ∧ jv = .int .i64 i ∧ Hid (Chg [] w1 wr))
    case atStart => exact ⟨0, rfl, Nat.zero_le _, rfl, HC2⟩
    case round =>
      obtain ⟨i, rfl, hi, rfl, hI⟩ := hrel
      obtain ⟨wq, rfl⟩ : ∃ wq, wq = wr := ⟨_, rfl⟩
      have hrq := HP1.out.2.1.chg0 hI.out
      by_cases hil : i < pn
      · have hiL : i < l.length := by have := HH.out.2.2.2.2.1; omega
        have hiS : i < s.length := by have := HH.out.2.2.2.2.2.1; omega
        obtain ⟨G, eG, hg1, hg2, z0, z1, z2, z3, z4, -, hGl, -⟩ := hrq.at hiL
        subst eG
        have x0 := cells1 hrq.top
        rw [← HH.out.2.2.2.2.1] at x0 hg1
        have hrw := hrq.rows _ (List.getElem_mem hiL)
        have hf : l[i].f = s[i] := by rw [← rfs_get l hiL]; simp only [HH.out.2.2.1]
        obtain ⟨GP, eP, hp1, hp2, hpc, -, -⟩ := row_cells HP1.out.2.2.1 (by omega)
        subst eP
        have hz := flat_get (fun f : Fm => [Value.int .i64 f.rule, .int .i64 f.place]) 2 (fun _ => rfl) s i
        have hz' : ∀ r, r < 2 → (prCells s)[i * 2 + r]? = s[i]?.bind fun a => [Value.int .i64 a.rule, .int .i64 a.place][r]? := hz
        have y0 := hI.out.cell (v := .int .i64 s[i].rule) ((hpc (i * 2 + 0) (by omega)).trans ((hz' 0 (by omega)).trans (by rw [List.getElem?_eq_getElem hiS]; rfl))) (by simp)
        have y1 := hI.out.cell (v := .int .i64 s[i].place) ((hpc (i * 2 + 1) (by omega)).trans ((hz' 1 (by omega)).trans (by rw [List.getElem?_eq_getElem hiS]; rfl))) (by simp)
        simp only [Nat.add_zero] at y0
        clear hz'
        obtain ⟨x, hx⟩ : ∃ x, x = l[i] := ⟨_, rfl⟩
        rw [← hx] at z0 z1 z2 z3 z4 hrw hf
        rw [← hf] at y0 y1
        have hfr := freeF_self HH.out.2.2.2.1.dist hiS (HH.out.2.2.2.1.own _ (List.getElem_mem hiS))
        have hfi := invF_self HH.out.2.2.2.1.dist hiS
        have hil2 := HH.out.2.2.2.1.inv _ (List.getElem_mem hiS)
        rw [← hf] at hfr hfi hil2
        obtain ⟨⟨frule, fplace, ftch, finv, ftnt⟩, fta, ftc, fia, fic⟩ := x
        simp only at z0 z1 z2 z3 z4 hrw y0 y1 hfr hfi hil2
        obtain ⟨ftn, hftn⟩ : ∃ n, n = ftch.length := ⟨_, rfl⟩
        obtain ⟨fin, hfin⟩ : ∃ n, n = finv.length := ⟨_, rfl⟩
        rw [← hftn] at z2
        rw [← hfin] at z3
        have hi1 : (i : Int) < pn := by omega
        have HF := Lib.hid (And.intro hrw (And.intro hfr (And.intro hfi (And.intro hftn (And.intro hfin hil2)))))
        have hsq := HP1.out.1.chg0 hI.out
        have hIv := fun (W : World) (hW : Chg [] wq W) => involvedSP b W HB s (hsq.chg0 hW) HH.out.2.2.2.1.inv frule fplace
        rw [hfi] at hIv
        have HIV := Lib.hid (And.intro hIv hsq)
        clear hiL hiS hrq hrw hf hz hx hfr hfi hil2 hftn hfin hIv hsq hpc
        go_wp2_with fail
        have hcF := (Chg.refl [] wq).alloc (.cells #[.int .i64 frule, .int .i64 fplace, .slice fta ftn ftc, .slice fia fin fic, .bool ftnt] 69)
        have hbF := heap_alloc_same wq (.cells #[.int .i64 frule, .int .i64 fplace, .slice fta ftn ftc, .slice fia fin fic, .bool ftnt] 69)
        refine (HIV.out.1 _ hcF).mono ?_
        rintro e w3 ⟨ga, gn, gc, rfl, hgn, hgf, hc3⟩
        obtain ⟨F9, hF9⟩ : ∃ z, z = wq.heap.size := ⟨_, rfl⟩
        rw [← hF9] at hbF
        have hq3 := hcF.tr hc3
        obtain ⟨r0, r1, r2, r3, r4⟩ := cellsR5 (hc3.heap hbF (by simp))
        have HG := Lib.hid (And.intro hgn (And.intro hgf (And.intro hq3 hF9)))
        have hown := (HF.out.1.1.1).own
        have hown2 := (HF.out.1.2.1).own
        rw [← HF.out.2.2.2.1] at hown
        rw [← HF.out.2.2.2.2.1] at hown2
        obtain ⟨ht1, -, ht2, ht3⟩ := ownInts_read hown
        obtain ⟨hv1, -, -, -⟩ := ownInts_read hown2
        have ht4 : ftc ≤ 9223372036854775807 := by simpa only [maxLen] using ht3
        have cS := calls_rg (w := w3) (fun W hW => sameInts_self W ga fia gn gc fin fic finv HG.out.1 HF.out.2.2.2.2.1 (by have := HG.out.1; have := HF.out.2.2.2.2.2; omega) ((ownInts_read HG.out.2.1.own).1.keep hW.kp) ((hv1.keep HG.out.2.2.1.kp).keep hW.kp))
        have cF := calls_rg (w := w3) (fun W hW => freeSP b W HB s ((HIV.out.2.chg0 HG.out.2.2.1).chg0 hW) fplace fta ftn ftc ftch HF.out.2.2.2.1 ht2 ht4 ((ht1.keep HG.out.2.2.1.kp).keep hW.kp))
        rw [HF.out.2.1] at cF
        have ky0 := cell_rg (HG.out.2.2.1.cell y0 (by simp))
        have ky1 := cell_rg (HG.out.2.2.1.cell y1 (by simp))
        have kr0 := cell_rg r0
        have kr1 := cell_rg r1
        have kr2 := cell_rg r2
        have kr3 := cell_rg r3
        clear hgn hgf hc3 hcF hbF hq3 hown hown2 ht1 ht3 hv1 y0 y1 z0 z1 z2 z3 z4 x0
        go_wp2_with fail
        rw [← HG.out.2.2.2]
        clear hF9 r0 r1 r2 r3 r4
        refine wp_region_quiet_below (by kernel_rfl) (by kernel_rfl) ?_
        repeat (go_big_quiet_step (first | (with_reducible exact cS _ _) | (with_reducible exact cF _ _)))
        refine wpQuiet_nil ?_
        intro w5 hw5
        have HW5 := Lib.hid (chg_of_rg hw5)
        clear hw5 cS cF ky0 ky1 kr0 kr1 kr2 kr3
        obtain ⟨S9, hS9⟩ : ∃ z, z = (wq.alloc (.cells #[.int .i64 frule, .int .i64 fplace, .slice fta ftn ftc, .slice fia fin fic, .bool ftnt] 69)).heap.size := ⟨_, rfl⟩
        have hrow5 := HW5.out.row HG.out.2.1 (fun _ _ => by simp)
        rw [← hS9, ← HG.out.1] at hrow5
        have hSq : wq.heap.size ≤ S9 := by rw [hS9, World.size_alloc]; omega
        have hgn9 : gn ≤ 1000000 := by have := HG.out.1; have := HF.out.2.2.2.2.2; omega
        have HR := Lib.hid (And.intro hrow5 (HG.out.2.2.1.tr HW5.out))
        clear hS9 hrow5
        go_wp2_with fail
        go_loopg [11] gn (fun dd jv wr => ∃ j : Nat, dd = gn - j ∧ j ≤ gn ∧ jv = .int .i64 j ∧ Hid ((∃ zs, wr.ownsRow S9 3 1 (.slice ga gn gc) gn zs) ∧ Chg [] wq wr))
        case atStart => exact ⟨0, rfl, Nat.zero_le _, rfl, Lib.hid ⟨⟨_, HR.out.1⟩, HR.out.2⟩⟩
        case round =>
          obtain ⟨j, rfl, hj, rfl, hJ⟩ := hrel
          obtain ⟨wz, rfl⟩ : ∃ wz, wz = wr := ⟨_, rfl⟩
          by_cases hjl : j < gn
          · obtain ⟨⟨zs, hzs⟩, hcz⟩ := hJ.out
            obtain ⟨GI, eGI, hj1, hj2, hjc, -, -⟩ := row_cells hzs (by omega)
            subst eGI
            obtain ⟨hcj, hfj, hbj, -, hput⟩ := row_put hzs (i := j) (by omega)
            obtain ⟨hp1, hp2⟩ := hput (.int .i64 77)
            obtain ⟨v9, hv9⟩ : ∃ v, zs[j]? = some v := ⟨_, List.getElem?_eq_getElem (by have := hzs.1; omega)⟩
            rw [hv9] at hcj
            have hji : (j : Int) < gn := by omega
            have HP9 := Lib.hid (And.intro hp1 (And.intro (hcz.trans hp2 (fun k hk => .inr (by simp only [List.mem_singleton] at hk; omega))) trivial))
            clear hzs hcz hjc hput hp1 hp2 hv9
            go_wp2_with fail
            go_roundg (gn - (j + 1))
            case measure => omega
            case rel => exact ⟨j + 1, rfl, by omega, by go_num, Lib.hid ⟨⟨_, HP9.out.1⟩, HP9.out.2.1⟩⟩
          · obtain rfl : j = gn := by omega
            go_wp2_with fail
            go_roundg (pn - (i + 1))
            case measure => omega
            case rel => exact ⟨i + 1, rfl, by omega, by go_num, Lib.hid (hI.out.tr hJ.out.2)⟩
      · obtain rfl : i = pn := by omega
        clear hrq
        go_wp2_with fail
        go_ret
        exact ⟨rfl, (HH.out.2.2.2.2.2.2.2.2.1.tr HP1.out.2.2.2).tr hI.out⟩
end Go.Proofs.Ytnajhcoimohcaaa

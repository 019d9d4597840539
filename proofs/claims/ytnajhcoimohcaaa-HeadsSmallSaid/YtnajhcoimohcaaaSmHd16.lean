/-
  The document's heads: what was found of a pair so far is read.
  Conditions: none.
-/
import Derived.Test.YtnajhcoimohcaaaSmHd15
import Derived.Test.YtnajhcoimohcaaaSmHd9
set_option linter.unusedVariables false
set_option linter.unusedSimpArgs false
set_option linter.unnecessarySimpa false
namespace Go.Proofs.Ytnajhcoimohcaaa
open Go.RowKit Go.MapKept

def frOf (s : List Fm) : List Fr := s.map fun f => ⟨f, 0, 0⟩
theorem frOf_len (s : List Fm) : (frOf s).length = s.length := by simp [frOf]
theorem fms_frOf (s : List Fm) : fms (frOf s) = s := by simp [fms, frOf, Function.comp_def]
def rlP (k i : Nat) (s : List Fm) : List Fm := fms (rl k i (frOf s))
theorem rlP_len (k i : Nat) (s : List Fm) : (rlP k i s).length = s.length := by simp [rlP, fms_len, rl_len, frOf_len]
theorem rlP_start (k : Nat) (s : List Fm) : rlP k (k + 1) s = s := by rw [rlP, rl_start, fms_frOf]
theorem frOf_get {s : List Fm} {i : Nat} (h : i < s.length) : (frOf s)[i]'(by rw [frOf_len]; exact h) = ⟨s[i], 0, 0⟩ := by simp [frOf]
theorem rlP_at {k i : Nat} {s : List Fm} (hk : k < i) (hi : i < s.length) : (rlP k i s)[i]'(by rw [rlP_len]; exact hi) = s[i] := by
  have h1 := rl_get (k := k) (i := i) (l := frOf s) (j := i) (by rw [frOf_len]; exact hi)
  rw [rdF_out (by omega) (by omega), frOf_get hi] at h1
  unfold rlP
  rw [fms_get _ (by rw [rl_len, frOf_len]; exact hi), h1]
theorem rlP_k {k i : Nat} {s : List Fm} (hk : k < s.length) : (rlP k i s)[k]'(by rw [rlP_len]; exact hk) = { s[k] with inv := addL s[k].inv (rdR k i (frOf s)) } := by
  have h1 := rl_get (k := k) (i := i) (l := frOf s) (j := k) (by rw [frOf_len]; exact hk)
  rw [rdF_k, frOf_get hk] at h1
  unfold rlP
  rw [fms_get _ (by rw [rl_len, frOf_len]; exact hk), h1]
theorem rlP_succ {k i : Nat} {s : List Fm} (hk : k < i) (hi : i < s.length) :
    rlP k (i + 1) s = ((rlP k i s).set i { s[i] with tnt := true }).set k { (s[k]'(by omega)) with inv := addS (addL (s[k]'(by omega)).inv (rdR k i (frOf s))) s[i].rule } := by
  unfold rlP
  rw [rl_succ hk (by rw [frOf_len]; exact hi)]
  simp only [fms, List.map_set, frOf_get hi, frOf_get (show k < s.length by omega)]
theorem rlP_all {k : Nat} {s : List Fm} {r p : Int} (hk : k < s.length) (h : atI s r p = k) : readS s r p = (touchS (rlP k s.length s) p [r], 0) := by
  have h1 := fms_rl (k := k) (l := frOf s) (r := r) (p := p) (by rw [frOf_len]; exact hk) (by rw [fms_frOf]; exact h)
  rw [fms_frOf, frOf_len] at h1
  unfold readS rlP
  rw [if_neg (by omega), h1]
theorem rlP_tch {k i : Nat} {s : List Fm} {n : Nat} (h : ∀ f ∈ s, f.tch.length ≤ n) : ∀ f ∈ rlP k i s, f.tch.length ≤ n := fun f hf => by
  obtain ⟨j, hj, rfl⟩ := List.mem_iff_getElem.1 hf
  rw [rlP_len] at hj
  have h1 := rl_get (k := k) (i := i) (l := frOf s) (j := j) (by rw [frOf_len]; exact hj)
  rw [frOf_get hj] at h1
  have h2 : (rlP k i s)[j]'(by rw [rlP_len]; exact hj) = (rdF k i (rdR k i (frOf s)) j ⟨s[j], 0, 0⟩).f := by
    unfold rlP
    rw [fms_get _ (by rw [rl_len, frOf_len]; exact hj), h1]
  rw [h2]
  have := h s[j] (List.getElem_mem hj)
  unfold rdF
  split
  · exact this
  · split
    · exact this
    · exact this
theorem rdR_len (k i : Nat) (s : List Fm) : (rdR k i (frOf s)).length ≤ s.length := by
  unfold rdR
  rw [List.length_map, List.length_take, List.length_drop, frOf_len]
  omega

set_option maxRecDepth 100000 in
set_option maxHeartbeats 8000000 in
theorem readR_any {NB : Nat} (w : World) (B : Nat) (a : Option Addr) (c : Nat) (l : List Rf) (h : RefAt NB w B a c l) (hsz : ∀ f ∈ rfs l, f.tch.length ≤ 1000000 ∧ f.inv.length + l.length ≤ 1000000) (r p : Int) :
    Calls Try.prog 24 #[.pointer (some ⟨B, 0, none⟩), .int .i64 r, .int .i64 p] w (OpR NB w B a c l (readS (rfs l) r p)) := by
  have hat := atR_any w B a c l h r p
  rcases atI_cases (rfs l) r p with ⟨h0, -⟩ | ⟨k, hk, h0, -, -⟩
  · rw [h0] at hat
    have HH := Lib.hid (And.intro h h0)
    clear h hsz h0
    go_enter Try.func24, Try.ntmps24
    go_wp2_with fail
    refine hat.mono ?_
    clear hat
    rintro e w2 ⟨rfl, hc2⟩
    have H2 := Lib.hid hc2
    clear hc2
    go_wp2_with fail
    go_ret
    exact ⟨a, c, l, by simp [readS, HH.out.2], HH.out.1.chg0 H2.out, by simp [readS, HH.out.2], H2.out.any, fun x hx => .inl hx⟩
  · rw [h0] at hat
    obtain ⟨n, hn⟩ : ∃ n, n = l.length := ⟨_, rfl⟩
    have hkn : k < n := by rw [rfs_len] at hk; omega
    obtain ⟨G, rfl, hcc1, hcc2, -, -, -, -, -, -, hGl, -⟩ := h.at (i := k) (by omega)
    rw [← hn] at hcc1
    have HH := Lib.hid (And.intro h (And.intro h0 (And.intro hn (And.intro hk hsz))))
    have hwk : IntKind.i64.wrap ((k : Int) + 1) = (k : Int) + 1 := IntWalk.i64_in _ (by omega)
    have hk0 : decide ((k : Int) < 0) = false := decide_eq_false (by omega)
    clear h h0 hn hk hsz
    go_enter Try.func24, Try.ntmps24
    go_wp2_with fail
    refine hat.mono ?_
    clear hat
    rintro e w2 ⟨rfl, hc2⟩
    have H2 := Lib.hid hc2
    clear hc2
    go_wp2_with fail
    go_loopg [8] (n - (k + 1)) (fun dd iv wr => ∃ i : Nat, dd = n - i ∧ k < i ∧ i ≤ n ∧ iv = .int .i64 i ∧ Hid (∃ l', l'.length = n ∧ RefAt NB wr B (some ⟨G, 0, none⟩) c l' ∧ rfs l' = rlP k i (rfs l) ∧ Chg [G] w wr))
    case atStart => exact ⟨k + 1, rfl, by omega, by omega, by go_num, Lib.hid ⟨l, HH.out.2.2.1.symm, HH.out.1.chg0 H2.out, (rlP_start _ _).symm, H2.out.any⟩⟩
    case round =>
      obtain ⟨i, rfl, hki, hi, rfl, hI⟩ := hrel
      obtain ⟨wq, rfl⟩ : ∃ wq, wq = wr := ⟨_, rfl⟩
      obtain ⟨l', hl', hq, hf', hc'⟩ := hI.out
      by_cases hil : i < n
      · have hiL : i < l'.length := by omega
        have hkL : k < l'.length := by omega
        have hn2 := HH.out.2.2.1
        have hiS : i < (rfs l).length := by rw [rfs_len]; omega
        have hkS : k < (rfs l).length := by rw [rfs_len]; omega
        obtain ⟨G', eG, -, -, z0, -, -, -, z4, zf, -, cur, hcur⟩ := hq.at hiL
        cases eG
        have hfi : l'[i].f = (rfs l)[i] := by
          rw [← rfs_get l' hiL, ← rlP_at hki hiS]
          congr 1
        have hfk : l'[k].f = { (rfs l)[k] with inv := addL (rfs l)[k].inv (rdR k i (frOf (rfs l))) } := by
          rw [← rfs_get l' hkL, ← rlP_k hkS]
          congr 1
        have hsk := HH.out.2.2.2.2 _ (List.getElem_mem hkS)
        obtain ⟨ru, hru⟩ : ∃ z, z = l'[i].f.rule := ⟨_, rfl⟩
        rw [← hru] at z0
        obtain ⟨tv, htv⟩ : ∃ z, z = l'[i].f.tnt := ⟨_, rfl⟩
        rw [← htv] at z4
        clear htv
        have hput := hq.put hiL (r := 4) (by decide) (y := ⟨{ l'[i].f with tnt := true }, l'[i].ta, l'[i].tc, l'[i].ia, l'[i].ic⟩) (v := .bool true) rfl ⟨(hq.rows _ (List.getElem_mem hiL)).1, (hq.rows _ (List.getElem_mem hiL)).2⟩
        obtain ⟨wt, et⟩ : ∃ z, z = wq.setCell ⟨G, i * 5 + 4, none⟩ (.bool true) := ⟨_, rfl⟩
        rw [← et] at hput
        obtain ⟨l1, hl1⟩ : ∃ z, z = l'.set i ⟨{ l'[i].f with tnt := true }, l'[i].ta, l'[i].tc, l'[i].ia, l'[i].ic⟩ := ⟨_, rfl⟩
        rw [← hl1] at hput
        have hl1n : l1.length = n := by rw [hl1, List.length_set]; exact hl'
        have hk1 : l1[k]'(by omega) = l'[k] := by simp only [hl1]; rw [List.getElem_set_ne (by omega)]
        have hi1v : l1[i]'(by omega) = ⟨{ l'[i].f with tnt := true }, l'[i].ta, l'[i].tc, l'[i].ia, l'[i].ic⟩ := by simp only [hl1]; rw [List.getElem_set_self]
        obtain ⟨G', eG, -, -, -, -, -, u3, -, uf, -, -⟩ := hput.1.at (i := k) (by omega)
        cases eG
        obtain ⟨G', eG, -, -, u0, -, -, -, -, -, -, -⟩ := hput.1.at (i := i) (by omega)
        cases eG
        have hrk := (hput.1.rows _ (List.getElem_mem (show k < l1.length by omega))).2
        rw [hk1] at u3 hrk
        rw [hi1v] at u0
        simp only at u0
        rw [← hru] at u0
        obtain ⟨x, hx⟩ : ∃ x, x = l'[k] := ⟨_, rfl⟩
        rw [← hx] at u3 hrk hfk hk1
        obtain ⟨⟨xrule, xplace, tch, inv, tnt⟩, ta, tc, ia, ic⟩ := x
        simp only at u3 hrk hfk
        have hinvl : inv.length ≤ 1000000 := by
          have e1 : inv = addL (rfs l)[k].inv (rdR k i (frOf (rfs l))) := by
            have := congrArg Fm.inv hfk
            exact this
          have := addL_len (l := (rfs l)[k].inv) (xs := rdR k i (frOf (rfs l)))
          have := rdR_len k i (rfs l)
          rw [rfs_len] at this
          rw [e1]
          omega
        have x0 := cells1 hq.top
        rw [hl'] at x0
        have y0 := cells1 hput.1.top
        rw [hl1n] at y0
        have f4 := zf (i * 5 + 4)
        have hk1i : (k : Int) < n := by omega
        have hi1i : (i : Int) < n := by omega
        have HS := Lib.hid (And.intro hput (And.intro hl1n (And.intro hrk (And.intro hinvl (And.intro y0 (And.intro u3 (And.intro u0 (And.intro hcc1 (And.intro hkn hil)))))))))
        have HQ := Lib.hid (And.intro hc' hf')
        have HQ2 : Hid (∃ h : i < l'.length, ∃ h2 : i < (rfs l).length, ∃ h3 : k < (rfs l).length, ∃ h4 : k < l1.length, l'[i].f = (rfs l)[i] ∧ (⟨xrule, xplace, tch, inv, tnt⟩ : Fm) = { (rfs l)[k] with inv := addL (rfs l)[k].inv (rdR k i (frOf (rfs l))) } ∧ ru = l'[i].f.rule ∧ l1[k] = (⟨⟨xrule, xplace, tch, inv, tnt⟩, ta, tc, ia, ic⟩ : Rf) ∧ l1 = l'.set i ⟨{ l'[i].f with tnt := true }, l'[i].ta, l'[i].tc, l'[i].ia, l'[i].ic⟩) := Lib.hid ⟨hiL, hiS, hkS, by omega, hfi, hfk, hru, hk1, hl1⟩
        clear hput hl1n hrk hinvl y0 u3 u0 hc' hf' hl' hl1 hfi hfk hru hk1 hi1v hx hq hiL hkL hn2 hiS hkS hsk hcur zf uf
        go_wp2_with fail
        rw [← et]
        clear et x0 z0 f4 z4
        refine wp_region_tail1 (by kernel_rfl) (by kernel_rfl) [33, 34, 35, 36, 37, 38, 39, 40, 41, 42, 43, 44, 45, 46, 47, 48, 49, 50, 51, 52, 53, 54, 55, 56] (by kernel_rfl) (fun rI rV rW => match rI with | 0 => rV = .pointer (some ⟨B, 0, none⟩) | 1 => rV = .pointer (some ⟨B, 0, none⟩) | 2 => rV = .pointer (some ⟨B, 0, none⟩) | 3 => rV = .slice (some ⟨G, 0, none⟩) n c | 4 => rV = .int .i64 k | 5 => rV = .pointer (some ⟨B, 0, none⟩) | 6 => rV = .pointer (some ⟨B, 0, none⟩) | 7 => rV = .pointer (some ⟨B, 0, none⟩) | 8 => rV = .slice (some ⟨G, 0, none⟩) n c | 9 => rV = .int .i64 k | 10 => rV = .pointer (some ⟨G, k * 5, none⟩) | 11 => rV = .pointer (some ⟨G, k * 5 + 3, none⟩) | 12 => rV = .slice ia inv.length ic | 13 => rV = .pointer (some ⟨B, 0, none⟩) | 14 => rV = .pointer (some ⟨B, 0, none⟩) | 15 => rV = .pointer (some ⟨B, 0, none⟩) | 16 => rV = .slice (some ⟨G, 0, none⟩) n c | 17 => rV = .int .i64 i | 18 => rV = .pointer (some ⟨G, i * 5, none⟩) | 19 => rV = .pointer (some ⟨G, i * 5, none⟩) | 20 => rV = .int .i64 ru | 21 => ∃ a54 c54, rV = .slice a54 (addS inv ru).length c54 ∧ DocI NB rW a54 c54 (addS inv ru) | 22 => rV = .pointer (some ⟨G, k * 5, none⟩) | 23 => rV = .pointer (some ⟨G, k * 5 + 3, none⟩) | _ => True) ?hS8 ?hstep8 ?hdone8
        case hS8 =>
          intro rI rV rW rW' hc rP
          match rI, rP with
          | 0, rP => exact rP
          | 1, rP => exact rP
          | 2, rP => exact rP
          | 3, rP => exact rP
          | 4, rP => exact rP
          | 5, rP => exact rP
          | 6, rP => exact rP
          | 7, rP => exact rP
          | 8, rP => exact rP
          | 9, rP => exact rP
          | 10, rP => exact rP
          | 11, rP => exact rP
          | 12, rP => exact rP
          | 13, rP => exact rP
          | 14, rP => exact rP
          | 15, rP => exact rP
          | 16, rP => exact rP
          | 17, rP => exact rP
          | 18, rP => exact rP
          | 19, rP => exact rP
          | 20, rP => exact rP
          | 21, rP => exact (by obtain ⟨a54, c54, e9, hp⟩ := rP; exact ⟨a54, c54, e9, hp.chg0 hc⟩)
          | 22, rP => exact rP
          | 23, rP => exact rP
          | _ + 24, _ => trivial
        case hstep8 =>
          intro rI rH us W hC hdep K hK
          have hiN : rI < 24 := rH
          simp only [actU, Act.put, List.setIfInBounds_toArray, List.set_cons_succ, List.set_cons_zero, Nat.reduceAdd] at hK ⊢
          have hcell0 := hC.cell HS.out.2.2.2.2.1 (by simp)
          have hcell3 := hC.cell HS.out.2.2.2.2.2.1 (by simp)
          have hcellr := hC.cell HS.out.2.2.2.2.2.2.1 (by simp)
          have hnc := HS.out.2.2.2.2.2.2.2.1
          have hkn2 := HS.out.2.2.2.2.2.2.2.2.1
          have hin2 := HS.out.2.2.2.2.2.2.2.2.2
          rcases (show rI = 0 ∨ rI = 1 ∨ rI = 2 ∨ rI = 3 ∨ rI = 4 ∨ rI = 5 ∨ rI = 6 ∨ rI = 7 ∨ rI = 8 ∨ rI = 9 ∨ rI = 10 ∨ rI = 11 ∨ rI = 12 ∨ rI = 13 ∨ rI = 14 ∨ rI = 15 ∨ rI = 16 ∨ rI = 17 ∨ rI = 18 ∨ rI = 19 ∨ rI = 20 ∨ rI = 21 ∨ rI = 22 ∨ rI = 23 by omega) with rfl | rfl | rfl | rfl | rfl | rfl | rfl | rfl | rfl | rfl | rfl | rfl | rfl | rfl | rfl | rfl | rfl | rfl | rfl | rfl | rfl | rfl | rfl | rfl
          · simp only [List.getD_cons_succ, List.getD_cons_zero, List.setIfInBounds_toArray, List.set_cons_succ, List.set_cons_zero] at hK ⊢
            refine wpOp_at rfl rfl ?_
            go_simp
            exact hK _ _ _ rfl (Chg.refl _ _) rfl
          · have l0 := hdep 0 (by kernel_rfl)
            replace l0 : us 0 = .pointer (some ⟨B, 0, none⟩) := l0
            simp only [List.getD_cons_succ, List.getD_cons_zero, List.setIfInBounds_toArray, List.set_cons_succ, List.set_cons_zero, l0] at hK ⊢
            refine wpOp_at rfl rfl ?_
            go_simp
            exact hK _ _ _ rfl (Chg.refl _ _) rfl
          · have l1 := hdep 1 (by kernel_rfl)
            replace l1 : us 1 = .pointer (some ⟨B, 0, none⟩) := l1
            simp only [List.getD_cons_succ, List.getD_cons_zero, List.setIfInBounds_toArray, List.set_cons_succ, List.set_cons_zero, l1] at hK ⊢
            refine wpOp_at rfl rfl ?_
            go_simp
            exact hK _ _ _ rfl (Chg.refl _ _) rfl
          · have l2 := hdep 2 (by kernel_rfl)
            replace l2 : us 2 = .pointer (some ⟨B, 0, none⟩) := l2
            simp only [List.getD_cons_succ, List.getD_cons_zero, List.setIfInBounds_toArray, List.set_cons_succ, List.set_cons_zero, l2] at hK ⊢
            refine wpOp_at rfl rfl ?_
            go_simp
            exact hK _ _ _ rfl (Chg.refl _ _) rfl
          · simp only [List.getD_cons_succ, List.getD_cons_zero, List.setIfInBounds_toArray, List.set_cons_succ, List.set_cons_zero] at hK ⊢
            refine wpOp_at rfl rfl ?_
            go_simp
            exact hK _ _ _ rfl (Chg.refl _ _) rfl
          · simp only [List.getD_cons_succ, List.getD_cons_zero, List.setIfInBounds_toArray, List.set_cons_succ, List.set_cons_zero] at hK ⊢
            refine wpOp_at rfl rfl ?_
            go_simp
            exact hK _ _ _ rfl (Chg.refl _ _) rfl
          · have l5 := hdep 5 (by kernel_rfl)
            replace l5 : us 5 = .pointer (some ⟨B, 0, none⟩) := l5
            simp only [List.getD_cons_succ, List.getD_cons_zero, List.setIfInBounds_toArray, List.set_cons_succ, List.set_cons_zero, l5] at hK ⊢
            refine wpOp_at rfl rfl ?_
            go_simp
            exact hK _ _ _ rfl (Chg.refl _ _) rfl
          · have l6 := hdep 6 (by kernel_rfl)
            replace l6 : us 6 = .pointer (some ⟨B, 0, none⟩) := l6
            simp only [List.getD_cons_succ, List.getD_cons_zero, List.setIfInBounds_toArray, List.set_cons_succ, List.set_cons_zero, l6] at hK ⊢
            refine wpOp_at rfl rfl ?_
            go_simp
            exact hK _ _ _ rfl (Chg.refl _ _) rfl
          · have l7 := hdep 7 (by kernel_rfl)
            replace l7 : us 7 = .pointer (some ⟨B, 0, none⟩) := l7
            simp only [List.getD_cons_succ, List.getD_cons_zero, List.setIfInBounds_toArray, List.set_cons_succ, List.set_cons_zero, l7] at hK ⊢
            refine wpOp_at rfl rfl ?_
            go_simp
            exact hK _ _ _ rfl (Chg.refl _ _) rfl
          · simp only [List.getD_cons_succ, List.getD_cons_zero, List.setIfInBounds_toArray, List.set_cons_succ, List.set_cons_zero] at hK ⊢
            refine wpOp_at rfl rfl ?_
            go_simp
            exact hK _ _ _ rfl (Chg.refl _ _) rfl
          · have l8 := hdep 8 (by kernel_rfl)
            replace l8 : us 8 = .slice (some ⟨G, 0, none⟩) n c := l8
            have l9 := hdep 9 (by kernel_rfl)
            replace l9 : us 9 = .int .i64 k := l9
            simp only [List.getD_cons_succ, List.getD_cons_zero, List.setIfInBounds_toArray, List.set_cons_succ, List.set_cons_zero, l8, l9] at hK ⊢
            refine wpOp_at rfl rfl ?_
            go_simp
            exact hK _ _ _ rfl (Chg.refl _ _) rfl
          · have l10 := hdep 10 (by kernel_rfl)
            replace l10 : us 10 = .pointer (some ⟨G, k * 5, none⟩) := l10
            simp only [List.getD_cons_succ, List.getD_cons_zero, List.setIfInBounds_toArray, List.set_cons_succ, List.set_cons_zero, l10] at hK ⊢
            refine wpOp_at rfl rfl ?_
            go_simp
            exact hK _ _ _ rfl (Chg.refl _ _) rfl
          · have l11 := hdep 11 (by kernel_rfl)
            replace l11 : us 11 = .pointer (some ⟨G, k * 5 + 3, none⟩) := l11
            simp only [List.getD_cons_succ, List.getD_cons_zero, List.setIfInBounds_toArray, List.set_cons_succ, List.set_cons_zero, l11] at hK ⊢
            refine wpOp_at rfl rfl ?_
            go_simp
            exact hK _ _ _ rfl (Chg.refl _ _) rfl
          · simp only [List.getD_cons_succ, List.getD_cons_zero, List.setIfInBounds_toArray, List.set_cons_succ, List.set_cons_zero] at hK ⊢
            refine wpOp_at rfl rfl ?_
            go_simp
            exact hK _ _ _ rfl (Chg.refl _ _) rfl
          · have l13 := hdep 13 (by kernel_rfl)
            replace l13 : us 13 = .pointer (some ⟨B, 0, none⟩) := l13
            simp only [List.getD_cons_succ, List.getD_cons_zero, List.setIfInBounds_toArray, List.set_cons_succ, List.set_cons_zero, l13] at hK ⊢
            refine wpOp_at rfl rfl ?_
            go_simp
            exact hK _ _ _ rfl (Chg.refl _ _) rfl
          · have l14 := hdep 14 (by kernel_rfl)
            replace l14 : us 14 = .pointer (some ⟨B, 0, none⟩) := l14
            simp only [List.getD_cons_succ, List.getD_cons_zero, List.setIfInBounds_toArray, List.set_cons_succ, List.set_cons_zero, l14] at hK ⊢
            refine wpOp_at rfl rfl ?_
            go_simp
            exact hK _ _ _ rfl (Chg.refl _ _) rfl
          · have l15 := hdep 15 (by kernel_rfl)
            replace l15 : us 15 = .pointer (some ⟨B, 0, none⟩) := l15
            simp only [List.getD_cons_succ, List.getD_cons_zero, List.setIfInBounds_toArray, List.set_cons_succ, List.set_cons_zero, l15] at hK ⊢
            refine wpOp_at rfl rfl ?_
            go_simp
            exact hK _ _ _ rfl (Chg.refl _ _) rfl
          · simp only [List.getD_cons_succ, List.getD_cons_zero, List.setIfInBounds_toArray, List.set_cons_succ, List.set_cons_zero] at hK ⊢
            refine wpOp_at rfl rfl ?_
            go_simp
            exact hK _ _ _ rfl (Chg.refl _ _) rfl
          · have l16 := hdep 16 (by kernel_rfl)
            replace l16 : us 16 = .slice (some ⟨G, 0, none⟩) n c := l16
            have l17 := hdep 17 (by kernel_rfl)
            replace l17 : us 17 = .int .i64 i := l17
            simp only [List.getD_cons_succ, List.getD_cons_zero, List.setIfInBounds_toArray, List.set_cons_succ, List.set_cons_zero, l16, l17] at hK ⊢
            refine wpOp_at rfl rfl ?_
            go_simp
            exact hK _ _ _ rfl (Chg.refl _ _) rfl
          · have l18 := hdep 18 (by kernel_rfl)
            replace l18 : us 18 = .pointer (some ⟨G, i * 5, none⟩) := l18
            simp only [List.getD_cons_succ, List.getD_cons_zero, List.setIfInBounds_toArray, List.set_cons_succ, List.set_cons_zero, l18] at hK ⊢
            refine wpOp_at rfl rfl ?_
            go_simp
            exact hK _ _ _ rfl (Chg.refl _ _) rfl
          · have l19 := hdep 19 (by kernel_rfl)
            replace l19 : us 19 = .pointer (some ⟨G, i * 5, none⟩) := l19
            simp only [List.getD_cons_succ, List.getD_cons_zero, List.setIfInBounds_toArray, List.set_cons_succ, List.set_cons_zero, l19] at hK ⊢
            refine wpOp_at rfl rfl ?_
            go_simp
            exact hK _ _ _ rfl (Chg.refl _ _) rfl
          · have l12 := hdep 12 (by kernel_rfl)
            replace l12 : us 12 = .slice ia inv.length ic := l12
            have l20 := hdep 20 (by kernel_rfl)
            replace l20 : us 20 = .int .i64 ru := l20
            simp only [List.getD_cons_succ, List.getD_cons_zero, List.setIfInBounds_toArray, List.set_cons_succ, List.set_cons_zero, l12, l20] at hK ⊢
            refine wpOp_at rfl rfl ?_
            go_simp
            refine (addD_any W ia ic inv (HS.out.2.2.1.chg0 hC) (HS.out.1.1.chg0 hC).ban HS.out.2.2.2.1 ru).mono ?_
            rintro e wz ⟨a54, c54, rfl, f54, hz⟩
            exact hK _ _ _ rfl hz ⟨a54, c54, rfl, f54⟩
          · have l3 := hdep 3 (by kernel_rfl)
            replace l3 : us 3 = .slice (some ⟨G, 0, none⟩) n c := l3
            have l4 := hdep 4 (by kernel_rfl)
            replace l4 : us 4 = .int .i64 k := l4
            simp only [List.getD_cons_succ, List.getD_cons_zero, List.setIfInBounds_toArray, List.set_cons_succ, List.set_cons_zero, l3, l4] at hK ⊢
            refine wpOp_at rfl rfl ?_
            go_simp
            exact hK _ _ _ rfl (Chg.refl _ _) rfl
          · have l22 := hdep 22 (by kernel_rfl)
            replace l22 : us 22 = .pointer (some ⟨G, k * 5, none⟩) := l22
            simp only [List.getD_cons_succ, List.getD_cons_zero, List.setIfInBounds_toArray, List.set_cons_succ, List.set_cons_zero, l22] at hK ⊢
            refine wpOp_at rfl rfl ?_
            go_simp
            exact hK _ _ _ rfl (Chg.refl _ _) rfl
        case hdone8 =>
          intro us W hC hall
          have l0 := hall 0 (by decide)
          replace l0 : us 0 = .pointer (some ⟨B, 0, none⟩) := l0
          have l1 := hall 1 (by decide)
          replace l1 : us 1 = .pointer (some ⟨B, 0, none⟩) := l1
          have l2 := hall 2 (by decide)
          replace l2 : us 2 = .pointer (some ⟨B, 0, none⟩) := l2
          have l3 := hall 3 (by decide)
          replace l3 : us 3 = .slice (some ⟨G, 0, none⟩) n c := l3
          have l4 := hall 4 (by decide)
          replace l4 : us 4 = .int .i64 k := l4
          have l5 := hall 5 (by decide)
          replace l5 : us 5 = .pointer (some ⟨B, 0, none⟩) := l5
          have l6 := hall 6 (by decide)
          replace l6 : us 6 = .pointer (some ⟨B, 0, none⟩) := l6
          have l7 := hall 7 (by decide)
          replace l7 : us 7 = .pointer (some ⟨B, 0, none⟩) := l7
          have l8 := hall 8 (by decide)
          replace l8 : us 8 = .slice (some ⟨G, 0, none⟩) n c := l8
          have l9 := hall 9 (by decide)
          replace l9 : us 9 = .int .i64 k := l9
          have l10 := hall 10 (by decide)
          replace l10 : us 10 = .pointer (some ⟨G, k * 5, none⟩) := l10
          have l11 := hall 11 (by decide)
          replace l11 : us 11 = .pointer (some ⟨G, k * 5 + 3, none⟩) := l11
          have l12 := hall 12 (by decide)
          replace l12 : us 12 = .slice ia inv.length ic := l12
          have l13 := hall 13 (by decide)
          replace l13 : us 13 = .pointer (some ⟨B, 0, none⟩) := l13
          have l14 := hall 14 (by decide)
          replace l14 : us 14 = .pointer (some ⟨B, 0, none⟩) := l14
          have l15 := hall 15 (by decide)
          replace l15 : us 15 = .pointer (some ⟨B, 0, none⟩) := l15
          have l16 := hall 16 (by decide)
          replace l16 : us 16 = .slice (some ⟨G, 0, none⟩) n c := l16
          have l17 := hall 17 (by decide)
          replace l17 : us 17 = .int .i64 i := l17
          have l18 := hall 18 (by decide)
          replace l18 : us 18 = .pointer (some ⟨G, i * 5, none⟩) := l18
          have l19 := hall 19 (by decide)
          replace l19 : us 19 = .pointer (some ⟨G, i * 5, none⟩) := l19
          have l20 := hall 20 (by decide)
          replace l20 : us 20 = .int .i64 ru := l20
          have l21 := hall 21 (by decide)
          obtain ⟨a54, c54, l21, p21⟩ := l21
          have l22 := hall 22 (by decide)
          replace l22 : us 22 = .pointer (some ⟨G, k * 5, none⟩) := l22
          have l23 := hall 23 (by decide)
          replace l23 : us 23 = .pointer (some ⟨G, k * 5 + 3, none⟩) := l23
          simp only [actU, Act.put, List.setIfInBounds_toArray, List.set_cons_succ, List.set_cons_zero, Nat.reduceAdd, l0, l1, l2, l3, l4, l5, l6, l7, l8, l9, l10, l11, l12, l13, l14, l15, l16, l17, l18, l19, l20, l21, l22, l23]
          clear hall l0 l1 l2 l3 l4 l5 l6 l7 l8 l9 l10 l11 l12 l13 l14 l15 l16 l17 l18 l19 l20 l21 l22 l23
          obtain ⟨hiL, hiS, hkS, hk4, hfi, hfk, hru, hk1, hl1⟩ := HQ2.out
          have hqW := HS.out.1.1.chg0 hC
          obtain ⟨G', eG, -, -, -, -, -, y3, -, yf, -, -⟩ := hqW.at hk4
          cases eG
          have f3 := yf (k * 5 + 3)
          rw [hk1] at y3
          have hin2 := (hqW.rows _ (List.getElem_mem hk4)).1
          rw [hk1] at hin2
          have hput := hqW.put hk4 (r := 3) (by decide) (y := ⟨⟨xrule, xplace, tch, addS inv ru, tnt⟩, ta, tc, a54, c54⟩) (v := .slice a54 (addS inv ru).length c54) (by rw [hk1]; rfl) ⟨hin2, p21⟩
          have HP := Lib.hid (And.intro hput hC)
          simp only at y3
          clear hqW hin2 hput hC p21 hiL hiS hkS hk4 hfi hfk hru hk1 hl1 yf
          refine wpOp_at rfl rfl ?_
          go_simp
          go_wp2_with fail
          go_roundg (n - (i + 1))
          case measure => omega
          case rel =>
            obtain ⟨hiL, hiS, hkS, hk4, hfi, hfk, hru, hk1, hl1⟩ := HQ2.out
            refine ⟨i + 1, rfl, by omega, by omega, by go_num, Lib.hid ⟨_, ?_, HP.out.1.1, ?_, ?_⟩⟩
            · rw [List.length_set]; exact HS.out.2.1
            · rw [rfs_set, hl1, rfs_set, HQ.out.2, rlP_succ hki hiS, hfi]
              congr 1
              have e1 : (⟨xrule, xplace, tch, inv, tnt⟩ : Fm).inv = addL (rfs l)[k].inv (rdR k i (frOf (rfs l))) := by rw [hfk]
              have e2 : (⟨xrule, xplace, tch, addS inv ru, tnt⟩ : Fm) = { (⟨xrule, xplace, tch, inv, tnt⟩ : Fm) with inv := addS inv ru } := rfl
              simp only at e1
              rw [e2, hfk, e1, hru, hfi]
            · exact ((HQ.out.1.tr HS.out.1.2).tr HP.out.2.any).tr HP.out.1.2
      · obtain rfl : i = n := by omega
        have x0 := cells1 hq.top
        rw [hl'] at x0
        have ht := touchR_any wq B (some ⟨G, 0, none⟩) c l' hq (by rw [hf']; exact rlP_tch (fun f hf => (HH.out.2.2.2.2 f hf).1)) r p
        rw [hf', HH.out.2.2.1, ← rfs_len] at ht
        have HT := Lib.hid (And.intro ht (And.intro hl' hc'))
        clear ht hl' hf' hq hc'
        go_wp2_with fail
        refine HT.out.1.mono ?_
        rintro e w5 ⟨rfl, l5, hl5, hr5, hf5, hc5⟩
        have H5 := Lib.hid (And.intro hl5 (And.intro hr5 (And.intro hf5 hc5)))
        clear hl5 hr5 hf5 hc5 x0
        go_wp2_with fail
        go_ret
        have hG : G ∈ fpR (some ⟨G, 0, none⟩) c l.length := by simp [fpR, Value.ownBlock]
        rw [rlP_all HH.out.2.2.2.1 HH.out.2.1]
        refine ⟨_, c, l5, rfl, H5.out.2.1, H5.out.2.2.1, ?_, fun x hx => .inl ?_⟩
        · refine (HT.out.2.2.mono (fun j hj => .inl (by simp only [List.mem_singleton] at hj; subst hj; simp [hG]))).tr (H5.out.2.2.2.mono (fun j hj => .inl ?_))
          simp [fpR, Value.ownBlock] at hj
          subst hj
          simp [hG]
        · simp [fpR, Value.ownBlock] at hx
          subst hx
          exact hG
end Go.Proofs.Ytnajhcoimohcaaa

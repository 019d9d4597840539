/-
  The document's answer of layer 12: the nodes and the calls at a node's own place; whom each rule calls there.
  Conditions: none.
-/
import Derived.Test.YtibgfgfmljhimaaGreatLeSf2
import Derived.Test.YtibgfgfmljhimaaGreatLeLfN
set_option linter.unusedVariables false
set_option linter.unusedSimpArgs false
set_option linter.unnecessarySimpa false
namespace Go.Proofs.YtibgfgfmljhimaaGreat
open Go.RowKit Go.MapKept Go.Shelf

/-- Numbers told, with their count. -/
def ToldF (B : Nat) (w : World) (a : Option Addr) (l c : Nat) (zs : List Int) : Prop := l = zs.length ∧ FreshInts B w a c zs
theorem ToldF.chg0 {B : Nat} {w w' : World} {a : Option Addr} {l c : Nat} {zs : List Int} (h : ToldF B w a l c zs) (hc : Chg [] w w') : ToldF B w' a l c zs := ⟨h.1, hc.row h.2 (fun _ _ => by simp)⟩
theorem ref12Own_all (w : World) (a1 : Option Addr) (n1 c1 : Nat) (a2 : Option Addr) (n2 c2 : Nat) (g : Gr) (hg : GramAt w a1 n1 c1 a2 n2 c2 g) (hr : rightB g = true) (az : Option Addr) (nz cz : Nat) (hnz : nz = g.rules.length) (hz : Ints w az (ranksL g g.rules.length)) (n : Nat) (hn : n < g.nodes.length) :
    Calls Tryz.prog 103 #[.agg #[.slice a1 n1 c1, .slice a2 n2 c2], .int .i64 (n : Int), .slice az nz cz] w (ToldInts w (ownG g n)) :=
  ref12Own_any a1 n1 c1 a2 n2 c2 g hr az nz cz (ranksL g g.rules.length) (ranksL_len _ _) (by rw [ranksL_len, hnz]) (mayG g) (by rw [ranks_all hr]; rfl) g.nodes.length n (by omega) hn w hg hz
theorem good_own {g : Gr} (hr : rightB g = true) {n : Nat} (hn : n < g.nodes.length) : Goods g (ownG g n) := fun z hz => by
  obtain ⟨q, rfl, h1, h2⟩ := ownN_in (falls_right hr) (mayG g) hn z hz
  refine ⟨q, rfl, h2, fun hk => ?_⟩
  obtain ⟨r1, r2⟩ := right_call hr h2 hk
  exact ⟨g.nodes[q].r.toNat, by omega, by omega⟩
theorem callsOf_nil (g : Gr) : callsOf g [] = [] := by
  have : ∀ n, pickL n (fun r => ([] : List Int).any fun k => isCall g.nodes k r) = [] := fun n => by
    induction n with
    | zero => rfl
    | succ n ih => rw [pickL_succ, ih]; simp
  exact this _
theorem pickL_ext {n m : Nat} {F : Nat → Bool} (h : n ≤ m) (hf : ∀ r, n ≤ r → r < m → F r = false) : pickL m F = pickL n F := by
  induction m with
  | zero =>
    obtain rfl : n = 0 := (by omega)
    rfl
  | succ m ih =>
    by_cases e : n = m + 1
    · rw [e]
    · rw [pickL_succ, hf m (by omega) (by omega), ih (by omega) (fun r h1 h2 => hf r h1 (by omega))]
      simp
theorem callsOf_own {g : Gr} (hr : rightB g = true) {n : Nat} (hn : n < g.nodes.length) : callsOf g (ownG g n) = callsG g n := by
  unfold callsOf callsG
  refine (pickL_ext (right_sizes hr).2.1 (fun r h1 h2 => ?_)).symm
  rw [List.any_eq_false]
  intro z hz
  obtain ⟨q, rfl, hq, hc⟩ := good_own hr hn z hz
  rw [isCall_at hq]
  intro h
  simp only [Bool.and_eq_true, decide_eq_true_eq] at h
  obtain ⟨r', e1, e2⟩ := hc h.1
  have := h.2
  omega

set_option maxRecDepth 100000 in
set_option maxHeartbeats 8000000 in
theorem ref12Nodes_any (w : World) (a1 : Option Addr) (n1 c1 : Nat) (a2 : Option Addr) (n2 c2 : Nat) (g : Gr) (hg : GramAt w a1 n1 c1 a2 n2 c2 g) (n : Int) :
    Calls Tryz.prog 66 #[.agg #[.slice a1 n1 c1, .slice a2 n2 c2], .int .i64 n] w (ToldInts w (toldL g (ownG g) n)) := by
  obtain ⟨A, hA⟩ : ∃ A, A = toldL g (ownG g) n := ⟨_, rfl⟩
  rw [← hA]
  have hR := fun W (hW : Chg [] w W) => refRight_any W a1 n1 c1 a2 n2 c2 g (hg.keep hW.kp)
  have H := Lib.hid (And.intro hg (And.intro hg.e2 hA))
  clear hg hA
  go_enter Tryz.func66, Tryz.ntmps66
  cases hr : rightB g with
  | false =>
    rw [hr] at hR
    have hAv : A = [] := by rw [H.out.2.2, toldL, if_neg (by rw [hr]; simp)]
    subst hAv
    clear hr
    go_wp2_with fail
    refine (hR _ ((Chg.refl [] w).alloc _)).mono ?_
    rintro e w1 ⟨rfl, h1⟩
    have HC := Lib.hid (((Chg.refl [] w).alloc (.cells #[.slice a1 n1 c1, .slice a2 n2 c2] 25)).tr h1)
    clear h1 hR
    go_wp2_with fail
    go_ret
    exact ⟨none, 0, 0, rfl, rfl, World.ownsRow_nil _ _ _ _, HC.out⟩
  | true =>
    rw [hr] at hR
    have HR := Lib.hid hr
    clear hr
    go_wp2_with fail
    refine (hR _ ((Chg.refl [] w).alloc _)).mono ?_
    rintro e w7 ⟨rfl, h1⟩
    have hb := h1.heap (heap_alloc_same w (.cells #[.slice a1 n1 c1, .slice a2 n2 c2] 25)) (by simp)
    have hcw := ((Chg.refl [] w).alloc (.cells #[.slice a1 n1 c1, .slice a2 n2 c2] 25)).tr h1
    have H7 := Lib.hid (And.intro hb hcw)
    obtain ⟨x0, x1⟩ := cells2 hb
    clear h1 hR hb hcw
    by_cases hi0 : n < 0
    · have hAv : A = [] := by rw [H.out.2.2, toldL, if_neg (by omega)]
      subst hAv
      go_wp2_with fail
      go_ret
      exact ⟨none, 0, 0, rfl, rfl, World.ownsRow_nil _ _ _ _, H7.out.2⟩
    · by_cases hi1 : (n2 : Int) ≤ n
      · have hAv : A = [] := by rw [H.out.2.2, toldL, if_neg (by have := H.out.2.1; omega)]
        subst hAv
        go_wp2_with fail
        go_ret
        exact ⟨none, 0, 0, rfl, rfl, World.ownsRow_nil _ _ _ _, H7.out.2⟩
      · obtain ⟨m, rfl⟩ : ∃ m : Nat, n = (m : Int) := ⟨n.toNat, by omega⟩
        have hml : m < g.nodes.length := by have := H.out.2.1; omega
        obtain ⟨OV, hOV⟩ : ∃ OV, OV = ownG g m := ⟨_, rfl⟩
        have hAv : A = OV := by rw [H.out.2.2, toldL, if_pos ⟨HR.out, by omega, by omega⟩, hOV]
        obtain ⟨rl, hrl⟩ : ∃ rl, rl = (ranksL g g.rules.length).length := ⟨_, rfl⟩
        have HK : Hid (∀ W, Chg [] w7 W → Calls Tryz.prog 89 #[.agg #[.slice a1 n1 c1, .slice a2 n2 c2]] W fun e W' => ∃ a c, e = .returned (.slice a rl c) ∧ FreshInts W.heap.size W' a c (ranksL g g.rules.length) ∧ Chg [] W W') := Lib.hid fun W hW => by
          have := refRanks_any W a1 n1 c1 a2 n2 c2 g (H.out.1.keep (H7.out.2.tr hW).kp) HR.out
          rw [hrl]
          exact this
        have HO : Hid (∀ W, Chg [] w7 W → ∀ a c, FreshInts w7.heap.size W a c (ranksL g g.rules.length) → Calls Tryz.prog 103 #[.agg #[.slice a1 n1 c1, .slice a2 n2 c2], .int .i64 (m : Int), .slice a rl c] W (ToldInts W OV)) := Lib.hid fun W hW a c hf => by
          rw [hOV]
          exact ref12Own_all W a1 n1 c1 a2 n2 c2 g (H.out.1.keep (H7.out.2.tr hW).kp) HR.out a rl c (by rw [hrl, ranksL_len]) (ownInts_read hf.own).1 m hml
        have HA := Lib.hid hAv
        have hmi : (m : Int) < n2 := by omega
        clear hml hOV hAv hrl
        have hd0 : decide ((m : Int) < 0) = false := decide_eq_false (by omega)
        have hd1 : decide ((n2 : Int) ≤ m) = false := decide_eq_false (by omega)
        have hd2 : decide (n2 ≤ m) = false := decide_eq_false (by omega)
        go_wp2_with fail
        clear hi0 hi1 hd0 hd1 hd2
        refine wp_region_st (by kernel_rfl) (by kernel_rfl) [19, 20, 21, 22, 23, 4] (by kernel_rfl) (fun rI rV rW => match rI with | 0 => rV = .agg #[.slice a1 n1 c1, .slice a2 n2 c2] | 1 => rV = .int .i64 m | 2 => rV = .agg #[.slice a1 n1 c1, .slice a2 n2 c2] | 3 => ∃ r22 c22, rV = .slice r22 rl c22 ∧ FreshInts w7.heap.size rW r22 c22 (ranksL g g.rules.length) | 4 => ∃ r23 q23 c23, rV = .slice r23 q23 c23 ∧ ToldF w7.heap.size rW r23 q23 c23 OV | 5 => ∃ r4 q4 c4, rV = .slice r4 q4 c4 ∧ ToldF w7.heap.size rW r4 q4 c4 OV | _ => True) ?hS8 ?hstep8 ?hdone8
        case hS8 =>
          intro rI rV rW rW' hc rP
          match rI, rP with
          | 0, rP => exact rP
          | 1, rP => exact rP
          | 2, rP => exact rP
          | 3, rP => exact (by obtain ⟨r22, c22, e9, hp⟩ := rP; exact ⟨r22, c22, e9, hc.row hp (fun _ _ => by simp)⟩)
          | 4, rP => exact (by obtain ⟨r23, q23, c23, e9, hp⟩ := rP; exact ⟨r23, q23, c23, e9, hp.chg0 hc⟩)
          | 5, rP => exact (by obtain ⟨r4, q4, c4, e9, hp⟩ := rP; exact ⟨r4, q4, c4, e9, hp.chg0 hc⟩)
          | _ + 6, _ => trivial
        case hstep8 =>
          intro rI rH us W hC hdep K hK
          have hiN : rI < 6 := rH
          simp only [actU, Act.put, List.setIfInBounds_toArray, List.set_cons_succ, List.set_cons_zero, Nat.reduceAdd] at hK ⊢
          obtain ⟨x0, x1⟩ := cells2 (hC.heap H7.out.1 (by simp))
          rcases (show rI = 0 ∨ rI = 1 ∨ rI = 2 ∨ rI = 3 ∨ rI = 4 ∨ rI = 5 by omega) with rfl | rfl | rfl | rfl | rfl | rfl
          · simp only [List.getD_cons_succ, List.getD_cons_zero, List.setIfInBounds_toArray, List.set_cons_succ, List.set_cons_zero] at hK ⊢
            refine wpOp_at rfl rfl ?_
            go_simp
            exact hK _ _ _ rfl (Chg.refl _ _) rfl
          · simp only [List.getD_cons_succ, List.getD_cons_zero, List.setIfInBounds_toArray, List.set_cons_succ, List.set_cons_zero] at hK ⊢
            refine wpOp_at rfl rfl ?_
            go_simp
            exact hK _ _ _ rfl (Chg.refl _ _) rfl
          · simp only [List.getD_cons_succ, List.getD_cons_zero, List.setIfInBounds_toArray, List.set_cons_succ, List.set_cons_zero] at hK ⊢
            refine wpOp_at rfl rfl ?_
            go_simp
            exact hK _ _ _ rfl (Chg.refl _ _) rfl
          · have l2 := hdep 2 (by kernel_rfl)
            replace l2 : us 2 = .agg #[.slice a1 n1 c1, .slice a2 n2 c2] := l2
            simp only [List.getD_cons_succ, List.getD_cons_zero, List.setIfInBounds_toArray, List.set_cons_succ, List.set_cons_zero, l2] at hK ⊢
            refine wpOp_at rfl rfl ?_
            go_simp
            refine (HK.out W hC).mono ?_
            rintro e wz ⟨r22, c22, rfl, f22, hz⟩
            exact hK _ _ _ rfl hz ⟨r22, c22, rfl, row_base f22 hC.size⟩
          · have l0 := hdep 0 (by kernel_rfl)
            replace l0 : us 0 = .agg #[.slice a1 n1 c1, .slice a2 n2 c2] := l0
            have l1 := hdep 1 (by kernel_rfl)
            replace l1 : us 1 = .int .i64 m := l1
            have l3 := hdep 3 (by kernel_rfl)
            obtain ⟨r22, c22, l3, p3⟩ := l3
            simp only [List.getD_cons_succ, List.getD_cons_zero, List.setIfInBounds_toArray, List.set_cons_succ, List.set_cons_zero, l0, l1, l3] at hK ⊢
            refine wpOp_at rfl rfl ?_
            go_simp
            refine (HO.out W hC r22 c22 p3).mono ?_
            rintro e wz ⟨r23, q23, c23, rfl, e23, f23, hz⟩
            exact hK _ _ _ rfl hz ⟨r23, q23, c23, rfl, ⟨e23, row_base f23 hC.size⟩⟩
          · have l4 := hdep 4 (by kernel_rfl)
            obtain ⟨r23, q23, c23, l4, p4⟩ := l4
            simp only [List.getD_cons_succ, List.getD_cons_zero, List.setIfInBounds_toArray, List.set_cons_succ, List.set_cons_zero, l4] at hK ⊢
            refine wpOp_at rfl rfl ?_
            go_simp
            exact hK _ _ _ rfl (Chg.refl _ _) ⟨r23, q23, c23, rfl, p4⟩
        case hdone8 =>
          intro us W hC hall
          have l0 := hall 0 (by decide)
          replace l0 : us 0 = .agg #[.slice a1 n1 c1, .slice a2 n2 c2] := l0
          have l1 := hall 1 (by decide)
          replace l1 : us 1 = .int .i64 m := l1
          have l2 := hall 2 (by decide)
          replace l2 : us 2 = .agg #[.slice a1 n1 c1, .slice a2 n2 c2] := l2
          have l3 := hall 3 (by decide)
          obtain ⟨r22, c22, l3, p3⟩ := l3
          have l4 := hall 4 (by decide)
          obtain ⟨r23, q23, c23, l4, p4⟩ := l4
          have l5 := hall 5 (by decide)
          obtain ⟨r4, q4, c4, l5, p5⟩ := l5
          simp only [actU, Act.put, List.setIfInBounds_toArray, List.set_cons_succ, List.set_cons_zero, Nat.reduceAdd, l0, l1, l2, l3, l4, l5]
          clear hall l0 l1 l2 l3 l4 l5
          have HF := Lib.hid (And.intro p5 (H7.out.2.tr hC))
          clear hC p3 p4 p5
          go_wp2_with fail
          go_ret
          exact ⟨r4, q4, c4, rfl, by rw [HA.out]; exact HF.out.1.1, by rw [HA.out]; exact row_base HF.out.1.2 H7.out.2.size, HF.out.2⟩

set_option maxRecDepth 100000 in
set_option maxHeartbeats 8000000 in
theorem ref12Calls_any (w : World) (a1 : Option Addr) (n1 c1 : Nat) (a2 : Option Addr) (n2 c2 : Nat) (g : Gr) (hg : GramAt w a1 n1 c1 a2 n2 c2 g) (hn1 : n1 ≤ 1099511627776) (n : Int) :
    Calls Tryz.prog 67 #[.agg #[.slice a1 n1 c1, .slice a2 n2 c2], .int .i64 n] w (ToldInts w (toldL g (callsG g) n)) := by
  obtain ⟨CV, hCV⟩ : ∃ CV, CV = toldL g (callsG g) n := ⟨_, rfl⟩
  obtain ⟨OV, hOV⟩ : ∃ OV, OV = toldL g (ownG g) n := ⟨_, rfl⟩
  rw [← hCV]
  have hkey : CV = callsOf g OV ∧ Goods g OV ∧ OV.length ≤ 2048 := by
    rw [hCV, hOV]
    unfold toldL
    by_cases h : rightB g = true ∧ 0 ≤ n ∧ n < g.nodes.length
    · obtain ⟨h1, h2, h3⟩ := h
      obtain ⟨m, rfl⟩ : ∃ m : Nat, n = (m : Int) := ⟨n.toNat, by omega⟩
      rw [if_pos ⟨h1, h2, h3⟩, if_pos ⟨h1, h2, h3⟩]
      exact ⟨(callsOf_own h1 (by omega)).symm, good_own h1 (by omega), ownN_few h1 _ (by omega)⟩
    · rw [if_neg h, if_neg h]
      exact ⟨(callsOf_nil g).symm, (fun z hz => by cases hz), by simp⟩
  obtain ⟨w0, e0⟩ : ∃ w0, w0 = w.alloc (.cells #[.slice a1 n1 c1, .slice a2 n2 c2] 25) := ⟨_, rfl⟩
  have hc0 : Chg [] w w0 := by rw [e0]; exact (Chg.refl [] w).alloc _
  have hb0 : w0.heap[w.heap.size]? = some (.cells #[.slice a1 n1 c1, .slice a2 n2 c2] 25 (0, 0)) := by rw [e0]; exact heap_alloc_same _ _
  have HN : Hid (∀ W, Chg [] w0 W → Calls Tryz.prog 66 #[.agg #[.slice a1 n1 c1, .slice a2 n2 c2], .int .i64 n] W (ToldInts W OV)) := Lib.hid fun W hW => by
    rw [hOV]
    exact ref12Nodes_any W a1 n1 c1 a2 n2 c2 g (hg.keep (hc0.tr hW).kp) n
  have HK : Hid (∀ W, Chg [] w0 W → ∀ a l c, l = OV.length → FreshInts w0.heap.size W a c OV → Calls Tryz.prog 102 #[.agg #[.slice a1 n1 c1, .slice a2 n2 c2], .slice a l c] W (ToldInts W CV)) := Lib.hid fun W hW a l c hl hf => by
    rw [hkey.1]
    exact ref12calls_any W a1 n1 c1 a2 n2 c2 g (hg.keep (hc0.tr hW).kp) hn1 a l c OV hl (by have := hkey.2.2; omega) (ownInts_read hf.own).1 hkey.2.1
  have H0 := Lib.hid (And.intro hb0 hc0)
  have HE := Lib.hid e0
  clear hg hCV hOV hkey hc0 hb0 e0
  go_enter Tryz.func67, Tryz.ntmps67
  go_wp2_with fail
  rw [← HE.out]
  refine wp_region_st (by kernel_rfl) (by kernel_rfl) [5, 6, 7, 8, 9, 4] (by kernel_rfl) (fun rI rV rW => match rI with | 0 => rV = .agg #[.slice a1 n1 c1, .slice a2 n2 c2] | 1 => rV = .agg #[.slice a1 n1 c1, .slice a2 n2 c2] | 2 => rV = .int .i64 n | 3 => ∃ r8 q8 c8, rV = .slice r8 q8 c8 ∧ ToldF w0.heap.size rW r8 q8 c8 OV | 4 => ∃ r9 q9 c9, rV = .slice r9 q9 c9 ∧ ToldF w0.heap.size rW r9 q9 c9 CV | 5 => ∃ r4 q4 c4, rV = .slice r4 q4 c4 ∧ ToldF w0.heap.size rW r4 q4 c4 CV | _ => True) ?hS2 ?hstep2 ?hdone2
  case hS2 =>
    intro rI rV rW rW' hc rP
    match rI, rP with
    | 0, rP => exact rP
    | 1, rP => exact rP
    | 2, rP => exact rP
    | 3, rP => exact (by obtain ⟨r8, q8, c8, e9, hp⟩ := rP; exact ⟨r8, q8, c8, e9, hp.chg0 hc⟩)
    | 4, rP => exact (by obtain ⟨r9, q9, c9, e9, hp⟩ := rP; exact ⟨r9, q9, c9, e9, hp.chg0 hc⟩)
    | 5, rP => exact (by obtain ⟨r4, q4, c4, e9, hp⟩ := rP; exact ⟨r4, q4, c4, e9, hp.chg0 hc⟩)
    | _ + 6, _ => trivial
  case hstep2 =>
    intro rI rH us W hC hdep K hK
    have hiN : rI < 6 := rH
    simp only [actU, Act.put, List.setIfInBounds_toArray, List.set_cons_succ, List.set_cons_zero, Nat.reduceAdd] at hK ⊢
    obtain ⟨x0, x1⟩ := cells2 (hC.heap H0.out.1 (by simp))
    rcases (show rI = 0 ∨ rI = 1 ∨ rI = 2 ∨ rI = 3 ∨ rI = 4 ∨ rI = 5 by omega) with rfl | rfl | rfl | rfl | rfl | rfl
    · simp only [List.getD_cons_succ, List.getD_cons_zero, List.setIfInBounds_toArray, List.set_cons_succ, List.set_cons_zero] at hK ⊢
      refine wpOp_at rfl rfl ?_
      go_simp
      exact hK _ _ _ rfl (Chg.refl _ _) rfl
    · simp only [List.getD_cons_succ, List.getD_cons_zero, List.setIfInBounds_toArray, List.set_cons_succ, List.set_cons_zero] at hK ⊢
      refine wpOp_at rfl rfl ?_
      go_simp
      exact hK _ _ _ rfl (Chg.refl _ _) rfl
    · simp only [List.getD_cons_succ, List.getD_cons_zero, List.setIfInBounds_toArray, List.set_cons_succ, List.set_cons_zero] at hK ⊢
      refine wpOp_at rfl rfl ?_
      go_simp
      exact hK _ _ _ rfl (Chg.refl _ _) rfl
    · have l1 := hdep 1 (by kernel_rfl)
      replace l1 : us 1 = .agg #[.slice a1 n1 c1, .slice a2 n2 c2] := l1
      have l2 := hdep 2 (by kernel_rfl)
      replace l2 : us 2 = .int .i64 n := l2
      simp only [List.getD_cons_succ, List.getD_cons_zero, List.setIfInBounds_toArray, List.set_cons_succ, List.set_cons_zero, l1, l2] at hK ⊢
      refine wpOp_at rfl rfl ?_
      go_simp
      refine (HN.out W hC).mono ?_
      rintro e wz ⟨r8, q8, c8, rfl, e8, f8, hz⟩
      exact hK _ _ _ rfl hz ⟨r8, q8, c8, rfl, ⟨e8, row_base f8 hC.size⟩⟩
    · have l0 := hdep 0 (by kernel_rfl)
      replace l0 : us 0 = .agg #[.slice a1 n1 c1, .slice a2 n2 c2] := l0
      have l3 := hdep 3 (by kernel_rfl)
      obtain ⟨r8, q8, c8, l3, p3⟩ := l3
      simp only [List.getD_cons_succ, List.getD_cons_zero, List.setIfInBounds_toArray, List.set_cons_succ, List.set_cons_zero, l0, l3] at hK ⊢
      refine wpOp_at rfl rfl ?_
      go_simp
      refine (HK.out W hC r8 q8 c8 p3.1 p3.2).mono ?_
      rintro e wz ⟨r9, q9, c9, rfl, e9, f9, hz⟩
      exact hK _ _ _ rfl hz ⟨r9, q9, c9, rfl, ⟨e9, row_base f9 hC.size⟩⟩
    · have l4 := hdep 4 (by kernel_rfl)
      obtain ⟨r9, q9, c9, l4, p4⟩ := l4
      simp only [List.getD_cons_succ, List.getD_cons_zero, List.setIfInBounds_toArray, List.set_cons_succ, List.set_cons_zero, l4] at hK ⊢
      refine wpOp_at rfl rfl ?_
      go_simp
      exact hK _ _ _ rfl (Chg.refl _ _) ⟨r9, q9, c9, rfl, p4⟩
  case hdone2 =>
    intro us W hC hall
    have l0 := hall 0 (by decide)
    replace l0 : us 0 = .agg #[.slice a1 n1 c1, .slice a2 n2 c2] := l0
    have l1 := hall 1 (by decide)
    replace l1 : us 1 = .agg #[.slice a1 n1 c1, .slice a2 n2 c2] := l1
    have l2 := hall 2 (by decide)
    replace l2 : us 2 = .int .i64 n := l2
    have l3 := hall 3 (by decide)
    obtain ⟨r8, q8, c8, l3, p3⟩ := l3
    have l4 := hall 4 (by decide)
    obtain ⟨r9, q9, c9, l4, p4⟩ := l4
    have l5 := hall 5 (by decide)
    obtain ⟨r4, q4, c4, l5, p5⟩ := l5
    simp only [actU, Act.put, List.setIfInBounds_toArray, List.set_cons_succ, List.set_cons_zero, Nat.reduceAdd, l0, l1, l2, l3, l4, l5]
    clear hall l0 l1 l2 l3 l4 l5
    have HF := Lib.hid (And.intro p5 (H0.out.2.tr hC))
    clear hC p3 p4 p5
    go_wp2_with fail
    go_ret
    exact ⟨r4, q4, c4, rfl, HF.out.1.1, row_base HF.out.1.2 H0.out.2.size, HF.out.2⟩

set_option maxRecDepth 100000 in
set_option maxHeartbeats 16000000 in
theorem ref12Graph_any (w : World) (a1 : Option Addr) (n1 c1 : Nat) (a2 : Option Addr) (n2 c2 : Nat) (g : Gr) (hg : GramAt w a1 n1 c1 a2 n2 c2 g) :
    Calls Tryz.prog 59 #[.agg #[.slice a1 n1 c1, .slice a2 n2 c2]] w (NewRowsI w (graphG g)) := by
  obtain ⟨j0, hj0, hy0, hy1, hy2⟩ := info_parts Tryz.infoInts
  have hR := fun W (hW : Chg [] w W) => refRight_any W a1 n1 c1 a2 n2 c2 g (hg.keep hW.kp)
  have H := Lib.hid (And.intro hg hg.e1)
  clear hg
  go_enter Tryz.func59, Tryz.ntmps59
  cases hr : rightB g with
  | false =>
    rw [hr] at hR
    have HR := Lib.hid hr
    clear hr
    go_wp2_with fail
    refine (hR _ ((Chg.refl [] w).alloc _)).mono ?_
    rintro e w1 ⟨rfl, h1⟩
    have HC := Lib.hid (((Chg.refl [] w).alloc (.cells #[.slice a1 n1 c1, .slice a2 n2 c2] 25)).tr h1)
    clear h1 hR
    go_wp2_with fail
    go_ret
    have e0 : graphG g = [] := by simp [graphG, HR.out]
    rw [e0]
    exact ⟨none, 0, [], rfl, rfl, OwnIs.nil _ _, HC.out⟩
  | true =>
    rw [hr] at hR
    have HR := Lib.hid hr
    have hn32 : n1 ≤ 32 := by have := (right_sizes hr).2.1; have := H.out.2; omega
    clear hr
    go_wp2_with fail
    refine (hR _ ((Chg.refl [] w).alloc _)).mono ?_
    rintro e w1 ⟨rfl, h1⟩
    have hb := h1.heap (heap_alloc_same w (.cells #[.slice a1 n1 c1, .slice a2 n2 c2] 25)) (by simp)
    have hcw := ((Chg.refl [] w).alloc (.cells #[.slice a1 n1 c1, .slice a2 n2 c2] 25)).tr h1
    have HC := Lib.hid (And.intro hcw hb)
    obtain ⟨x0, x1⟩ := cells2 hb
    clear h1 hR hb hcw
    go_wp2_with fail
    refine (refRanks_any w1 a1 n1 c1 a2 n2 c2 g (H.out.1.keep HC.out.1.kp) HR.out).mono ?_
    rintro e w2 ⟨ra, rc, rfl, hf, h2⟩
    have hrl1 : (ranksL g g.rules.length).length = n1 := by rw [ranksL_len, ← H.out.2]
    rw [hrl1]
    have HZ := Lib.hid (And.intro (show FreshInts 0 w2 ra rc _ from row_base hf (Nat.zero_le _)) (And.intro (HC.out.1.tr h2) (h2.heap HC.out.2 (by simp))))
    clear hrl1 hf h2 x0 x1
    go_wp2_with fail
    go_loopg [5, 4] n1 (fun d iv ov wr => ∃ (i : Nat) (oa : Option Addr) (oc : Nat), d = n1 - i ∧ i ≤ n1 ∧ iv = .int .i64 i ∧ ov = .slice oa i oc ∧ Hid (∃ VS : List Is, VS.length = i ∧ VS.map (·.2.2) = (g.rules.take i).map (fun r => callsG g r.body) ∧ OwnIs w.heap.size wr oa oc VS ∧ Chg [] w wr ∧ wr.heap[w.heap.size]? = some (.cells #[.slice a1 n1 c1, .slice a2 n2 c2] 25 (0, 0)) ∧ FreshInts 0 wr ra rc (ranksL g g.rules.length)))
    case atStart => exact ⟨0, none, 0, rfl, Nat.zero_le _, rfl, rfl, Lib.hid ⟨[], rfl, rfl, OwnIs.nil _ _, HZ.out.2.1, HZ.out.2.2, HZ.out.1⟩⟩
    case round =>
      obtain ⟨i, oa, oc, rfl, hi, rfl, rfl, hin⟩ := hrel
      obtain ⟨wq, rfl⟩ : ∃ wz, wz = wr := ⟨_, rfl⟩
      obtain ⟨VS, v1, v2, v3, v4, v5, v6⟩ := hin.out
      obtain ⟨x0, x1⟩ := cells2 v5
      by_cases hlt : i < n1
      · have hir : i < g.rules.length := by have := H.out.2; omega
        obtain ⟨q, hq, hqn⟩ := right_body HR.out hir
        obtain ⟨bR, oR, rfl, hname, hbody⟩ := (H.out.1.keep v4.kp).rules i hir
        rw [hq] at hbody
        obtain ⟨OV, hOV⟩ : ∃ OV, OV = ownG g q := ⟨_, rfl⟩
        obtain ⟨CV, hCV⟩ : ∃ CV, CV = callsG g q := ⟨_, rfl⟩
        have HO : Hid (∀ W, Chg [] wq W → Calls Tryz.prog 103 #[.agg #[.slice (some ⟨bR, oR, none⟩) n1 c1, .slice a2 n2 c2], .int .i64 (q : Int), .slice ra n1 rc] W (ToldInts W OV)) := Lib.hid fun W hW => by
          rw [hOV]
          exact ref12Own_all W _ n1 c1 a2 n2 c2 g (H.out.1.keep (v4.tr hW).kp) HR.out ra n1 rc H.out.2 ((ownInts_read v6.own).1.keep hW.kp) q hqn
        have HC9 : Hid (∀ W, Chg [] wq W → ∀ a l c, l = OV.length → FreshInts wq.heap.size W a c OV → Calls Tryz.prog 102 #[.agg #[.slice (some ⟨bR, oR, none⟩) n1 c1, .slice a2 n2 c2], .slice a l c] W (ToldInts W CV)) := Lib.hid fun W hW a l c hl hf => by
          rw [hCV, ← callsOf_own HR.out hqn, ← hOV]
          exact ref12calls_any W _ n1 c1 a2 n2 c2 g (H.out.1.keep (v4.tr hW).kp) (by omega) a l c OV hl (by rw [hl, hOV]; have := ownN_few HR.out (mayG g) hqn; unfold ownG; omega) (ownInts_read hf.own).1 (by rw [hOV]; exact good_own HR.out hqn)
        have hv2 : (g.rules.take (i + 1)).map (fun r => callsG g r.body) = (g.rules.take i).map (fun r => callsG g r.body) ++ [CV] := by
          rw [List.take_succ_eq_append_getElem hir, List.map_append, hCV, ← hq]; rfl
        have HI := Lib.hid (And.intro v5 (And.intro hbody (And.intro v4 (And.intro v3 (And.intro v1 (And.intro v2 (And.intro v6 hv2)))))))
        have hbl := World.block_lt_of_cell? _ _ hbody
        simp only at hbl
        have hlc := (H.out.1).le1
        have hii : (i : Int) < n1 := by omega
        clear hin v1 v2 v3 v4 v5 v6 hname hbody hOV hCV hv2 hq hqn
        go_wp2_with fail
        refine wp_region_tail2 (by kernel_rfl) (by kernel_rfl) [18, 19, 20, 21, 22, 23, 24, 25, 26, 27, 28, 29, 30] (by kernel_rfl) (fun rI rV rW => match rI with | 0 => rV = .slice oa i oc | 1 => rV = .agg #[.slice (some ⟨bR, oR, none⟩) n1 c1, .slice a2 n2 c2] | 2 => rV = .agg #[.slice (some ⟨bR, oR, none⟩) n1 c1, .slice a2 n2 c2] | 3 => rV = .pointer (some ⟨w.heap.size, 0, none⟩) | 4 => rV = .slice (some ⟨bR, oR, none⟩) n1 c1 | 5 => rV = .int .i64 i | 6 => rV = .pointer (some ⟨bR, oR + i * 2, none⟩) | 7 => rV = .pointer (some ⟨bR, oR + i * 2 + 1, none⟩) | 8 => rV = .int .i64 q | 9 => rV = .slice ra n1 rc | 10 => ∃ r28 q28 c28, rV = .slice r28 q28 c28 ∧ ToldF wq.heap.size rW r28 q28 c28 OV | 11 => ∃ r29 q29 c29, rV = .slice r29 q29 c29 ∧ ToldF wq.heap.size rW r29 q29 c29 CV | 12 => ∃ b30 r30 q30 c30, rV = .slice (some ⟨b30, 0, none⟩) 1 1 ∧ rW.heap[b30]? = some (.cells #[.slice r30 q30 c30] 48 (0, 0)) ∧ ToldF wq.heap.size rW r30 q30 c30 CV | _ => True) ?hS8 ?hstep8 ?hdone8
        case hS8 =>
          intro rI rV rW rW' hc rP
          match rI, rP with
          | 0, rP => exact rP
          | 1, rP => exact rP
          | 2, rP => exact rP
          | 3, rP => exact rP
          | 4, rP => exact rP
          | 5, rP => exact rP
          | 6, rP => exact rP
          | 7, rP => exact rP
          | 8, rP => exact rP
          | 9, rP => exact rP
          | 10, rP => exact (by obtain ⟨r28, q28, c28, e9, hp⟩ := rP; exact ⟨r28, q28, c28, e9, hp.chg0 hc⟩)
          | 11, rP => exact (by obtain ⟨r29, q29, c29, e9, hp⟩ := rP; exact ⟨r29, q29, c29, e9, hp.chg0 hc⟩)
          | 12, rP => exact (by obtain ⟨b30, r30, q30, c30, e9, hp⟩ := rP; exact ⟨b30, r30, q30, c30, e9, ⟨hc.heap hp.1 (by simp), hp.2.chg0 hc⟩⟩)
          | _ + 13, _ => trivial
        case hstep8 =>
          intro rI rH us W hC hdep K hK
          have hiN : rI < 13 := rH
          simp only [actU, Act.put, List.setIfInBounds_toArray, List.set_cons_succ, List.set_cons_zero, Nat.reduceAdd] at hK ⊢
          obtain ⟨x0, x1⟩ := cells2 (hC.heap HI.out.1 (by simp))
          have hbd := hC.cell HI.out.2.1 (by simp)
          rcases (show rI = 0 ∨ rI = 1 ∨ rI = 2 ∨ rI = 3 ∨ rI = 4 ∨ rI = 5 ∨ rI = 6 ∨ rI = 7 ∨ rI = 8 ∨ rI = 9 ∨ rI = 10 ∨ rI = 11 ∨ rI = 12 by omega) with rfl | rfl | rfl | rfl | rfl | rfl | rfl | rfl | rfl | rfl | rfl | rfl | rfl
          · simp only [List.getD_cons_succ, List.getD_cons_zero, List.setIfInBounds_toArray, List.set_cons_succ, List.set_cons_zero] at hK ⊢
            refine wpOp_at rfl rfl ?_
            go_simp
            exact hK _ _ _ rfl (Chg.refl _ _) rfl
          · simp only [List.getD_cons_succ, List.getD_cons_zero, List.setIfInBounds_toArray, List.set_cons_succ, List.set_cons_zero] at hK ⊢
            refine wpOp_at rfl rfl ?_
            go_simp
            exact hK _ _ _ rfl (Chg.refl _ _) rfl
          · simp only [List.getD_cons_succ, List.getD_cons_zero, List.setIfInBounds_toArray, List.set_cons_succ, List.set_cons_zero] at hK ⊢
            refine wpOp_at rfl rfl ?_
            go_simp
            exact hK _ _ _ rfl (Chg.refl _ _) rfl
          · simp only [List.getD_cons_succ, List.getD_cons_zero, List.setIfInBounds_toArray, List.set_cons_succ, List.set_cons_zero] at hK ⊢
            refine wpOp_at rfl rfl ?_
            go_simp
            exact hK _ _ _ rfl (Chg.refl _ _) rfl
          · have l3 := hdep 3 (by kernel_rfl)
            replace l3 : us 3 = .pointer (some ⟨w.heap.size, 0, none⟩) := l3
            simp only [List.getD_cons_succ, List.getD_cons_zero, List.setIfInBounds_toArray, List.set_cons_succ, List.set_cons_zero, l3] at hK ⊢
            refine wpOp_at rfl rfl ?_
            go_simp
            exact hK _ _ _ rfl (Chg.refl _ _) rfl
          · simp only [List.getD_cons_succ, List.getD_cons_zero, List.setIfInBounds_toArray, List.set_cons_succ, List.set_cons_zero] at hK ⊢
            refine wpOp_at rfl rfl ?_
            go_simp
            exact hK _ _ _ rfl (Chg.refl _ _) rfl
          · have l4 := hdep 4 (by kernel_rfl)
            replace l4 : us 4 = .slice (some ⟨bR, oR, none⟩) n1 c1 := l4
            have l5 := hdep 5 (by kernel_rfl)
            replace l5 : us 5 = .int .i64 i := l5
            simp only [List.getD_cons_succ, List.getD_cons_zero, List.setIfInBounds_toArray, List.set_cons_succ, List.set_cons_zero, l4, l5] at hK ⊢
            refine wpOp_at rfl rfl ?_
            go_simp
            exact hK _ _ _ rfl (Chg.refl _ _) rfl
          · have l6 := hdep 6 (by kernel_rfl)
            replace l6 : us 6 = .pointer (some ⟨bR, oR + i * 2, none⟩) := l6
            simp only [List.getD_cons_succ, List.getD_cons_zero, List.setIfInBounds_toArray, List.set_cons_succ, List.set_cons_zero, l6] at hK ⊢
            refine wpOp_at rfl rfl ?_
            go_simp
            exact hK _ _ _ rfl (Chg.refl _ _) rfl
          · have l7 := hdep 7 (by kernel_rfl)
            replace l7 : us 7 = .pointer (some ⟨bR, oR + i * 2 + 1, none⟩) := l7
            simp only [List.getD_cons_succ, List.getD_cons_zero, List.setIfInBounds_toArray, List.set_cons_succ, List.set_cons_zero, l7] at hK ⊢
            refine wpOp_at rfl rfl ?_
            go_simp
            exact hK _ _ _ rfl (Chg.refl _ _) rfl
          · simp only [List.getD_cons_succ, List.getD_cons_zero, List.setIfInBounds_toArray, List.set_cons_succ, List.set_cons_zero] at hK ⊢
            refine wpOp_at rfl rfl ?_
            go_simp
            exact hK _ _ _ rfl (Chg.refl _ _) rfl
          · have l2 := hdep 2 (by kernel_rfl)
            replace l2 : us 2 = .agg #[.slice (some ⟨bR, oR, none⟩) n1 c1, .slice a2 n2 c2] := l2
            have l8 := hdep 8 (by kernel_rfl)
            replace l8 : us 8 = .int .i64 q := l8
            have l9 := hdep 9 (by kernel_rfl)
            replace l9 : us 9 = .slice ra n1 rc := l9
            simp only [List.getD_cons_succ, List.getD_cons_zero, List.setIfInBounds_toArray, List.set_cons_succ, List.set_cons_zero, l2, l8, l9] at hK ⊢
            refine wpOp_at rfl rfl ?_
            go_simp
            refine (HO.out W hC).mono ?_
            rintro e wz ⟨r28, q28, c28, rfl, e28, f28, hz⟩
            exact hK _ _ _ rfl hz ⟨r28, q28, c28, rfl, ⟨e28, row_base f28 hC.size⟩⟩
          · have l1 := hdep 1 (by kernel_rfl)
            replace l1 : us 1 = .agg #[.slice (some ⟨bR, oR, none⟩) n1 c1, .slice a2 n2 c2] := l1
            have l10 := hdep 10 (by kernel_rfl)
            obtain ⟨r28, q28, c28, l10, p10⟩ := l10
            simp only [List.getD_cons_succ, List.getD_cons_zero, List.setIfInBounds_toArray, List.set_cons_succ, List.set_cons_zero, l1, l10] at hK ⊢
            refine wpOp_at rfl rfl ?_
            go_simp
            refine (HC9.out W hC r28 q28 c28 p10.1 p10.2).mono ?_
            rintro e wz ⟨r29, q29, c29, rfl, e29, f29, hz⟩
            exact hK _ _ _ rfl hz ⟨r29, q29, c29, rfl, ⟨e29, row_base f29 hC.size⟩⟩
          · have l11 := hdep 11 (by kernel_rfl)
            obtain ⟨r29, q29, c29, l11, p11⟩ := l11
            simp only [List.getD_cons_succ, List.getD_cons_zero, List.setIfInBounds_toArray, List.set_cons_succ, List.set_cons_zero, l11] at hK ⊢
            refine wpOp_at rfl rfl ?_
            go_simp
            exact hK _ _ _ rfl ((Chg.refl _ _).alloc _) ⟨W.heap.size, r29, q29, c29, rfl, ⟨heap_alloc_same _ _, p11.chg0 ((Chg.refl [] W).alloc _)⟩⟩
        case hdone8 =>
          intro us W hC hall
          have l0 := hall 0 (by decide)
          replace l0 : us 0 = .slice oa i oc := l0
          have l1 := hall 1 (by decide)
          replace l1 : us 1 = .agg #[.slice (some ⟨bR, oR, none⟩) n1 c1, .slice a2 n2 c2] := l1
          have l2 := hall 2 (by decide)
          replace l2 : us 2 = .agg #[.slice (some ⟨bR, oR, none⟩) n1 c1, .slice a2 n2 c2] := l2
          have l3 := hall 3 (by decide)
          replace l3 : us 3 = .pointer (some ⟨w.heap.size, 0, none⟩) := l3
          have l4 := hall 4 (by decide)
          replace l4 : us 4 = .slice (some ⟨bR, oR, none⟩) n1 c1 := l4
          have l5 := hall 5 (by decide)
          replace l5 : us 5 = .int .i64 i := l5
          have l6 := hall 6 (by decide)
          replace l6 : us 6 = .pointer (some ⟨bR, oR + i * 2, none⟩) := l6
          have l7 := hall 7 (by decide)
          replace l7 : us 7 = .pointer (some ⟨bR, oR + i * 2 + 1, none⟩) := l7
          have l8 := hall 8 (by decide)
          replace l8 : us 8 = .int .i64 q := l8
          have l9 := hall 9 (by decide)
          replace l9 : us 9 = .slice ra n1 rc := l9
          have l10 := hall 10 (by decide)
          obtain ⟨r28, q28, c28, l10, p10⟩ := l10
          have l11 := hall 11 (by decide)
          obtain ⟨r29, q29, c29, l11, p11⟩ := l11
          have l12 := hall 12 (by decide)
          obtain ⟨b30, r30, q30, c30, l12, p12⟩ := l12
          simp only [actU, Act.put, List.setIfInBounds_toArray, List.set_cons_succ, List.set_cons_zero, Nat.reduceAdd, l0, l1, l2, l3, l4, l5, l6, l7, l8, l9, l10, l11, l12]
          clear hall l0 l1 l2 l3 l4 l5 l6 l7 l8 l9 l10 l11 l12
          obtain ⟨g1, g23⟩ := p12
          obtain ⟨g2, g3⟩ := g23
          have hrow : W.ownsRow w.heap.size 48 1 (.slice oa i oc) i (VS.map Is.cell) := by
            have h9 := (HI.out.2.2.2.1.chg0 hC).row
            rw [HI.out.2.2.2.2.1] at h9
            exact h9
          have hnews := cells_at (w := W) g1
          have hbs : w.heap.size ≤ W.heap.size := (HI.out.2.2.1.tr hC).size
          have h1' : ∀ u ∈ [Value.slice r30 q30 c30], u.oneCell' = true := by simp [Value.oneCell']
          refine wpOp_at rfl rfl ?_
          refine wpOper_append_own_at _ _ 60 rfl w.heap.size 48 j0 _ 1 24 Tryz.underlying60 hj0 hy0 hy1 hy2 rfl (by decide) (.slice oa i oc) i (VS.map Is.cell) rfl hrow ⟨b30, 0, none⟩ 1 1 [.slice r30 q30 c30] rfl rfl hnews h1' (by simp only [maxLen]; omega) (by omega) hbs ?_
          intro v' w8 h81 h82 h83
          obtain ⟨a8, c8, rfl⟩ := ownsRow_slice h81
          have hcell : Is.cell (r30, c30, CV) = .slice r30 q30 c30 := by simp [Is.cell, g2]
          rw [← hcell] at h81
          have hsn := (HI.out.2.2.2.1.chg0 hC).snoc (B' := wq.heap.size) (p := (r30, c30, CV)) (HI.out.2.2.1).size g3 (fun p hp k hk => HI.out.2.2.2.1.lt p hp k hk) (by rw [HI.out.2.2.2.2.1]; exact h81) (by rw [HI.out.2.2.2.2.1]; exact h82)
          have hgr := (HI.out.2.2.1.tr hC).grown h82 (fun k hk => .inr (by have := (row_beyond hrow hk).1; omega))
          have hgm := grown_heap h82 (hC.heap HI.out.1 (by simp)) (ownsRow_ne hrow (hC.heap HI.out.1 (by simp)) (by decide))
          have hcG : Chg (Value.slice oa i oc).ownBlock.toList W w8 := (Chg.refl _ W).grown h82 (fun k hk => .inl (by rw [hk]; simp))
          have hra : FreshInts 0 w8 ra rc (ranksL g g.rules.length) := hcG.rowOf (hC.row HI.out.2.2.2.2.2.2.1 (fun _ _ => by simp)) (fun k hk => row_notrow hrow (by simpa using hk) (by decide))
          have HW := Lib.hid (And.intro hsn (And.intro hgr (And.intro hgm hra)))
          clear h81 h82 h83 hrow hnews hbs h1' hcell hsn hgr hgm hra hcG g1 g2 g3 hC p10 p11
          refine wpOp_at rfl rfl ?_
          go_simp
          go_wp2_with fail
          go_roundg (n1 - (i + 1))
          case measure => omega
          case rel => exact ⟨i + 1, a8, c8, rfl, by omega, by go_num, rfl, Lib.hid ⟨_, by rw [List.length_append, HI.out.2.2.2.2.1]; rfl, by rw [List.map_append, HI.out.2.2.2.2.2.1, HI.out.2.2.2.2.2.2.2]; rfl, HW.out.1, HW.out.2.1, HW.out.2.2.1, HW.out.2.2.2⟩⟩
      · obtain rfl : n1 = i := by omega
        have e0 : graphG g = (g.rules.take n1).map (fun r => callsG g r.body) := by
          unfold graphG
          rw [if_pos HR.out, List.take_of_length_le (by have := H.out.2; omega)]
        have e1 : n1 = (graphG g).length := by rw [e0, ← v2, List.length_map, v1]
        have HI := Lib.hid (And.intro v2 (And.intro v3 (And.intro v4 (And.intro e0 e1))))
        clear hin v1 v2 v3 v4 v5 v6 e0 e1
        go_wp2_with fail
        go_ret
        exact ⟨oa, oc, VS, congrArg (fun m => Ending.returned (.slice oa m oc)) HI.out.2.2.2.2, HI.out.1.trans HI.out.2.2.2.1.symm, HI.out.2.1, HI.out.2.2.1⟩
end Go.Proofs.YtibgfgfmljhimaaGreat

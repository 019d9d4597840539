/-
  LeftGoes: what is told of a grammar and two rules is what the document tells.
  Conditions: the grammar reads as data, within the reach.
-/
import Derived.Test.YtibgfgfmljhimaaGreatLeSf5
import Derived.Test.YtibgfgfmljhimaaGreatLeAp4
import Derived.Test.YtibgfgfmljhimaaGreatLeLn5
import Derived.Test.YtibgfgfmljhimaaGreatLeLfJ
import Derived.Test.YtibgfgfmljhimaaGreatLeWeR
import Derived.Test.YtibgfgfmljhimaaGreatLeGAny3
set_option linter.unusedVariables false
set_option linter.unusedSimpArgs false
set_option linter.unnecessarySimpa false
namespace Go.Proofs.YtibgfgfmljhimaaGreat
open Go.RowKit Go.MapKept Go.Shelf

def RowsR (B : Nat) (W : World) (a : Option Addr) (c : Nat) (V : List Is) (G : List (List Int)) : Prop := V.map (·.2.2) = G ∧ OwnIs B W a c V
theorem RowsR.chg0 {B : Nat} {W W' : World} {a : Option Addr} {c : Nat} {V : List Is} {G : List (List Int)} (h : RowsR B W a c V G) (hc : Chg [] W W') : RowsR B W' a c V G := ⟨h.1, h.2.chg0 hc⟩
/-- Rows of rows of one's own, between two bounds. -/
structure RowsG (B0 : Nat) (W : World) (a : Option Addr) (c : Nat) (x : List Is × Nat × Nat) (G : List (List Int)) : Prop where
  eq : x.1.map (·.2.2) = G
  own : OwnIs x.2.1 W a c x.1
  lo : B0 ≤ x.2.1
  hi : x.2.2 ≤ W.heap.size
  inn : ∀ p ∈ x.1, ∀ b, p.own = some b → b < x.2.2
  top : ∀ b, (Value.slice a x.1.length c).ownBlock = some b → b < x.2.2
theorem RowsG.chg0 {B0 : Nat} {W W' : World} {a : Option Addr} {c : Nat} {x : List Is × Nat × Nat} {G : List (List Int)} (h : RowsG B0 W a c x G) (hc : Chg [] W W') : RowsG B0 W' a c x G :=
  ⟨h.eq, h.own.chg0 hc, h.lo, Nat.le_trans h.hi hc.size, h.inn, h.top⟩

set_option maxRecDepth 100000 in
set_option maxHeartbeats 64000000 in
theorem goes12_any (w : World) (a1 : Option Addr) (n1 c1 : Nat) (a2 : Option Addr) (n2 c2 : Nat) (g : Gr) (hg : GramAt w a1 n1 c1 a2 n2 c2 g) (hre : Reach g) (hs1 : n1 ≤ 1099511627776) (hs2 : n2 ≤ 1099511627776) (hk : ∀ x ∈ g.nodes, x.kids.length ≤ 1099511627776) (i k : Int) :
    Calls Tryz.prog 25 #[.agg #[.slice a1 n1 c1, .slice a2 n2 c2], .int .i64 i, .int .i64 k] w fun e w' => e = .returned (.bool true) ∧ Chg [] w w' := by
  have H := Lib.hid (And.intro hg (And.intro hre (And.intro hs1 (And.intro hs2 hk))))
  clear hg hre hs1 hs2 hk
  go_enter Tryz.func25, Tryz.ntmps25
  go_wp2_with fail
  refine (LentGrammar_any _ a1 n1 c1 a2 n2 c2 g (H.out.1.keep ((Chg.refl [] w).alloc _).kp) H.out.2.2.1 H.out.2.2.2.1 H.out.2.2.2.2).mono ?_
  rintro e w2 ⟨b1, d1, b2, d2, rfl, hl, hc2⟩
  obtain ⟨m1, hm1⟩ : ∃ m1, m1 = g.rules.length := ⟨_, rfl⟩
  obtain ⟨m2, hm2⟩ : ∃ m2, m2 = g.nodes.length := ⟨_, rfl⟩
  rw [← hm1, ← hm2]
  have hca := (Chg.refl [] w2).alloc (.cells #[.slice (some ⟨b1, 0, none⟩) m1 d1, .slice (some ⟨b2, 0, none⟩) m2 d2] 25)
  have hcw := (((Chg.refl [] w).alloc (.cells #[.slice a1 n1 c1, .slice a2 n2 c2] 25)).tr hc2).tr hca
  have hbg := (hc2.tr hca).heap (heap_alloc_same w (.cells #[.slice a1 n1 c1, .slice a2 n2 c2] 25)) (by simp)
  have hbi := heap_alloc_same w2 (.cells #[.slice (some ⟨b1, 0, none⟩) m1 d1, .slice (some ⟨b2, 0, none⟩) m2 d2] 25)
  obtain ⟨w3, e3⟩ : ∃ w3, w3 = w2.alloc (.cells #[.slice (some ⟨b1, 0, none⟩) m1 d1, .slice (some ⟨b2, 0, none⟩) m2 d2] 25) := ⟨_, rfl⟩
  have hl3 : LentG 0 w3 b1 d1 b2 d2 g := by
    rw [e3]
    obtain ⟨q1, ⟨L, q2, q3⟩, q4⟩ := hl.chg0 hca
    exact ⟨row_base q1 (Nat.zero_le _), ⟨L, q2, q3.below (Nat.zero_le _)⟩, q4⟩
  rw [← e3] at hcw hbg hbi
  have H3 := Lib.hid (And.intro hbg (And.intro hbi (And.intro hcw (And.intro hl3 (And.intro hm1 hm2)))))
  have HE := Lib.hid e3
  obtain ⟨A1, hA1⟩ : ∃ A, A = toL g i := ⟨_, rfl⟩
  obtain ⟨A2, hA2⟩ : ∃ A, A = wayL g i k := ⟨_, rfl⟩
  obtain ⟨LA1, hl1⟩ : ∃ l1, l1 = A1.length := ⟨_, rfl⟩
  obtain ⟨LA2, hl2⟩ : ∃ l2, l2 = A2.length := ⟨_, rfl⟩
  obtain ⟨gl, hgl⟩ : ∃ gl, gl = (graphG g).length := ⟨_, rfl⟩
  obtain ⟨gb, hgb⟩ : ∃ gb, gb = goesB g i := ⟨_, rfl⟩
  have hgi : GramAt w3 (some ⟨b1, 0, none⟩) m1 d1 (some ⟨b2, 0, none⟩) m2 d2 g := by rw [hm1, hm2]; exact hl3.gram
  have HGI := Lib.hid hgi
  have HR9 : Hid (A1.length ≤ 1000000 ∧ A2.length ≤ 1000000 ∧ gl ≤ 32 ∧ ∀ zs ∈ graphG g, zs.length ≤ 1000000) := Lib.hid (by
    have q1 := toL_len g i
    have q2 := wayL_len g i k
    rw [hA1, hA2, hgl]
    refine ⟨by omega, by omega, ?_, ?_⟩
    · cases hr : rightB g with
      | true => rw [graphG_len hr]; exact (right_sizes hr).2.1
      | false => simp [graphG, hr]
    · cases hr : rightB g with
      | true => intro zs hz; have := (graph_ok hr).rows zs hz; omega
      | false => intro zs hz; simp [graphG, hr] at hz)
  have HGr : Hid (∀ W, Chg [] w3 W → Calls Tryz.prog 53 #[.agg #[.slice (some ⟨b1, 0, none⟩) m1 d1, .slice (some ⟨b2, 0, none⟩) m2 d2]] W fun e W' => ∃ a c V, e = .returned (.slice a gl c) ∧ V.map (·.2.2) = graphG g ∧ OwnIs W.heap.size W' a c V ∧ Chg [] W W') := Lib.hid fun W hW => by
    have := Graph_any W _ _ _ _ _ _ g (hgi.keep hW.kp) H.out.2.1
    rw [hgl]
    exact this
  have HTo3 : Hid (∀ W, Chg [] w3 W → Calls Tryz.prog 55 #[.agg #[.slice (some ⟨b1, 0, none⟩) m1 d1, .slice (some ⟨b2, 0, none⟩) m2 d2], .int .i64 i] W fun e W' => ∃ a c, e = .returned (.slice a LA1 c) ∧ FreshInts W.heap.size W' a c A1 ∧ Chg [] W W') := Lib.hid fun W hW => by
    have := To_any W _ _ _ _ _ _ g (hgi.keep hW.kp) H.out.2.1 i
    rw [hl1, hA1]
    exact this
  have HWa3 : Hid (∀ W, Chg [] w3 W → Calls Tryz.prog 57 #[.agg #[.slice (some ⟨b1, 0, none⟩) m1 d1, .slice (some ⟨b2, 0, none⟩) m2 d2], .int .i64 i, .int .i64 k] W fun e W' => ∃ a c, e = .returned (.slice a LA2 c) ∧ FreshInts W.heap.size W' a c A2 ∧ Chg [] W W') := Lib.hid fun W hW => by
    have := Way_any W _ _ _ _ _ _ g (hgi.keep hW.kp) H.out.2.1 i k
    rw [hl2, hA2]
    exact this
  have HGo3 : Hid (∀ W, Chg [] w3 W → Calls Tryz.prog 56 #[.agg #[.slice (some ⟨b1, 0, none⟩) m1 d1, .slice (some ⟨b2, 0, none⟩) m2 d2], .int .i64 i] W fun e W' => e = .returned (.bool gb) ∧ Chg [] W W') := Lib.hid fun W hW => by
    have := Goes_any W _ _ _ _ _ _ g (hgi.keep hW.kp) H.out.2.1 i
    rw [hgb]
    exact this
  have HRG3 : Hid (∀ W, Chg [] w W → Calls Tryz.prog 59 #[.agg #[.slice a1 n1 c1, .slice a2 n2 c2]] W fun e W' => ∃ a c V, e = .returned (.slice a gl c) ∧ V.map (·.2.2) = graphG g ∧ OwnIs W.heap.size W' a c V ∧ Chg [] W W') := Lib.hid fun W hW => by
    have := ref12Graph_any W _ _ _ _ _ _ g (H.out.1.keep hW.kp)
    rw [hgl]
    exact this
  have HRT3 : Hid (∀ W, Chg [] w W → Calls Tryz.prog 60 #[.agg #[.slice a1 n1 c1, .slice a2 n2 c2], .int .i64 i] W (ToldInts W A1)) := Lib.hid fun W hW => by
    rw [hA1]
    exact ref12To_any W _ _ _ _ _ _ g (H.out.1.keep hW.kp) i
  have HRW3 : Hid (∀ W, Chg [] w W → Calls Tryz.prog 62 #[.agg #[.slice a1 n1 c1, .slice a2 n2 c2], .int .i64 i, .int .i64 k] W (ToldInts W A2)) := Lib.hid fun W hW => by
    rw [hA2]
    exact ref12Way_any W _ _ _ _ _ _ g (H.out.1.keep hW.kp) i k
  have HRo3 : Hid (∀ W, Chg [] w W → Calls Tryz.prog 61 #[.agg #[.slice a1 n1 c1, .slice a2 n2 c2], .int .i64 i] W fun e W' => e = .returned (.bool gb) ∧ Chg [] W W') := Lib.hid fun W hW => by
    rw [hgb]
    exact ref12Goes_any W _ _ _ _ _ _ g (H.out.1.keep hW.kp) i
  have HKe3 : Hid (∀ W, Chg [] w3 W → Calls Tryz.prog 49 #[.agg #[.slice (some ⟨b1, 0, none⟩) m1 d1, .slice (some ⟨b2, 0, none⟩) m2 d2], .agg #[.slice a1 n1 c1, .slice a2 n2 c2]] W fun e W' => e = .returned (.bool true) ∧ Chg [] W W') := Lib.hid fun W hW =>
    KeptGrammar_any W b1 d1 b2 d2 a1 n1 c1 a2 n2 c2 g m1 m2 H3.out.2.2.2.2.1 H3.out.2.2.2.2.2 (H3.out.2.2.2.1.chg0 hW) (H.out.1.keep (H3.out.2.2.1.tr hW).kp) H.out.2.2.1 H.out.2.2.2.1 H.out.2.2.2.2
  have HL := Lib.hid (And.intro hl1 hl2)
  have HGL := Lib.hid hgl
  clear hl hc2 hm1 hm2 hca hcw hbg hbi e3 hl3 hl1 hl2 hgi hA1 hA2 hgl hgb
  go_wp2_with fail
  rw [← HE.out]
  refine wp_region_st4 (by kernel_rfl) (by kernel_rfl) [16, 17, 18, 19, 8, 9] (by kernel_rfl) (([], 0, 0) : List Is × Nat × Nat)
    (fun rI rV x rW => match rI with | 0 => rV = .agg #[.slice (some ⟨b1, 0, none⟩) m1 d1, .slice (some ⟨b2, 0, none⟩) m2 d2] | 2 => rV = .agg #[.slice (some ⟨b1, 0, none⟩) m1 d1, .slice (some ⟨b2, 0, none⟩) m2 d2] | 1 => ∃ a c, rV = .slice a gl c ∧ RowsG w3.heap.size rW a c x (graphG g) | 3 => ∃ a c, rV = .slice a gl c ∧ RowsG w3.heap.size rW a c x (graphG g) | 4 => ∃ a c, rV = .slice a gl c | 5 => ∃ a c, rV = .slice a gl c | _ => True) ?hS
    (fun i v x j u y => ((i = 1 ∧ j = 3) ∨ (i = 3 ∧ j = 1) → x.2.2 ≤ y.2.1 ∨ y.2.2 ≤ x.2.1) ∧ ((i = 4 ∧ j = 1) ∨ (i = 5 ∧ j = 3) → v = u)) ?hstep ?hdone
  case hS =>
    intro rI rV x rW rW' hc rP
    match rI, rP with
    | 0, rP => exact rP
    | 1, rP => exact (by obtain ⟨a, c, e9, hp⟩ := rP; exact ⟨a, c, e9, hp.chg0 hc⟩)
    | 2, rP => exact rP
    | 3, rP => exact (by obtain ⟨a, c, e9, hp⟩ := rP; exact ⟨a, c, e9, hp.chg0 hc⟩)
    | 4, rP => exact rP
    | 5, rP => exact rP
    | _ + 6, _ => trivial
  case hstep =>
    intro rI rH us gs W hC hdep K hK
    have hiN : rI < 6 := rH
    simp only [actU, Act.put, List.setIfInBounds_toArray, List.set_cons_succ, List.set_cons_zero, Nat.reduceAdd] at hK ⊢
    obtain ⟨x0, x1⟩ := cells2 (hC.heap H3.out.2.1 (by simp))
    rcases (show rI = 0 ∨ rI = 1 ∨ rI = 2 ∨ rI = 3 ∨ rI = 4 ∨ rI = 5 by omega) with rfl | rfl | rfl | rfl | rfl | rfl
    · refine wpOp_at rfl rfl ?_
      go_simp
      exact hK _ ([], 0, 0) _ _ rfl (Chg.refl _ _) rfl (fun j9 hj9 hne9 hw9 hq9 => ⟨fun h => by omega, fun h => by omega⟩)
    · have l0 := hdep 0 (by kernel_rfl)
      replace l0 : us 0 = .agg #[.slice (some ⟨b1, 0, none⟩) m1 d1, .slice (some ⟨b2, 0, none⟩) m2 d2] := l0
      simp only [List.getD_cons_succ, List.getD_cons_zero, List.setIfInBounds_toArray, List.set_cons_succ, List.set_cons_zero, l0] at hK ⊢
      refine wpOp_at rfl rfl ?_
      go_simp
      refine (HGr.out W hC).mono ?_
      rintro e wz ⟨a, c, V, rfl, hv, ho, hz⟩
      exact hK _ (V, W.heap.size, wz.heap.size) _ _ rfl hz ⟨a, c, rfl, hv, ho, hC.size, Nat.le_refl _, fun p hp b hb => ho.lt p hp b hb, fun b hb => (row_beyond ho.row hb).2.1⟩ (fun j9 hj9 hne9 hw9 hq9 => ⟨fun h => by
        obtain rfl : j9 = 3 := by omega
        obtain ⟨a', c', _, hq⟩ := hq9
        exact .inr hq.hi, fun h => by omega⟩)
    · refine wpOp_at rfl rfl ?_
      go_simp
      exact hK _ ([], 0, 0) _ _ rfl (Chg.refl _ _) rfl (fun j9 hj9 hne9 hw9 hq9 => ⟨fun h => by omega, fun h => by omega⟩)
    · have l2 := hdep 2 (by kernel_rfl)
      replace l2 : us 2 = .agg #[.slice (some ⟨b1, 0, none⟩) m1 d1, .slice (some ⟨b2, 0, none⟩) m2 d2] := l2
      simp only [List.getD_cons_succ, List.getD_cons_zero, List.setIfInBounds_toArray, List.set_cons_succ, List.set_cons_zero, l2] at hK ⊢
      refine wpOp_at rfl rfl ?_
      go_simp
      refine (HGr.out W hC).mono ?_
      rintro e wz ⟨a, c, V, rfl, hv, ho, hz⟩
      exact hK _ (V, W.heap.size, wz.heap.size) _ _ rfl hz ⟨a, c, rfl, hv, ho, hC.size, Nat.le_refl _, fun p hp b hb => ho.lt p hp b hb, fun b hb => (row_beyond ho.row hb).2.1⟩ (fun j9 hj9 hne9 hw9 hq9 => ⟨fun h => by
        obtain rfl : j9 = 1 := by omega
        obtain ⟨a', c', _, hq⟩ := hq9
        exact .inr hq.hi, fun h => by omega⟩)
    · obtain ⟨a, c, l1, p1⟩ := hdep 1 (by kernel_rfl)
      simp only [List.getD_cons_succ, List.getD_cons_zero, List.setIfInBounds_toArray, List.set_cons_succ, List.set_cons_zero, l1] at hK ⊢
      refine wpOp_at rfl rfl ?_
      go_simp
      exact hK _ ([], 0, 0) _ _ rfl (Chg.refl _ _) ⟨a, c, rfl⟩ (fun j9 hj9 hne9 hw9 hq9 => ⟨fun h => by omega, fun h => by
        obtain rfl : j9 = 1 := by omega
        exact l1.symm⟩)
    · obtain ⟨a, c, l3, p3⟩ := hdep 3 (by kernel_rfl)
      simp only [List.getD_cons_succ, List.getD_cons_zero, List.setIfInBounds_toArray, List.set_cons_succ, List.set_cons_zero, l3] at hK ⊢
      refine wpOp_at rfl rfl ?_
      go_simp
      exact hK _ ([], 0, 0) _ _ rfl (Chg.refl _ _) ⟨a, c, rfl⟩ (fun j9 hj9 hne9 hw9 hq9 => ⟨fun h => by omega, fun h => by
        obtain rfl : j9 = 3 := by omega
        exact l3.symm⟩)
  case hdone =>
    intro us gs W hC hall hpw
    have lk4 : us 4 = us 1 := by
      rcases hpw 4 1 (by decide) (by decide) (by decide) with h | h
      · exact h.1.2 (by decide)
      · exact absurd (h.2.symm.trans (show waits _ 4 1 = true by kernel_rfl)) (by decide)
    have lk5 : us 5 = us 3 := by
      rcases hpw 5 3 (by decide) (by decide) (by decide) with h | h
      · exact h.1.2 (by decide)
      · exact absurd (h.2.symm.trans (show waits _ 5 3 = true by kernel_rfl)) (by decide)
    have hdj : (gs 1).2.2 ≤ (gs 3).2.1 ∨ (gs 3).2.2 ≤ (gs 1).2.1 := by
      rcases hpw 1 3 (by decide) (by decide) (by decide) with h | h
      · exact h.1.1 (by decide)
      · exact (h.1.1 (by decide)).symm
    clear hpw
    have l0 := hall 0 (by decide)
    replace l0 : us 0 = .agg #[.slice (some ⟨b1, 0, none⟩) m1 d1, .slice (some ⟨b2, 0, none⟩) m2 d2] := l0
    have l2 := hall 2 (by decide)
    replace l2 : us 2 = .agg #[.slice (some ⟨b1, 0, none⟩) m1 d1, .slice (some ⟨b2, 0, none⟩) m2 d2] := l2
    obtain ⟨s8, y8, l1, p1⟩ := hall 1 (by decide)
    obtain ⟨s9, y9, l3, p3⟩ := hall 3 (by decide)
    have l4 := lk4.trans l1
    have l5 := lk5.trans l3
    simp only [actU, Act.put, List.setIfInBounds_toArray, List.set_cons_succ, List.set_cons_zero, Nat.reduceAdd, l0, l1, l2, l3, l4, l5]
    obtain ⟨x8, hx8⟩ : ∃ x, x = gs 1 := ⟨_, rfl⟩
    obtain ⟨x9, hx9⟩ : ∃ x, x = gs 3 := ⟨_, rfl⟩
    rw [← hx8] at p1 hdj
    rw [← hx9] at p3 hdj
    have HX := Lib.hid (And.intro p1 (And.intro p3 hdj))
    have H4 := Lib.hid (And.intro (hC.heap H3.out.1 (by simp)) (And.intro (hC.heap H3.out.2.1 (by simp)) hC))
    have HTo : Hid (∀ W', Chg [] W W' → Calls Tryz.prog 55 #[.agg #[.slice (some ⟨b1, 0, none⟩) m1 d1, .slice (some ⟨b2, 0, none⟩) m2 d2], .int .i64 i] W' fun e W'' => ∃ a c, e = .returned (.slice a LA1 c) ∧ FreshInts W'.heap.size W'' a c A1 ∧ Chg [] W' W'') := Lib.hid fun W' h => HTo3.out W' (hC.tr h)
    have HWa : Hid (∀ W', Chg [] W W' → Calls Tryz.prog 57 #[.agg #[.slice (some ⟨b1, 0, none⟩) m1 d1, .slice (some ⟨b2, 0, none⟩) m2 d2], .int .i64 i, .int .i64 k] W' fun e W'' => ∃ a c, e = .returned (.slice a LA2 c) ∧ FreshInts W'.heap.size W'' a c A2 ∧ Chg [] W' W'') := Lib.hid fun W' h => HWa3.out W' (hC.tr h)
    clear hall lk4 lk5 l0 l1 l2 l3 l4 l5 p1 p3 hdj hx8 hx9 hC
    obtain ⟨w4, rfl⟩ : ∃ wz, wz = W := ⟨_, rfl⟩
    go_wp2_with fail
    refine wp_region_st2 (by kernel_rfl) (by kernel_rfl) [20, 21, 22, 23, 24, 25, 26, 27, 28, 29, 30, 31, 32, 33, 10, 11, 12, 13] (by kernel_rfl) (fun rI rV rW => match rI with | 0 => rV = .agg #[.slice (some ⟨b1, 0, none⟩) m1 d1, .slice (some ⟨b2, 0, none⟩) m2 d2] | 1 => rV = .int .i64 i | 2 => ∃ r22 c22, rV = .slice r22 LA1 c22 ∧ FreshInts w4.heap.size rW r22 c22 (A1) | 3 => rV = .agg #[.slice (some ⟨b1, 0, none⟩) m1 d1, .slice (some ⟨b2, 0, none⟩) m2 d2] | 4 => rV = .int .i64 i | 5 => rV = .int .i64 k | 6 => ∃ r26 c26, rV = .slice r26 LA2 c26 ∧ FreshInts w4.heap.size rW r26 c26 (A2) | 7 => rV = .agg #[.slice (some ⟨b1, 0, none⟩) m1 d1, .slice (some ⟨b2, 0, none⟩) m2 d2] | 8 => rV = .int .i64 i | 9 => ∃ r29 c29, rV = .slice r29 LA1 c29 ∧ FreshInts w4.heap.size rW r29 c29 (A1) | 10 => rV = .agg #[.slice (some ⟨b1, 0, none⟩) m1 d1, .slice (some ⟨b2, 0, none⟩) m2 d2] | 11 => rV = .int .i64 i | 12 => rV = .int .i64 k | 13 => ∃ r33 c33, rV = .slice r33 LA2 c33 ∧ FreshInts w4.heap.size rW r33 c33 (A2) | 14 => ∃ s10 y10, rV = .slice s10 LA1 y10 ∧ FreshInts w4.heap.size rW s10 y10 (A1) | 15 => ∃ s11 y11, rV = .slice s11 LA2 y11 ∧ FreshInts w4.heap.size rW s11 y11 (A2) | 16 => ∃ s12 y12, rV = .slice s12 LA1 y12 ∧ FreshInts w4.heap.size rW s12 y12 (A1) | 17 => ∃ s13 y13, rV = .slice s13 LA2 y13 ∧ FreshInts w4.heap.size rW s13 y13 (A2) | _ => True) ?hS4 (fun i v j u => (i ∈ [2, 6, 9, 13] → j ∈ [2, 6, 9, 13] → ∀ x, v.ownBlock = some x → u.ownBlock ≠ some x) ∧ ((i, j) ∈ [(14, 2), (15, 6), (16, 9), (17, 13)] → v = u)) ?hstep4 ?hdone4
    case hS4 =>
      intro rI rV rW rW' hc rP
      match rI, rP with
      | 0, rP => exact rP
      | 1, rP => exact rP
      | 2, rP => exact (by obtain ⟨r22, c22, e9, hp⟩ := rP; exact ⟨r22, c22, e9, hc.row hp (fun _ _ => by simp)⟩)
      | 3, rP => exact rP
      | 4, rP => exact rP
      | 5, rP => exact rP
      | 6, rP => exact (by obtain ⟨r26, c26, e9, hp⟩ := rP; exact ⟨r26, c26, e9, hc.row hp (fun _ _ => by simp)⟩)
      | 7, rP => exact rP
      | 8, rP => exact rP
      | 9, rP => exact (by obtain ⟨r29, c29, e9, hp⟩ := rP; exact ⟨r29, c29, e9, hc.row hp (fun _ _ => by simp)⟩)
      | 10, rP => exact rP
      | 11, rP => exact rP
      | 12, rP => exact rP
      | 13, rP => exact (by obtain ⟨r33, c33, e9, hp⟩ := rP; exact ⟨r33, c33, e9, hc.row hp (fun _ _ => by simp)⟩)
      | 14, rP => exact (by obtain ⟨s10, y10, e9, hp⟩ := rP; exact ⟨s10, y10, e9, hc.row hp (fun _ _ => by simp)⟩)
      | 15, rP => exact (by obtain ⟨s11, y11, e9, hp⟩ := rP; exact ⟨s11, y11, e9, hc.row hp (fun _ _ => by simp)⟩)
      | 16, rP => exact (by obtain ⟨s12, y12, e9, hp⟩ := rP; exact ⟨s12, y12, e9, hc.row hp (fun _ _ => by simp)⟩)
      | 17, rP => exact (by obtain ⟨s13, y13, e9, hp⟩ := rP; exact ⟨s13, y13, e9, hc.row hp (fun _ _ => by simp)⟩)
      | _ + 18, _ => trivial
    case hstep4 =>
      intro rI rH us W hC hdep K hK
      have hiN : rI < 18 := rH
      simp only [actU, Act.put, List.setIfInBounds_toArray, List.set_cons_succ, List.set_cons_zero, Nat.reduceAdd] at hK ⊢
      obtain ⟨x0, x1⟩ := cells2 (hC.heap H4.out.2.1 (by simp))
      rcases (show rI = 0 ∨ rI = 1 ∨ rI = 2 ∨ rI = 3 ∨ rI = 4 ∨ rI = 5 ∨ rI = 6 ∨ rI = 7 ∨ rI = 8 ∨ rI = 9 ∨ rI = 10 ∨ rI = 11 ∨ rI = 12 ∨ rI = 13 ∨ rI = 14 ∨ rI = 15 ∨ rI = 16 ∨ rI = 17 by omega) with rfl | rfl | rfl | rfl | rfl | rfl | rfl | rfl | rfl | rfl | rfl | rfl | rfl | rfl | rfl | rfl | rfl | rfl
      · simp only [List.getD_cons_succ, List.getD_cons_zero, List.setIfInBounds_toArray, List.set_cons_succ, List.set_cons_zero] at hK ⊢
        refine wpOp_at rfl rfl ?_
        go_simp
        exact hK _ _ _ rfl (Chg.refl _ _) rfl (fun j9 hj9 hne9 hw9 hq9 => ⟨fun hi9 => absurd hi9 (by decide), fun hl9 => by simp at hl9⟩)
      · simp only [List.getD_cons_succ, List.getD_cons_zero, List.setIfInBounds_toArray, List.set_cons_succ, List.set_cons_zero] at hK ⊢
        refine wpOp_at rfl rfl ?_
        go_simp
        exact hK _ _ _ rfl (Chg.refl _ _) rfl (fun j9 hj9 hne9 hw9 hq9 => ⟨fun hi9 => absurd hi9 (by decide), fun hl9 => by simp at hl9⟩)
      · have l0 := hdep 0 (by kernel_rfl)
        replace l0 : us 0 = .agg #[.slice (some ⟨b1, 0, none⟩) m1 d1, .slice (some ⟨b2, 0, none⟩) m2 d2] := l0
        have l1 := hdep 1 (by kernel_rfl)
        replace l1 : us 1 = .int .i64 i := l1
        simp only [List.getD_cons_succ, List.getD_cons_zero, List.setIfInBounds_toArray, List.set_cons_succ, List.set_cons_zero, l0, l1] at hK ⊢
        refine wpOp_at rfl rfl ?_
        go_simp
        refine (HTo.out W hC).mono ?_
        rintro e wz ⟨r22, c22, rfl, hf, hz⟩
        exact hK _ _ _ rfl hz ⟨r22, c22, rfl, row_base hf hC.size⟩ (fun j9 hj9 hne9 hw9 hq9 => ⟨fun _ hjT x hx hy => by (simp only [List.mem_cons, List.not_mem_nil, or_false] at hjT; rcases hjT with rfl | rfl | rfl | rfl <;> first | exact absurd rfl hne9 | (obtain ⟨a9, c9, e9, h9⟩ := hq9; rw [e9] at hy; (try simp only [HL.out.1, HL.out.2] at hx); (try simp only [HL.out.1, HL.out.2] at hy); have q1 := (row_beyond hf hx).1; have q2 := (row_beyond h9 hy).2.1; omega)), fun hl9 => by simp at hl9⟩)
      · simp only [List.getD_cons_succ, List.getD_cons_zero, List.setIfInBounds_toArray, List.set_cons_succ, List.set_cons_zero] at hK ⊢
        refine wpOp_at rfl rfl ?_
        go_simp
        exact hK _ _ _ rfl (Chg.refl _ _) rfl (fun j9 hj9 hne9 hw9 hq9 => ⟨fun hi9 => absurd hi9 (by decide), fun hl9 => by simp at hl9⟩)
      · simp only [List.getD_cons_succ, List.getD_cons_zero, List.setIfInBounds_toArray, List.set_cons_succ, List.set_cons_zero] at hK ⊢
        refine wpOp_at rfl rfl ?_
        go_simp
        exact hK _ _ _ rfl (Chg.refl _ _) rfl (fun j9 hj9 hne9 hw9 hq9 => ⟨fun hi9 => absurd hi9 (by decide), fun hl9 => by simp at hl9⟩)
      · simp only [List.getD_cons_succ, List.getD_cons_zero, List.setIfInBounds_toArray, List.set_cons_succ, List.set_cons_zero] at hK ⊢
        refine wpOp_at rfl rfl ?_
        go_simp
        exact hK _ _ _ rfl (Chg.refl _ _) rfl (fun j9 hj9 hne9 hw9 hq9 => ⟨fun hi9 => absurd hi9 (by decide), fun hl9 => by simp at hl9⟩)
      · have l3 := hdep 3 (by kernel_rfl)
        replace l3 : us 3 = .agg #[.slice (some ⟨b1, 0, none⟩) m1 d1, .slice (some ⟨b2, 0, none⟩) m2 d2] := l3
        have l4 := hdep 4 (by kernel_rfl)
        replace l4 : us 4 = .int .i64 i := l4
        have l5 := hdep 5 (by kernel_rfl)
        replace l5 : us 5 = .int .i64 k := l5
        simp only [List.getD_cons_succ, List.getD_cons_zero, List.setIfInBounds_toArray, List.set_cons_succ, List.set_cons_zero, l3, l4, l5] at hK ⊢
        refine wpOp_at rfl rfl ?_
        go_simp
        refine (HWa.out W hC).mono ?_
        rintro e wz ⟨r26, c26, rfl, hf, hz⟩
        exact hK _ _ _ rfl hz ⟨r26, c26, rfl, row_base hf hC.size⟩ (fun j9 hj9 hne9 hw9 hq9 => ⟨fun _ hjT x hx hy => by (simp only [List.mem_cons, List.not_mem_nil, or_false] at hjT; rcases hjT with rfl | rfl | rfl | rfl <;> first | exact absurd rfl hne9 | (obtain ⟨a9, c9, e9, h9⟩ := hq9; rw [e9] at hy; (try simp only [HL.out.1, HL.out.2] at hx); (try simp only [HL.out.1, HL.out.2] at hy); have q1 := (row_beyond hf hx).1; have q2 := (row_beyond h9 hy).2.1; omega)), fun hl9 => by simp at hl9⟩)
      · simp only [List.getD_cons_succ, List.getD_cons_zero, List.setIfInBounds_toArray, List.set_cons_succ, List.set_cons_zero] at hK ⊢
        refine wpOp_at rfl rfl ?_
        go_simp
        exact hK _ _ _ rfl (Chg.refl _ _) rfl (fun j9 hj9 hne9 hw9 hq9 => ⟨fun hi9 => absurd hi9 (by decide), fun hl9 => by simp at hl9⟩)
      · simp only [List.getD_cons_succ, List.getD_cons_zero, List.setIfInBounds_toArray, List.set_cons_succ, List.set_cons_zero] at hK ⊢
        refine wpOp_at rfl rfl ?_
        go_simp
        exact hK _ _ _ rfl (Chg.refl _ _) rfl (fun j9 hj9 hne9 hw9 hq9 => ⟨fun hi9 => absurd hi9 (by decide), fun hl9 => by simp at hl9⟩)
      · have l7 := hdep 7 (by kernel_rfl)
        replace l7 : us 7 = .agg #[.slice (some ⟨b1, 0, none⟩) m1 d1, .slice (some ⟨b2, 0, none⟩) m2 d2] := l7
        have l8 := hdep 8 (by kernel_rfl)
        replace l8 : us 8 = .int .i64 i := l8
        simp only [List.getD_cons_succ, List.getD_cons_zero, List.setIfInBounds_toArray, List.set_cons_succ, List.set_cons_zero, l7, l8] at hK ⊢
        refine wpOp_at rfl rfl ?_
        go_simp
        refine (HTo.out W hC).mono ?_
        rintro e wz ⟨r29, c29, rfl, hf, hz⟩
        exact hK _ _ _ rfl hz ⟨r29, c29, rfl, row_base hf hC.size⟩ (fun j9 hj9 hne9 hw9 hq9 => ⟨fun _ hjT x hx hy => by (simp only [List.mem_cons, List.not_mem_nil, or_false] at hjT; rcases hjT with rfl | rfl | rfl | rfl <;> first | exact absurd rfl hne9 | (obtain ⟨a9, c9, e9, h9⟩ := hq9; rw [e9] at hy; (try simp only [HL.out.1, HL.out.2] at hx); (try simp only [HL.out.1, HL.out.2] at hy); have q1 := (row_beyond hf hx).1; have q2 := (row_beyond h9 hy).2.1; omega)), fun hl9 => by simp at hl9⟩)
      · simp only [List.getD_cons_succ, List.getD_cons_zero, List.setIfInBounds_toArray, List.set_cons_succ, List.set_cons_zero] at hK ⊢
        refine wpOp_at rfl rfl ?_
        go_simp
        exact hK _ _ _ rfl (Chg.refl _ _) rfl (fun j9 hj9 hne9 hw9 hq9 => ⟨fun hi9 => absurd hi9 (by decide), fun hl9 => by simp at hl9⟩)
      · simp only [List.getD_cons_succ, List.getD_cons_zero, List.setIfInBounds_toArray, List.set_cons_succ, List.set_cons_zero] at hK ⊢
        refine wpOp_at rfl rfl ?_
        go_simp
        exact hK _ _ _ rfl (Chg.refl _ _) rfl (fun j9 hj9 hne9 hw9 hq9 => ⟨fun hi9 => absurd hi9 (by decide), fun hl9 => by simp at hl9⟩)
      · simp only [List.getD_cons_succ, List.getD_cons_zero, List.setIfInBounds_toArray, List.set_cons_succ, List.set_cons_zero] at hK ⊢
        refine wpOp_at rfl rfl ?_
        go_simp
        exact hK _ _ _ rfl (Chg.refl _ _) rfl (fun j9 hj9 hne9 hw9 hq9 => ⟨fun hi9 => absurd hi9 (by decide), fun hl9 => by simp at hl9⟩)
      · have l10 := hdep 10 (by kernel_rfl)
        replace l10 : us 10 = .agg #[.slice (some ⟨b1, 0, none⟩) m1 d1, .slice (some ⟨b2, 0, none⟩) m2 d2] := l10
        have l11 := hdep 11 (by kernel_rfl)
        replace l11 : us 11 = .int .i64 i := l11
        have l12 := hdep 12 (by kernel_rfl)
        replace l12 : us 12 = .int .i64 k := l12
        simp only [List.getD_cons_succ, List.getD_cons_zero, List.setIfInBounds_toArray, List.set_cons_succ, List.set_cons_zero, l10, l11, l12] at hK ⊢
        refine wpOp_at rfl rfl ?_
        go_simp
        refine (HWa.out W hC).mono ?_
        rintro e wz ⟨r33, c33, rfl, hf, hz⟩
        exact hK _ _ _ rfl hz ⟨r33, c33, rfl, row_base hf hC.size⟩ (fun j9 hj9 hne9 hw9 hq9 => ⟨fun _ hjT x hx hy => by (simp only [List.mem_cons, List.not_mem_nil, or_false] at hjT; rcases hjT with rfl | rfl | rfl | rfl <;> first | exact absurd rfl hne9 | (obtain ⟨a9, c9, e9, h9⟩ := hq9; rw [e9] at hy; (try simp only [HL.out.1, HL.out.2] at hx); (try simp only [HL.out.1, HL.out.2] at hy); have q1 := (row_beyond hf hx).1; have q2 := (row_beyond h9 hy).2.1; omega)), fun hl9 => by simp at hl9⟩)
      · have l2 := hdep 2 (by kernel_rfl)
        obtain ⟨r22, c22, l2, p2⟩ := l2
        simp only [List.getD_cons_succ, List.getD_cons_zero, List.setIfInBounds_toArray, List.set_cons_succ, List.set_cons_zero, l2] at hK ⊢
        refine wpOp_at rfl rfl ?_
        go_simp
        exact hK _ _ _ rfl (Chg.refl _ _) ⟨r22, c22, rfl, p2⟩ (fun j9 hj9 hne9 hw9 hq9 => ⟨fun hi9 => absurd hi9 (by decide), fun hl9 => by simp at hl9; subst hl9; exact l2.symm⟩)
      · have l6 := hdep 6 (by kernel_rfl)
        obtain ⟨r26, c26, l6, p6⟩ := l6
        simp only [List.getD_cons_succ, List.getD_cons_zero, List.setIfInBounds_toArray, List.set_cons_succ, List.set_cons_zero, l6] at hK ⊢
        refine wpOp_at rfl rfl ?_
        go_simp
        exact hK _ _ _ rfl (Chg.refl _ _) ⟨r26, c26, rfl, p6⟩ (fun j9 hj9 hne9 hw9 hq9 => ⟨fun hi9 => absurd hi9 (by decide), fun hl9 => by simp at hl9; subst hl9; exact l6.symm⟩)
      · have l9 := hdep 9 (by kernel_rfl)
        obtain ⟨r29, c29, l9, p9⟩ := l9
        simp only [List.getD_cons_succ, List.getD_cons_zero, List.setIfInBounds_toArray, List.set_cons_succ, List.set_cons_zero, l9] at hK ⊢
        refine wpOp_at rfl rfl ?_
        go_simp
        exact hK _ _ _ rfl (Chg.refl _ _) ⟨r29, c29, rfl, p9⟩ (fun j9 hj9 hne9 hw9 hq9 => ⟨fun hi9 => absurd hi9 (by decide), fun hl9 => by simp at hl9; subst hl9; exact l9.symm⟩)
      · have l13 := hdep 13 (by kernel_rfl)
        obtain ⟨r33, c33, l13, p13⟩ := l13
        simp only [List.getD_cons_succ, List.getD_cons_zero, List.setIfInBounds_toArray, List.set_cons_succ, List.set_cons_zero, l13] at hK ⊢
        refine wpOp_at rfl rfl ?_
        go_simp
        exact hK _ _ _ rfl (Chg.refl _ _) ⟨r33, c33, rfl, p13⟩ (fun j9 hj9 hne9 hw9 hq9 => ⟨fun hi9 => absurd hi9 (by decide), fun hl9 => by simp at hl9; subst hl9; exact l13.symm⟩)
    case hdone4 =>
      intro us W hC hall hpw
      have lk14 : us 14 = us 2 := by
        rcases hpw 14 2 (by decide) (by decide) (by decide) with h | h
        · exact h.1.2 (by decide)
        · exact absurd (h.2.symm.trans (show waits _ 14 2 = true by kernel_rfl)) (by decide)
      have lk15 : us 15 = us 6 := by
        rcases hpw 15 6 (by decide) (by decide) (by decide) with h | h
        · exact h.1.2 (by decide)
        · exact absurd (h.2.symm.trans (show waits _ 15 6 = true by kernel_rfl)) (by decide)
      have lk16 : us 16 = us 9 := by
        rcases hpw 16 9 (by decide) (by decide) (by decide) with h | h
        · exact h.1.2 (by decide)
        · exact absurd (h.2.symm.trans (show waits _ 16 9 = true by kernel_rfl)) (by decide)
      have lk17 : us 17 = us 13 := by
        rcases hpw 17 13 (by decide) (by decide) (by decide) with h | h
        · exact h.1.2 (by decide)
        · exact absurd (h.2.symm.trans (show waits _ 17 13 = true by kernel_rfl)) (by decide)
      have qp2_6 : ∀ x, (us 2).ownBlock = some x → (us 6).ownBlock ≠ some x := by
        rcases hpw 2 6 (by decide) (by decide) (by decide) with h | h
        · exact h.1.1 (by decide) (by decide)
        · exact fun x hx hy => h.1.1 (by decide) (by decide) x hy hx
      have qp2_9 : ∀ x, (us 2).ownBlock = some x → (us 9).ownBlock ≠ some x := by
        rcases hpw 2 9 (by decide) (by decide) (by decide) with h | h
        · exact h.1.1 (by decide) (by decide)
        · exact fun x hx hy => h.1.1 (by decide) (by decide) x hy hx
      have qp2_13 : ∀ x, (us 2).ownBlock = some x → (us 13).ownBlock ≠ some x := by
        rcases hpw 2 13 (by decide) (by decide) (by decide) with h | h
        · exact h.1.1 (by decide) (by decide)
        · exact fun x hx hy => h.1.1 (by decide) (by decide) x hy hx
      have qp6_9 : ∀ x, (us 6).ownBlock = some x → (us 9).ownBlock ≠ some x := by
        rcases hpw 6 9 (by decide) (by decide) (by decide) with h | h
        · exact h.1.1 (by decide) (by decide)
        · exact fun x hx hy => h.1.1 (by decide) (by decide) x hy hx
      have qp6_13 : ∀ x, (us 6).ownBlock = some x → (us 13).ownBlock ≠ some x := by
        rcases hpw 6 13 (by decide) (by decide) (by decide) with h | h
        · exact h.1.1 (by decide) (by decide)
        · exact fun x hx hy => h.1.1 (by decide) (by decide) x hy hx
      have qp9_13 : ∀ x, (us 9).ownBlock = some x → (us 13).ownBlock ≠ some x := by
        rcases hpw 9 13 (by decide) (by decide) (by decide) with h | h
        · exact h.1.1 (by decide) (by decide)
        · exact fun x hx hy => h.1.1 (by decide) (by decide) x hy hx
      have l0 := hall 0 (by decide)
      replace l0 : us 0 = .agg #[.slice (some ⟨b1, 0, none⟩) m1 d1, .slice (some ⟨b2, 0, none⟩) m2 d2] := l0
      have l1 := hall 1 (by decide)
      replace l1 : us 1 = .int .i64 i := l1
      have l2 := hall 2 (by decide)
      obtain ⟨r22, c22, l2, p2⟩ := l2
      have l3 := hall 3 (by decide)
      replace l3 : us 3 = .agg #[.slice (some ⟨b1, 0, none⟩) m1 d1, .slice (some ⟨b2, 0, none⟩) m2 d2] := l3
      have l4 := hall 4 (by decide)
      replace l4 : us 4 = .int .i64 i := l4
      have l5 := hall 5 (by decide)
      replace l5 : us 5 = .int .i64 k := l5
      have l6 := hall 6 (by decide)
      obtain ⟨r26, c26, l6, p6⟩ := l6
      have l7 := hall 7 (by decide)
      replace l7 : us 7 = .agg #[.slice (some ⟨b1, 0, none⟩) m1 d1, .slice (some ⟨b2, 0, none⟩) m2 d2] := l7
      have l8 := hall 8 (by decide)
      replace l8 : us 8 = .int .i64 i := l8
      have l9 := hall 9 (by decide)
      obtain ⟨r29, c29, l9, p9⟩ := l9
      have l10 := hall 10 (by decide)
      replace l10 : us 10 = .agg #[.slice (some ⟨b1, 0, none⟩) m1 d1, .slice (some ⟨b2, 0, none⟩) m2 d2] := l10
      have l11 := hall 11 (by decide)
      replace l11 : us 11 = .int .i64 i := l11
      have l12 := hall 12 (by decide)
      replace l12 : us 12 = .int .i64 k := l12
      have l13 := hall 13 (by decide)
      obtain ⟨r33, c33, l13, p13⟩ := l13
      have l14 := hall 14 (by decide)
      obtain ⟨s10, y10, l14, p14⟩ := l14
      have l15 := hall 15 (by decide)
      obtain ⟨s11, y11, l15, p15⟩ := l15
      have l16 := hall 16 (by decide)
      obtain ⟨s12, y12, l16, p16⟩ := l16
      have l17 := hall 17 (by decide)
      obtain ⟨s13, y13, l17, p17⟩ := l17
      rw [l14, l2] at lk14
      rw [l15, l6] at lk15
      rw [l16, l9] at lk16
      rw [l17, l13] at lk17
      rw [l2, l6] at qp2_6
      rw [l2, l9] at qp2_9
      rw [l2, l13] at qp2_13
      rw [l6, l9] at qp6_9
      rw [l6, l13] at qp6_13
      rw [l9, l13] at qp9_13
      clear hpw
      simp only [actU, Act.put, List.setIfInBounds_toArray, List.set_cons_succ, List.set_cons_zero, Nat.reduceAdd, l0, l1, l2, l3, l4, l5, l6, l7, l8, l9, l10, l11, l12, l13, l14, l15, l16, l17]
      clear hall l0 l1 l2 l3 l4 l5 l6 l7 l8 l9 l10 l11 l12 l13 l14 l15 l16 l17
      have HP := Lib.hid (And.intro p14 (And.intro p15 (And.intro p16 (And.intro p17 (And.intro lk14 (And.intro lk15 (And.intro lk16 lk17)))))))
      have HQ := Lib.hid (And.intro qp2_6 (And.intro qp2_9 (And.intro qp2_13 (And.intro qp6_9 (And.intro qp6_13 qp9_13)))))
      have H5 := Lib.hid (And.intro (hC.heap H4.out.1 (by simp)) (And.intro (hC.heap H4.out.2.1 (by simp)) (And.intro (H4.out.2.2.tr hC) (And.intro hC (HX.out.1.own.chg0 hC)))))
      have HRG : Hid (∀ W', Chg [] W W' → Calls Tryz.prog 59 #[.agg #[.slice a1 n1 c1, .slice a2 n2 c2]] W' fun e W'' => ∃ a c V, e = .returned (.slice a gl c) ∧ V.map (·.2.2) = graphG g ∧ OwnIs W'.heap.size W'' a c V ∧ Chg [] W' W'') := Lib.hid fun W' h => HRG3.out W' (H3.out.2.2.1.tr (H5.out.2.2.1.tr h))
      have HSR : Hid (∀ W', Chg [] W W' → ∀ r c V, RowsR W.heap.size W' r c V (graphG g) → Calls Tryz.prog 58 #[.slice s8 gl y8, .slice r gl c] W' fun e W'' => e = .returned (.bool true) ∧ Chg [] W' W'') := Lib.hid fun W' h r c V hr =>
        sameIntRows_yes W' s8 r gl y8 c x8.1 V (by rw [HGL.out, ← HX.out.1.eq, List.length_map]) (by have := HR9.out.2.2.1; omega) (OwnIs.rows (H5.out.2.2.2.2.chg0 h)) (OwnIs.rows hr.2) (HX.out.1.eq.trans hr.1.symm)
      have HRT : Hid (∀ W', Chg [] W W' → Calls Tryz.prog 60 #[.agg #[.slice a1 n1 c1, .slice a2 n2 c2], .int .i64 i] W' (ToldInts W' A1)) := Lib.hid fun W' h => HRT3.out W' (H3.out.2.2.1.tr (H5.out.2.2.1.tr h))
      have HRW : Hid (∀ W', Chg [] W W' → Calls Tryz.prog 62 #[.agg #[.slice a1 n1 c1, .slice a2 n2 c2], .int .i64 i, .int .i64 k] W' (ToldInts W' A2)) := Lib.hid fun W' h => HRW3.out W' (H3.out.2.2.1.tr (H5.out.2.2.1.tr h))
      have HGo : Hid (∀ W', Chg [] W W' → Calls Tryz.prog 56 #[.agg #[.slice (some ⟨b1, 0, none⟩) m1 d1, .slice (some ⟨b2, 0, none⟩) m2 d2], .int .i64 i] W' fun e W'' => e = .returned (.bool gb) ∧ Chg [] W' W'') := Lib.hid fun W' h => HGo3.out W' (H5.out.2.2.1.tr h)
      have HRo : Hid (∀ W', Chg [] W W' → Calls Tryz.prog 61 #[.agg #[.slice a1 n1 c1, .slice a2 n2 c2], .int .i64 i] W' fun e W'' => e = .returned (.bool gb) ∧ Chg [] W' W'') := Lib.hid fun W' h => HRo3.out W' (H3.out.2.2.1.tr (H5.out.2.2.1.tr h))
      have HKe : Hid (∀ W', Chg [] W W' → Calls Tryz.prog 49 #[.agg #[.slice (some ⟨b1, 0, none⟩) m1 d1, .slice (some ⟨b2, 0, none⟩) m2 d2], .agg #[.slice a1 n1 c1, .slice a2 n2 c2]] W' fun e W'' => e = .returned (.bool true) ∧ Chg [] W' W'') := Lib.hid fun W' h => HKe3.out W' (H5.out.2.2.1.tr h)
      have HS1 : Hid (∀ W', Chg [] W W' → ∀ r q c, ToldF W.heap.size W' r q c A1 → Calls Tryz.prog 54 #[.slice s10 LA1 y10, .slice r q c] W' fun e W'' => e = .returned (.bool true) ∧ Chg [] W' W'') := Lib.hid fun W' h r q c hr => by
        have hp := same12_any W' s10 r LA1 y10 q c A1 A1 HL.out.1 hr.1 (by have := HR9.out.1; have := HL.out.1; omega) ((ownInts_read HP.out.1.own).1.keep h.kp) (ownInts_read hr.2.own).1
        rw [decide_eq_true rfl] at hp
        exact hp
      have HS2 : Hid (∀ W', Chg [] W W' → ∀ r q c, ToldF W.heap.size W' r q c A2 → Calls Tryz.prog 54 #[.slice s11 LA2 y11, .slice r q c] W' fun e W'' => e = .returned (.bool true) ∧ Chg [] W' W'') := Lib.hid fun W' h r q c hr => by
        have hp := same12_any W' s11 r LA2 y11 q c A2 A2 HL.out.2 hr.1 (by have := HR9.out.2.1; have := HL.out.2; omega) ((ownInts_read HP.out.2.1.own).1.keep h.kp) (ownInts_read hr.2.own).1
        rw [decide_eq_true rfl] at hp
        exact hp
      have hgg : (gb == gb) = true := by simp
      clear p2 p6 p9 p13 p14 p15 p16 p17 lk14 lk15 lk16 lk17 qp2_6 qp2_9 qp2_13 qp6_9 qp6_13 qp9_13 hC
      obtain ⟨w5, rfl⟩ : ∃ wz, wz = W := ⟨_, rfl⟩
      go_wp2_with fail
      refine wp_region_st (by kernel_rfl) (by kernel_rfl) [34, 35, 36, 37, 38, 39, 40, 41, 42, 43, 44, 45, 46, 47, 48, 49, 50, 51, 52, 53, 54, 55, 56, 57, 58, 59, 60, 61, 62, 63, 64, 65, 66, 67, 68, 69, 70] (by kernel_rfl) (fun rI rV rW => match rI with | 0 => rV = .slice s8 gl y8 | 1 => rV = .agg #[.slice a1 n1 c1, .slice a2 n2 c2] | 2 => ∃ r36 c36 V36, rV = .slice r36 gl c36 ∧ RowsR w5.heap.size rW r36 c36 V36 (graphG g) | 3 => rV = .bool true | 4 => rV = .bool false | 5 => rV = .bool false | 6 => rV = .slice s10 LA1 y10 | 7 => rV = .agg #[.slice a1 n1 c1, .slice a2 n2 c2] | 8 => rV = .int .i64 i | 9 => ∃ r43 q43 c43, rV = .slice r43 q43 c43 ∧ ToldF w5.heap.size rW r43 q43 c43 (A1) | 10 => rV = .bool true | 11 => rV = .bool false | 12 => rV = .bool false | 13 => rV = .bool false | 14 => rV = .agg #[.slice (some ⟨b1, 0, none⟩) m1 d1, .slice (some ⟨b2, 0, none⟩) m2 d2] | 15 => rV = .int .i64 i | 16 => rV = .bool gb | 17 => rV = .agg #[.slice a1 n1 c1, .slice a2 n2 c2] | 18 => rV = .int .i64 i | 19 => rV = .bool gb | 20 => rV = .bool false | 21 => rV = .bool false | 22 => rV = .bool false | 23 => rV = .slice s11 LA2 y11 | 24 => rV = .agg #[.slice a1 n1 c1, .slice a2 n2 c2] | 25 => rV = .int .i64 i | 26 => rV = .int .i64 k | 27 => ∃ r61 q61 c61, rV = .slice r61 q61 c61 ∧ ToldF w5.heap.size rW r61 q61 c61 (A2) | 28 => rV = .bool true | 29 => rV = .bool false | 30 => rV = .bool false | 31 => rV = .bool false | 32 => rV = .agg #[.slice (some ⟨b1, 0, none⟩) m1 d1, .slice (some ⟨b2, 0, none⟩) m2 d2] | 33 => rV = .agg #[.slice a1 n1 c1, .slice a2 n2 c2] | 34 => rV = .bool true | 35 => rV = .bool false | 36 => rV = .bool false | _ => True) ?hS6 ?hstep6 ?hdone6
      case hS6 =>
        intro rI rV rW rW' hc rP
        match rI, rP with
        | 0, rP => exact rP
        | 1, rP => exact rP
        | 2, rP => exact (by obtain ⟨r36, c36, V36, e9, hp⟩ := rP; exact ⟨r36, c36, V36, e9, hp.chg0 hc⟩)
        | 3, rP => exact rP
        | 4, rP => exact rP
        | 5, rP => exact rP
        | 6, rP => exact rP
        | 7, rP => exact rP
        | 8, rP => exact rP
        | 9, rP => exact (by obtain ⟨r43, q43, c43, e9, hp⟩ := rP; exact ⟨r43, q43, c43, e9, hp.chg0 hc⟩)
        | 10, rP => exact rP
        | 11, rP => exact rP
        | 12, rP => exact rP
        | 13, rP => exact rP
        | 14, rP => exact rP
        | 15, rP => exact rP
        | 16, rP => exact rP
        | 17, rP => exact rP
        | 18, rP => exact rP
        | 19, rP => exact rP
        | 20, rP => exact rP
        | 21, rP => exact rP
        | 22, rP => exact rP
        | 23, rP => exact rP
        | 24, rP => exact rP
        | 25, rP => exact rP
        | 26, rP => exact rP
        | 27, rP => exact (by obtain ⟨r61, q61, c61, e9, hp⟩ := rP; exact ⟨r61, q61, c61, e9, hp.chg0 hc⟩)
        | 28, rP => exact rP
        | 29, rP => exact rP
        | 30, rP => exact rP
        | 31, rP => exact rP
        | 32, rP => exact rP
        | 33, rP => exact rP
        | 34, rP => exact rP
        | 35, rP => exact rP
        | 36, rP => exact rP
        | _ + 37, _ => trivial
      case hstep6 =>
        intro rI rH us W hC hdep K hK
        have hiN : rI < 37 := rH
        simp only [actU, Act.put, List.setIfInBounds_toArray, List.set_cons_succ, List.set_cons_zero, Nat.reduceAdd] at hK ⊢
        obtain ⟨x0, x1⟩ := cells2 (hC.heap H5.out.1 (by simp))
        obtain ⟨x2, x3⟩ := cells2 (hC.heap H5.out.2.1 (by simp))
        rcases (show rI = 0 ∨ rI = 1 ∨ rI = 2 ∨ rI = 3 ∨ rI = 4 ∨ rI = 5 ∨ rI = 6 ∨ rI = 7 ∨ rI = 8 ∨ rI = 9 ∨ rI = 10 ∨ rI = 11 ∨ rI = 12 ∨ rI = 13 ∨ rI = 14 ∨ rI = 15 ∨ rI = 16 ∨ rI = 17 ∨ rI = 18 ∨ rI = 19 ∨ rI = 20 ∨ rI = 21 ∨ rI = 22 ∨ rI = 23 ∨ rI = 24 ∨ rI = 25 ∨ rI = 26 ∨ rI = 27 ∨ rI = 28 ∨ rI = 29 ∨ rI = 30 ∨ rI = 31 ∨ rI = 32 ∨ rI = 33 ∨ rI = 34 ∨ rI = 35 ∨ rI = 36 by omega) with rfl | rfl | rfl | rfl | rfl | rfl | rfl | rfl | rfl | rfl | rfl | rfl | rfl | rfl | rfl | rfl | rfl | rfl | rfl | rfl | rfl | rfl | rfl | rfl | rfl | rfl | rfl | rfl | rfl | rfl | rfl | rfl | rfl | rfl | rfl | rfl | rfl
        · simp only [List.getD_cons_succ, List.getD_cons_zero, List.setIfInBounds_toArray, List.set_cons_succ, List.set_cons_zero] at hK ⊢
          refine wpOp_at rfl rfl ?_
          go_simp
          exact hK _ _ _ rfl (Chg.refl _ _) rfl
        · simp only [List.getD_cons_succ, List.getD_cons_zero, List.setIfInBounds_toArray, List.set_cons_succ, List.set_cons_zero] at hK ⊢
          refine wpOp_at rfl rfl ?_
          go_simp
          exact hK _ _ _ rfl (Chg.refl _ _) rfl
        · have l1 := hdep 1 (by kernel_rfl)
          replace l1 : us 1 = .agg #[.slice a1 n1 c1, .slice a2 n2 c2] := l1
          simp only [List.getD_cons_succ, List.getD_cons_zero, List.setIfInBounds_toArray, List.set_cons_succ, List.set_cons_zero, l1] at hK ⊢
          refine wpOp_at rfl rfl ?_
          go_simp
          refine (HRG.out W hC).mono ?_
          rintro e wz ⟨r36, c36, V36, rfl, v36, o36, hz⟩
          exact hK _ _ _ rfl hz ⟨r36, c36, V36, rfl, ⟨v36, o36.base hC.size⟩⟩
        · have l0 := hdep 0 (by kernel_rfl)
          replace l0 : us 0 = .slice s8 gl y8 := l0
          have l2 := hdep 2 (by kernel_rfl)
          obtain ⟨r36, c36, V36, l2, p2⟩ := l2
          simp only [List.getD_cons_succ, List.getD_cons_zero, List.setIfInBounds_toArray, List.set_cons_succ, List.set_cons_zero, l0, l2] at hK ⊢
          refine wpOp_at rfl rfl ?_
          go_simp
          refine (HSR.out W hC r36 c36 V36 p2).mono ?_
          rintro e wz ⟨rfl, hz⟩
          exact hK _ _ _ rfl hz rfl
        · have l3 := hdep 3 (by kernel_rfl)
          replace l3 : us 3 = .bool true := l3
          simp only [List.getD_cons_succ, List.getD_cons_zero, List.setIfInBounds_toArray, List.set_cons_succ, List.set_cons_zero, l3] at hK ⊢
          refine wpOp_at rfl rfl ?_
          go_simp
          exact hK _ _ _ rfl (Chg.refl _ _) rfl
        · have l4 := hdep 4 (by kernel_rfl)
          replace l4 : us 4 = .bool false := l4
          simp only [List.getD_cons_succ, List.getD_cons_zero, List.setIfInBounds_toArray, List.set_cons_succ, List.set_cons_zero, l4] at hK ⊢
          refine wpOp_at rfl rfl ?_
          go_simp
          exact hK _ _ _ rfl (Chg.refl _ _) rfl
        · have l5 := hdep 5 (by kernel_rfl)
          replace l5 : us 5 = .bool false := l5
          simp only [List.getD_cons_succ, List.getD_cons_zero, List.setIfInBounds_toArray, List.set_cons_succ, List.set_cons_zero, l5] at hK ⊢
          refine wpOp_want rfl (by rfl) ?_
          go_simp
          exact hK _ _ _ rfl (Chg.refl _ _) rfl
        · have l5 := hdep 5 (by kernel_rfl)
          replace l5 : us 5 = .bool false := l5
          simp only [List.getD_cons_succ, List.getD_cons_zero, List.setIfInBounds_toArray, List.set_cons_succ, List.set_cons_zero, l5] at hK ⊢
          refine wpOp_want rfl (by rfl) ?_
          go_simp
          exact hK _ _ _ rfl (Chg.refl _ _) rfl
        · have l5 := hdep 5 (by kernel_rfl)
          replace l5 : us 5 = .bool false := l5
          simp only [List.getD_cons_succ, List.getD_cons_zero, List.setIfInBounds_toArray, List.set_cons_succ, List.set_cons_zero, l5] at hK ⊢
          refine wpOp_want rfl (by rfl) ?_
          go_simp
          exact hK _ _ _ rfl (Chg.refl _ _) rfl
        · have l5 := hdep 5 (by kernel_rfl)
          replace l5 : us 5 = .bool false := l5
          have l7 := hdep 7 (by kernel_rfl)
          replace l7 : us 7 = .agg #[.slice a1 n1 c1, .slice a2 n2 c2] := l7
          have l8 := hdep 8 (by kernel_rfl)
          replace l8 : us 8 = .int .i64 i := l8
          simp only [List.getD_cons_succ, List.getD_cons_zero, List.setIfInBounds_toArray, List.set_cons_succ, List.set_cons_zero, l5, l7, l8] at hK ⊢
          refine wpOp_want rfl (by rfl) ?_
          go_simp
          refine (HRT.out W hC).mono ?_
          rintro e wz ⟨r43, q43, c43, rfl, e43, hf, hz⟩
          exact hK _ _ _ rfl hz ⟨r43, q43, c43, rfl, ⟨e43, row_base hf hC.size⟩⟩
        · have l5 := hdep 5 (by kernel_rfl)
          replace l5 : us 5 = .bool false := l5
          have l6 := hdep 6 (by kernel_rfl)
          replace l6 : us 6 = .slice s10 LA1 y10 := l6
          have l9 := hdep 9 (by kernel_rfl)
          obtain ⟨r43, q43, c43, l9, p9⟩ := l9
          simp only [List.getD_cons_succ, List.getD_cons_zero, List.setIfInBounds_toArray, List.set_cons_succ, List.set_cons_zero, l5, l6, l9] at hK ⊢
          refine wpOp_want rfl (by rfl) ?_
          go_simp
          refine (HS1.out W hC r43 q43 c43 p9).mono ?_
          rintro e wz ⟨rfl, hz⟩
          exact hK _ _ _ rfl hz rfl
        · have l5 := hdep 5 (by kernel_rfl)
          replace l5 : us 5 = .bool false := l5
          have l10 := hdep 10 (by kernel_rfl)
          replace l10 : us 10 = .bool true := l10
          simp only [List.getD_cons_succ, List.getD_cons_zero, List.setIfInBounds_toArray, List.set_cons_succ, List.set_cons_zero, l5, l10] at hK ⊢
          refine wpOp_want rfl (by rfl) ?_
          go_simp
          exact hK _ _ _ rfl (Chg.refl _ _) rfl
        · have l5 := hdep 5 (by kernel_rfl)
          replace l5 : us 5 = .bool false := l5
          have l11 := hdep 11 (by kernel_rfl)
          replace l11 : us 11 = .bool false := l11
          simp only [List.getD_cons_succ, List.getD_cons_zero, List.setIfInBounds_toArray, List.set_cons_succ, List.set_cons_zero, l5, l11] at hK ⊢
          refine wpOp_at rfl rfl ?_
          go_simp
          exact hK _ _ _ rfl (Chg.refl _ _) rfl
        · have l12 := hdep 12 (by kernel_rfl)
          replace l12 : us 12 = .bool false := l12
          simp only [List.getD_cons_succ, List.getD_cons_zero, List.setIfInBounds_toArray, List.set_cons_succ, List.set_cons_zero, l12] at hK ⊢
          refine wpOp_at rfl rfl ?_
          go_simp
          exact hK _ _ _ rfl (Chg.refl _ _) rfl
        · have l13 := hdep 13 (by kernel_rfl)
          replace l13 : us 13 = .bool false := l13
          simp only [List.getD_cons_succ, List.getD_cons_zero, List.setIfInBounds_toArray, List.set_cons_succ, List.set_cons_zero, l13] at hK ⊢
          refine wpOp_want rfl (by rfl) ?_
          go_simp
          exact hK _ _ _ rfl (Chg.refl _ _) rfl
        · have l13 := hdep 13 (by kernel_rfl)
          replace l13 : us 13 = .bool false := l13
          simp only [List.getD_cons_succ, List.getD_cons_zero, List.setIfInBounds_toArray, List.set_cons_succ, List.set_cons_zero, l13] at hK ⊢
          refine wpOp_want rfl (by rfl) ?_
          go_simp
          exact hK _ _ _ rfl (Chg.refl _ _) rfl
        · have l13 := hdep 13 (by kernel_rfl)
          replace l13 : us 13 = .bool false := l13
          have l14 := hdep 14 (by kernel_rfl)
          replace l14 : us 14 = .agg #[.slice (some ⟨b1, 0, none⟩) m1 d1, .slice (some ⟨b2, 0, none⟩) m2 d2] := l14
          have l15 := hdep 15 (by kernel_rfl)
          replace l15 : us 15 = .int .i64 i := l15
          simp only [List.getD_cons_succ, List.getD_cons_zero, List.setIfInBounds_toArray, List.set_cons_succ, List.set_cons_zero, l13, l14, l15] at hK ⊢
          refine wpOp_want rfl (by rfl) ?_
          go_simp
          refine (HGo.out W hC).mono ?_
          rintro e wz ⟨rfl, hz⟩
          exact hK _ _ _ rfl hz rfl
        · have l13 := hdep 13 (by kernel_rfl)
          replace l13 : us 13 = .bool false := l13
          simp only [List.getD_cons_succ, List.getD_cons_zero, List.setIfInBounds_toArray, List.set_cons_succ, List.set_cons_zero, l13] at hK ⊢
          refine wpOp_want rfl (by rfl) ?_
          go_simp
          exact hK _ _ _ rfl (Chg.refl _ _) rfl
        · have l13 := hdep 13 (by kernel_rfl)
          replace l13 : us 13 = .bool false := l13
          simp only [List.getD_cons_succ, List.getD_cons_zero, List.setIfInBounds_toArray, List.set_cons_succ, List.set_cons_zero, l13] at hK ⊢
          refine wpOp_want rfl (by rfl) ?_
          go_simp
          exact hK _ _ _ rfl (Chg.refl _ _) rfl
        · have l13 := hdep 13 (by kernel_rfl)
          replace l13 : us 13 = .bool false := l13
          have l17 := hdep 17 (by kernel_rfl)
          replace l17 : us 17 = .agg #[.slice a1 n1 c1, .slice a2 n2 c2] := l17
          have l18 := hdep 18 (by kernel_rfl)
          replace l18 : us 18 = .int .i64 i := l18
          simp only [List.getD_cons_succ, List.getD_cons_zero, List.setIfInBounds_toArray, List.set_cons_succ, List.set_cons_zero, l13, l17, l18] at hK ⊢
          refine wpOp_want rfl (by rfl) ?_
          go_simp
          refine (HRo.out W hC).mono ?_
          rintro e wz ⟨rfl, hz⟩
          exact hK _ _ _ rfl hz rfl
        · have l13 := hdep 13 (by kernel_rfl)
          replace l13 : us 13 = .bool false := l13
          have l16 := hdep 16 (by kernel_rfl)
          replace l16 : us 16 = .bool gb := l16
          have l19 := hdep 19 (by kernel_rfl)
          replace l19 : us 19 = .bool gb := l19
          simp only [List.getD_cons_succ, List.getD_cons_zero, List.setIfInBounds_toArray, List.set_cons_succ, List.set_cons_zero, l13, l16, l19] at hK ⊢
          refine wpOp_want rfl (by rfl) ?_
          go_simp
          exact hK _ _ _ rfl (Chg.refl _ _) rfl
        · have l13 := hdep 13 (by kernel_rfl)
          replace l13 : us 13 = .bool false := l13
          have l20 := hdep 20 (by kernel_rfl)
          replace l20 : us 20 = .bool false := l20
          simp only [List.getD_cons_succ, List.getD_cons_zero, List.setIfInBounds_toArray, List.set_cons_succ, List.set_cons_zero, l13, l20] at hK ⊢
          refine wpOp_at rfl rfl ?_
          go_simp
          exact hK _ _ _ rfl (Chg.refl _ _) rfl
        · have l21 := hdep 21 (by kernel_rfl)
          replace l21 : us 21 = .bool false := l21
          simp only [List.getD_cons_succ, List.getD_cons_zero, List.setIfInBounds_toArray, List.set_cons_succ, List.set_cons_zero, l21] at hK ⊢
          refine wpOp_at rfl rfl ?_
          go_simp
          exact hK _ _ _ rfl (Chg.refl _ _) rfl
        · have l22 := hdep 22 (by kernel_rfl)
          replace l22 : us 22 = .bool false := l22
          simp only [List.getD_cons_succ, List.getD_cons_zero, List.setIfInBounds_toArray, List.set_cons_succ, List.set_cons_zero, l22] at hK ⊢
          refine wpOp_want rfl (by rfl) ?_
          go_simp
          exact hK _ _ _ rfl (Chg.refl _ _) rfl
        · have l22 := hdep 22 (by kernel_rfl)
          replace l22 : us 22 = .bool false := l22
          simp only [List.getD_cons_succ, List.getD_cons_zero, List.setIfInBounds_toArray, List.set_cons_succ, List.set_cons_zero, l22] at hK ⊢
          refine wpOp_want rfl (by rfl) ?_
          go_simp
          exact hK _ _ _ rfl (Chg.refl _ _) rfl
        · have l22 := hdep 22 (by kernel_rfl)
          replace l22 : us 22 = .bool false := l22
          simp only [List.getD_cons_succ, List.getD_cons_zero, List.setIfInBounds_toArray, List.set_cons_succ, List.set_cons_zero, l22] at hK ⊢
          refine wpOp_want rfl (by rfl) ?_
          go_simp
          exact hK _ _ _ rfl (Chg.refl _ _) rfl
        · have l22 := hdep 22 (by kernel_rfl)
          replace l22 : us 22 = .bool false := l22
          simp only [List.getD_cons_succ, List.getD_cons_zero, List.setIfInBounds_toArray, List.set_cons_succ, List.set_cons_zero, l22] at hK ⊢
          refine wpOp_want rfl (by rfl) ?_
          go_simp
          exact hK _ _ _ rfl (Chg.refl _ _) rfl
        · have l22 := hdep 22 (by kernel_rfl)
          replace l22 : us 22 = .bool false := l22
          have l24 := hdep 24 (by kernel_rfl)
          replace l24 : us 24 = .agg #[.slice a1 n1 c1, .slice a2 n2 c2] := l24
          have l25 := hdep 25 (by kernel_rfl)
          replace l25 : us 25 = .int .i64 i := l25
          have l26 := hdep 26 (by kernel_rfl)
          replace l26 : us 26 = .int .i64 k := l26
          simp only [List.getD_cons_succ, List.getD_cons_zero, List.setIfInBounds_toArray, List.set_cons_succ, List.set_cons_zero, l22, l24, l25, l26] at hK ⊢
          refine wpOp_want rfl (by rfl) ?_
          go_simp
          refine (HRW.out W hC).mono ?_
          rintro e wz ⟨r61, q61, c61, rfl, e61, hf, hz⟩
          exact hK _ _ _ rfl hz ⟨r61, q61, c61, rfl, ⟨e61, row_base hf hC.size⟩⟩
        · have l22 := hdep 22 (by kernel_rfl)
          replace l22 : us 22 = .bool false := l22
          have l23 := hdep 23 (by kernel_rfl)
          replace l23 : us 23 = .slice s11 LA2 y11 := l23
          have l27 := hdep 27 (by kernel_rfl)
          obtain ⟨r61, q61, c61, l27, p27⟩ := l27
          simp only [List.getD_cons_succ, List.getD_cons_zero, List.setIfInBounds_toArray, List.set_cons_succ, List.set_cons_zero, l22, l23, l27] at hK ⊢
          refine wpOp_want rfl (by rfl) ?_
          go_simp
          refine (HS2.out W hC r61 q61 c61 p27).mono ?_
          rintro e wz ⟨rfl, hz⟩
          exact hK _ _ _ rfl hz rfl
        · have l22 := hdep 22 (by kernel_rfl)
          replace l22 : us 22 = .bool false := l22
          have l28 := hdep 28 (by kernel_rfl)
          replace l28 : us 28 = .bool true := l28
          simp only [List.getD_cons_succ, List.getD_cons_zero, List.setIfInBounds_toArray, List.set_cons_succ, List.set_cons_zero, l22, l28] at hK ⊢
          refine wpOp_want rfl (by rfl) ?_
          go_simp
          exact hK _ _ _ rfl (Chg.refl _ _) rfl
        · have l22 := hdep 22 (by kernel_rfl)
          replace l22 : us 22 = .bool false := l22
          have l29 := hdep 29 (by kernel_rfl)
          replace l29 : us 29 = .bool false := l29
          simp only [List.getD_cons_succ, List.getD_cons_zero, List.setIfInBounds_toArray, List.set_cons_succ, List.set_cons_zero, l22, l29] at hK ⊢
          refine wpOp_at rfl rfl ?_
          go_simp
          exact hK _ _ _ rfl (Chg.refl _ _) rfl
        · have l30 := hdep 30 (by kernel_rfl)
          replace l30 : us 30 = .bool false := l30
          simp only [List.getD_cons_succ, List.getD_cons_zero, List.setIfInBounds_toArray, List.set_cons_succ, List.set_cons_zero, l30] at hK ⊢
          refine wpOp_at rfl rfl ?_
          go_simp
          exact hK _ _ _ rfl (Chg.refl _ _) rfl
        · have l31 := hdep 31 (by kernel_rfl)
          replace l31 : us 31 = .bool false := l31
          simp only [List.getD_cons_succ, List.getD_cons_zero, List.setIfInBounds_toArray, List.set_cons_succ, List.set_cons_zero, l31] at hK ⊢
          refine wpOp_want rfl (by rfl) ?_
          go_simp
          exact hK _ _ _ rfl (Chg.refl _ _) rfl
        · have l31 := hdep 31 (by kernel_rfl)
          replace l31 : us 31 = .bool false := l31
          simp only [List.getD_cons_succ, List.getD_cons_zero, List.setIfInBounds_toArray, List.set_cons_succ, List.set_cons_zero, l31] at hK ⊢
          refine wpOp_want rfl (by rfl) ?_
          go_simp
          exact hK _ _ _ rfl (Chg.refl _ _) rfl
        · have l31 := hdep 31 (by kernel_rfl)
          replace l31 : us 31 = .bool false := l31
          have l32 := hdep 32 (by kernel_rfl)
          replace l32 : us 32 = .agg #[.slice (some ⟨b1, 0, none⟩) m1 d1, .slice (some ⟨b2, 0, none⟩) m2 d2] := l32
          have l33 := hdep 33 (by kernel_rfl)
          replace l33 : us 33 = .agg #[.slice a1 n1 c1, .slice a2 n2 c2] := l33
          simp only [List.getD_cons_succ, List.getD_cons_zero, List.setIfInBounds_toArray, List.set_cons_succ, List.set_cons_zero, l31, l32, l33] at hK ⊢
          refine wpOp_want rfl (by rfl) ?_
          go_simp
          refine (HKe.out W hC).mono ?_
          rintro e wz ⟨rfl, hz⟩
          exact hK _ _ _ rfl hz rfl
        · have l31 := hdep 31 (by kernel_rfl)
          replace l31 : us 31 = .bool false := l31
          have l34 := hdep 34 (by kernel_rfl)
          replace l34 : us 34 = .bool true := l34
          simp only [List.getD_cons_succ, List.getD_cons_zero, List.setIfInBounds_toArray, List.set_cons_succ, List.set_cons_zero, l31, l34] at hK ⊢
          refine wpOp_want rfl (by rfl) ?_
          go_simp
          exact hK _ _ _ rfl (Chg.refl _ _) rfl
        · have l31 := hdep 31 (by kernel_rfl)
          replace l31 : us 31 = .bool false := l31
          have l35 := hdep 35 (by kernel_rfl)
          replace l35 : us 35 = .bool false := l35
          simp only [List.getD_cons_succ, List.getD_cons_zero, List.setIfInBounds_toArray, List.set_cons_succ, List.set_cons_zero, l31, l35] at hK ⊢
          refine wpOp_at rfl rfl ?_
          go_simp
          exact hK _ _ _ rfl (Chg.refl _ _) rfl
      case hdone6 =>
        intro us W hC hall
        have l0 := hall 0 (by decide)
        replace l0 : us 0 = .slice s8 gl y8 := l0
        have l1 := hall 1 (by decide)
        replace l1 : us 1 = .agg #[.slice a1 n1 c1, .slice a2 n2 c2] := l1
        have l2 := hall 2 (by decide)
        obtain ⟨r36, c36, V36, l2, p2⟩ := l2
        have l3 := hall 3 (by decide)
        replace l3 : us 3 = .bool true := l3
        have l4 := hall 4 (by decide)
        replace l4 : us 4 = .bool false := l4
        have l5 := hall 5 (by decide)
        replace l5 : us 5 = .bool false := l5
        have l6 := hall 6 (by decide)
        replace l6 : us 6 = .slice s10 LA1 y10 := l6
        have l7 := hall 7 (by decide)
        replace l7 : us 7 = .agg #[.slice a1 n1 c1, .slice a2 n2 c2] := l7
        have l8 := hall 8 (by decide)
        replace l8 : us 8 = .int .i64 i := l8
        have l9 := hall 9 (by decide)
        obtain ⟨r43, q43, c43, l9, p9⟩ := l9
        have l10 := hall 10 (by decide)
        replace l10 : us 10 = .bool true := l10
        have l11 := hall 11 (by decide)
        replace l11 : us 11 = .bool false := l11
        have l12 := hall 12 (by decide)
        replace l12 : us 12 = .bool false := l12
        have l13 := hall 13 (by decide)
        replace l13 : us 13 = .bool false := l13
        have l14 := hall 14 (by decide)
        replace l14 : us 14 = .agg #[.slice (some ⟨b1, 0, none⟩) m1 d1, .slice (some ⟨b2, 0, none⟩) m2 d2] := l14
        have l15 := hall 15 (by decide)
        replace l15 : us 15 = .int .i64 i := l15
        have l16 := hall 16 (by decide)
        replace l16 : us 16 = .bool gb := l16
        have l17 := hall 17 (by decide)
        replace l17 : us 17 = .agg #[.slice a1 n1 c1, .slice a2 n2 c2] := l17
        have l18 := hall 18 (by decide)
        replace l18 : us 18 = .int .i64 i := l18
        have l19 := hall 19 (by decide)
        replace l19 : us 19 = .bool gb := l19
        have l20 := hall 20 (by decide)
        replace l20 : us 20 = .bool false := l20
        have l21 := hall 21 (by decide)
        replace l21 : us 21 = .bool false := l21
        have l22 := hall 22 (by decide)
        replace l22 : us 22 = .bool false := l22
        have l23 := hall 23 (by decide)
        replace l23 : us 23 = .slice s11 LA2 y11 := l23
        have l24 := hall 24 (by decide)
        replace l24 : us 24 = .agg #[.slice a1 n1 c1, .slice a2 n2 c2] := l24
        have l25 := hall 25 (by decide)
        replace l25 : us 25 = .int .i64 i := l25
        have l26 := hall 26 (by decide)
        replace l26 : us 26 = .int .i64 k := l26
        have l27 := hall 27 (by decide)
        obtain ⟨r61, q61, c61, l27, p27⟩ := l27
        have l28 := hall 28 (by decide)
        replace l28 : us 28 = .bool true := l28
        have l29 := hall 29 (by decide)
        replace l29 : us 29 = .bool false := l29
        have l30 := hall 30 (by decide)
        replace l30 : us 30 = .bool false := l30
        have l31 := hall 31 (by decide)
        replace l31 : us 31 = .bool false := l31
        have l32 := hall 32 (by decide)
        replace l32 : us 32 = .agg #[.slice (some ⟨b1, 0, none⟩) m1 d1, .slice (some ⟨b2, 0, none⟩) m2 d2] := l32
        have l33 := hall 33 (by decide)
        replace l33 : us 33 = .agg #[.slice a1 n1 c1, .slice a2 n2 c2] := l33
        have l34 := hall 34 (by decide)
        replace l34 : us 34 = .bool true := l34
        have l35 := hall 35 (by decide)
        replace l35 : us 35 = .bool false := l35
        have l36 := hall 36 (by decide)
        replace l36 : us 36 = .bool false := l36
        simp only [actU, Act.put, List.setIfInBounds_toArray, List.set_cons_succ, List.set_cons_zero, Nat.reduceAdd, l0, l1, l2, l3, l4, l5, l6, l7, l8, l9, l10, l11, l12, l13, l14, l15, l16, l17, l18, l19, l20, l21, l22, l23, l24, l25, l26, l27, l28, l29, l30, l31, l32, l33, l34, l35, l36]
        clear hall l0 l1 l2 l3 l4 l5 l6 l7 l8 l9 l10 l11 l12 l13 l14 l15 l16 l17 l18 l19 l20 l21 l22 l23 l24 l25 l26 l27 l28 l29 l30 l31 l32 l33 l34 l35 l36
        have H6 := Lib.hid (And.intro (H5.out.2.2.1.tr hC) (And.intro (H5.out.2.2.2.1.tr hC) hC))
        clear hgg hC p2 p9 p27
        obtain ⟨w6, rfl⟩ : ∃ wz, wz = W := ⟨_, rfl⟩
        go_wp2_with fail
        obtain ⟨wq, hwq⟩ : ∃ z, z = w6.alloc (.cells #[.slice s8 gl y8, .slice s9 gl y9] 60) := ⟨_, rfl⟩
        have hq6 : Chg [] w6 wq := by rw [hwq]; exact (Chg.refl [] w6).alloc _
        have hbq : wq.heap[w6.heap.size]? = some (.cells #[.slice s8 gl y8, .slice s9 gl y9] 60 (0, 0)) := by rw [hwq]; exact heap_alloc_same _ _
        rw [← hwq]
        have HWQ := Lib.hid hwq
        clear hwq
        have hg8 : gl = x8.1.length := by rw [HGL.out, ← HX.out.1.eq, List.length_map]
        have hg9 : gl = x9.1.length := by rw [HGL.out, ← HX.out.2.1.eq, List.length_map]
        obtain ⟨Q, hQ⟩ : ∃ Q : Nat → IR, Q = fun j => if j = 0 then ⟨s8, gl, y8⟩ else ⟨s9, gl, y9⟩ := ⟨_, rfl⟩
        have hQ0 : Q 0 = ⟨s8, gl, y8⟩ := by rw [hQ]; rfl
        have hQ1 : Q 1 = ⟨s9, gl, y9⟩ := by rw [hQ]; rfl
        obtain ⟨VS, hVS⟩ : ∃ VS : Nat → List Is, VS = fun j => if j = 0 then x8.1 else x9.1 := ⟨_, rfl⟩
        have hV0 : VS 0 = x8.1 := by rw [hVS]; rfl
        have hV1 : VS 1 = x9.1 := by rw [hVS]; rfl
        clear hQ hVS
        have hc4q : Chg [] w4 wq := H6.out.2.1.tr hq6
        have rng8 : (∀ p ∈ x8.1, ∀ b, p.own = some b → x8.2.1 ≤ b ∧ b < x8.2.2) ∧ ∀ b, (Q 0).blk = some b → x8.2.1 ≤ b ∧ b < x8.2.2 := by
          refine ⟨fun p hp b hb => ⟨(row_beyond (HX.out.1.own.each p hp) hb).1, HX.out.1.inn p hp b hb⟩, fun b hb => ?_⟩
          rw [hQ0] at hb
          have hb : (Value.slice s8 x8.1.length y8).ownBlock = some b := by rw [← hg8]; exact hb
          exact ⟨(row_beyond HX.out.1.own.row hb).1, HX.out.1.top b hb⟩
        have rng9 : (∀ p ∈ x9.1, ∀ b, p.own = some b → x9.2.1 ≤ b ∧ b < x9.2.2) ∧ ∀ b, (Q 1).blk = some b → x9.2.1 ≤ b ∧ b < x9.2.2 := by
          refine ⟨fun p hp b hb => ⟨(row_beyond (HX.out.2.1.own.each p hp) hb).1, HX.out.2.1.inn p hp b hb⟩, fun b hb => ?_⟩
          rw [hQ1] at hb
          have hb : (Value.slice s9 x9.1.length y9).ownBlock = some b := by rw [← hg9]; exact hb
          exact ⟨(row_beyond HX.out.2.1.own.row hb).1, HX.out.2.1.top b hb⟩
        have hlo8 := HX.out.1.lo
        have hlo9 := HX.out.2.1.lo
        have hhi8 := HX.out.1.hi
        have hhi9 := HX.out.2.1.hi
        have hdj := HX.out.2.2
        obtain ⟨T, hT⟩ : ∃ T, T = (x8.1 ++ x9.1).filterMap Is.own ++ ((Q 0).blk.toList ++ (Q 1).blk.toList) := ⟨_, rfl⟩
        have hTr : ∀ x ∈ T, w3.heap.size ≤ x ∧ x < w4.heap.size := fun x hx => by
          rw [hT] at hx
          simp only [List.mem_append, List.mem_filterMap, Option.mem_toList] at hx
          rcases hx with ⟨p, hp | hp, hx⟩ | hx | hx
          · have := rng8.1 p hp x hx; omega
          · have := rng9.1 p hp x hx; omega
          · have := rng8.2 x hx; omega
          · have := rng9.2 x hx; omega
        have hsz := H6.out.2.1.size
        have hcall := ApartIntRows_any wq w6.heap.size 0 2 Q VS T (fun j hj => by
            rw [Nat.zero_add]
            rcases (show j = 0 ∨ j = 1 by omega) with rfl | rfl
            · rw [hQ0]; exact cell_of_cells hbq 0
            · rw [hQ1]; exact cell_of_cells hbq 1) (fun h => by have := hTr _ h; omega) ⟨Nat.le_refl _, by decide⟩ (fun j hj => by
            have hm : ∀ zs ∈ graphG g, zs.length ≤ 1000000 := HR9.out.2.2.2
            have h32 := HR9.out.2.2.1
            rcases (show j = 0 ∨ j = 1 by omega) with rfl | rfl
            · rw [hQ0, hV0]
              exact ⟨(HX.out.1.own.base (Nat.zero_le _)).chg0 hc4q, hg8, by omega, fun p hp => hm _ (by rw [← HX.out.1.eq]; exact List.mem_map.2 ⟨p, hp, rfl⟩)⟩
            · rw [hQ1, hV1]
              exact ⟨(HX.out.2.1.own.base (Nat.zero_le _)).chg0 hc4q, hg9, by omega, fun p hp => hm _ (by rw [← HX.out.2.1.eq]; exact List.mem_map.2 ⟨p, hp, rfl⟩)⟩) (fun j hj p hp x hx => by
            rw [hT]
            simp only [List.mem_append, List.mem_filterMap, Option.mem_toList]
            rcases (show j = 0 ∨ j = 1 by omega) with rfl | rfl
            · rw [hV0] at hp; exact .inl ⟨p, .inl hp, hx⟩
            · rw [hV1] at hp; exact .inl ⟨p, .inr hp, hx⟩) (fun j hj x hx => by
            rw [hT]
            simp only [List.mem_append, List.mem_filterMap, Option.mem_toList]
            rcases (show j = 0 ∨ j = 1 by omega) with rfl | rfl
            · exact .inr (.inl hx)
            · exact .inr (.inr hx)) (by
            rw [allL_two, hV0, hV1, List.pairwise_append]
            refine ⟨HX.out.1.own.apart, HX.out.2.1.own.apart, fun p hp q hq x hx hy => ?_⟩
            have := rng8.1 p hp x hx
            have := rng9.1 q hq x hy
            omega) (fun i j hi hj hij x hx hy => by
            rcases (show (i = 0 ∧ j = 1) ∨ (i = 1 ∧ j = 0) by omega) with ⟨rfl, rfl⟩ | ⟨rfl, rfl⟩
            · have := rng8.2 x hx; have := rng9.2 x hy; omega
            · have := rng9.2 x hx; have := rng8.2 x hy; omega)
        have H7 := Lib.hid (And.intro hcall (And.intro hTr (And.intro hc4q (H6.out.2.2.tr hq6))))
        clear hcall hTr hT rng8 rng9 hlo8 hlo9 hhi8 hhi9 hdj hsz hc4q hQ0 hQ1 hV0 hV1 hg8 hg9 hbq
        refine H7.out.1.mono ?_
        rintro e wa ⟨rfl, hza⟩
        have H8 := Lib.hid (And.intro ((H6.out.1.tr hq6).trans hza (fun t ht => .inr (H7.out.2.1 t ht).1)) hza)
        clear hza hq6
        go_wp2_with fail
        obtain ⟨wb, hwb⟩ : ∃ z, z = wa.alloc (.cells #[.slice s10 LA1 y10, .slice s11 LA2 y11, .slice s12 LA1 y12, .slice s13 LA2 y13] 48) := ⟨_, rfl⟩
        have hca : Chg [] wa wb := by rw [hwb]; exact (Chg.refl [] wa).alloc _
        have hbb : wb.heap[wa.heap.size]? = some (.cells #[.slice s10 LA1 y10, .slice s11 LA2 y11, .slice s12 LA1 y12, .slice s13 LA2 y13] 48 (0, 0)) := by rw [hwb]; exact heap_alloc_same _ _
        rw [← hwb]
        have hrw : ∀ a c zs, FreshInts w4.heap.size w5 a c zs → FreshInts w4.heap.size wb a c zs := fun a c zs h => by
          have h1 : FreshInts w4.heap.size wq a c zs := H7.out.2.2.2.row h (fun _ _ => by simp)
          have h2 : FreshInts w4.heap.size wa a c zs := H8.out.2.row h1 (fun x hx hm => by have := (row_beyond h1 hx).1; have := (H7.out.2.1 x hm).2; omega)
          exact hca.row h2 (fun _ _ => by simp)
        have hw34 : w3.heap.size ≤ w4.heap.size := H4.out.2.2.size
        have HB := Lib.hid (And.intro hrw (And.intro (H8.out.1.tr hca) hbb))
        have HWB := Lib.hid hwb
        clear hrw hbb hwb hca
        have r0 : ∃ xs, wb.ownsRow w4.heap.size 3 1 (.slice s10 LA1 y10) LA1 xs := by
          rw [HL.out.1]
          exact ⟨_, HB.out.1 _ _ _ HP.out.1⟩
        have r1 : ∃ xs, wb.ownsRow w4.heap.size 3 1 (.slice s11 LA2 y11) LA2 xs := by
          rw [HL.out.2]
          exact ⟨_, HB.out.1 _ _ _ HP.out.2.1⟩
        have r2 : ∃ xs, wb.ownsRow w4.heap.size 3 1 (.slice s12 LA1 y12) LA1 xs := by
          rw [HL.out.1]
          exact ⟨_, HB.out.1 _ _ _ HP.out.2.2.1⟩
        have r3 : ∃ xs, wb.ownsRow w4.heap.size 3 1 (.slice s13 LA2 y13) LA2 xs := by
          rw [HL.out.2]
          exact ⟨_, HB.out.1 _ _ _ HP.out.2.2.2.1⟩
        have e0 := HP.out.2.2.2.2.1
        have e1 := HP.out.2.2.2.2.2.1
        have e2 := HP.out.2.2.2.2.2.2.1
        have e3 := HP.out.2.2.2.2.2.2.2
        have q := HQ.out
        rw [← e0, ← e1, ← e2, ← e3] at q
        obtain ⟨q01, q02, q03, q12, q13, q23⟩ := q
        clear e0 e1 e2 e3
        obtain ⟨R, hR⟩ : ∃ R : Nat → IR, R = fun j => if j = 0 then ⟨s10, LA1, y10⟩ else if j = 1 then ⟨s11, LA2, y11⟩ else if j = 2 then ⟨s12, LA1, y12⟩ else ⟨s13, LA2, y13⟩ := ⟨_, rfl⟩
        have hR0 : R 0 = ⟨s10, LA1, y10⟩ := by rw [hR]; rfl
        have hR1 : R 1 = ⟨s11, LA2, y11⟩ := by rw [hR]; rfl
        have hR2 : R 2 = ⟨s12, LA1, y12⟩ := by rw [hR]; rfl
        have hR3 : R 3 = ⟨s13, LA2, y13⟩ := by rw [hR]; rfl
        clear hR
        have hrow : ∀ j, j < 4 → ∃ xs, wb.ownsRow w4.heap.size 3 1 (R j).v (R j).n xs := fun j hj => by
          rcases (show j = 0 ∨ j = 1 ∨ j = 2 ∨ j = 3 by omega) with rfl | rfl | rfl | rfl
          · rw [hR0]; exact r0
          · rw [hR1]; exact r1
          · rw [hR2]; exact r2
          · rw [hR3]; exact r3
        have hapt : ∀ i j, i < 4 → j < 4 → i < j → ∀ x, (R i).blk = some x → (R j).blk ≠ some x := fun i j hi hj hij => by
          rcases (show (i = 0 ∧ j = 1) ∨ (i = 0 ∧ j = 2) ∨ (i = 0 ∧ j = 3) ∨ (i = 1 ∧ j = 2) ∨ (i = 1 ∧ j = 3) ∨ (i = 2 ∧ j = 3) by omega) with ⟨rfl, rfl⟩ | ⟨rfl, rfl⟩ | ⟨rfl, rfl⟩ | ⟨rfl, rfl⟩ | ⟨rfl, rfl⟩ | ⟨rfl, rfl⟩
          · rw [hR0, hR1]; exact q01
          · rw [hR0, hR2]; exact q02
          · rw [hR0, hR3]; exact q03
          · rw [hR1, hR2]; exact q12
          · rw [hR1, hR3]; exact q13
          · rw [hR2, hR3]; exact q23
        obtain ⟨S, hS⟩ : ∃ S, S = (List.range 4).filterMap fun j => (R j).blk := ⟨_, rfl⟩
        have hSm : ∀ x ∈ S, w4.heap.size ≤ x ∧ x < wb.heap.size ∧ NotRow wb 48 x := fun x hx => by
          rw [hS] at hx
          obtain ⟨j, hj, hjx⟩ := List.mem_filterMap.1 hx
          obtain ⟨xs, hxs⟩ := hrow j (List.mem_range.1 hj)
          obtain ⟨z1, z2, cur, z3⟩ := row_beyond hxs hjx
          exact ⟨z1, z2, NotRow.of_cells z3 (by decide)⟩
        have hA : Apart 4 wb S R := ⟨fun j hj => by
            obtain ⟨xs, hxs⟩ := hrow j hj
            exact ⟨xs, row_base hxs (Nat.zero_le _), fun i hi => absurd hi (by omega)⟩, fun i j hi hj hij x hx => by
            rcases Nat.lt_or_ge i j with h | h
            · exact hapt i j hi hj h x hx
            · exact fun hy => hapt j i hj hi (by omega) x hy hx, fun j hj x hx => by
            rw [hS]; exact List.mem_filterMap.2 ⟨j, List.mem_range.2 hj, hx⟩, fun x hx => (hSm x hx).2.2⟩
        have hlen : ∀ j, j < 4 → (R j).n ≤ 1000000000 := fun j hj => by
          have := HR9.out.1
          have := HR9.out.2.1
          have := HL.out.1
          have := HL.out.2
          rcases (show j = 0 ∨ j = 1 ∨ j = 2 ∨ j = 3 by omega) with rfl | rfl | rfl | rfl
          · rw [hR0]; simp only; omega
          · rw [hR1]; simp only; omega
          · rw [hR2]; simp only; omega
          · rw [hR3]; simp only; omega
        have hcl : ∀ j, j < 4 → ∃ b o, (some ⟨wa.heap.size, 0, none⟩ : Option Addr) = some ⟨b, o, none⟩ ∧ wb.cell? ⟨b, o + j, none⟩ = some (R j).v := fun j hj => by
          refine ⟨wa.heap.size, 0, rfl, ?_⟩
          rw [Nat.zero_add]
          rcases (show j = 0 ∨ j = 1 ∨ j = 2 ∨ j = 3 by omega) with rfl | rfl | rfl | rfl
          · rw [hR0]; exact cell_of_cells HB.out.2.2 0
          · rw [hR1]; exact cell_of_cells HB.out.2.2 1
          · rw [hR2]; exact cell_of_cells HB.out.2.2 2
          · rw [hR3]; exact cell_of_cells HB.out.2.2 3
        have hp := ApartInts_any wb (some ⟨wa.heap.size, 0, none⟩) 4 4 S R (by omega) hlen hcl (by omega) (by simp [maxLen]) hA (fun x hx => (hSm x hx).2.1)
        have hSb : ∀ x ∈ S, w3.heap.size ≤ x := fun x hx => by have := (hSm x hx).1; omega
        clear hA hSm hS hlen hcl hapt hrow hR0 hR1 hR2 hR3 q01 q02 q03 q12 q13 q23 r0 r1 r2 r3
        refine hp.mono ?_
        rintro e wc ⟨rfl, hz6⟩
        have F6 : Hid (Chg [] w3 wc) := Lib.hid (HB.out.2.1.trans hz6 fun j hj => .inr (hSb j hj))
        clear hz6 hp hSb
        obtain ⟨x0, x1⟩ := cells2 (F6.out.heap H3.out.1 (by simp))
        obtain ⟨x2, x3⟩ := cells2 (F6.out.heap H3.out.2.1 (by simp))
        go_wp2_with fail
        refine (HKe3.out wc F6.out).mono ?_
        rintro e wd ⟨rfl, hz7⟩
        have F7 := Lib.hid (H3.out.2.2.1.tr (F6.out.tr hz7))
        clear hz7 x0 x1 x2 x3
        go_wp2_with fail
        go_ret
        exact ⟨rfl, F7.out⟩
end Go.Proofs.YtibgfgfmljhimaaGreat

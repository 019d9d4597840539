/-
  The document's store: Grow.
  Conditions: none.
-/
import Derived.Test.YtffjfkjlahdedaaSnsSr1
import Derived.Test.YtffjfkjlahdedaaSnsGAny
import Derived.Test.YtffjfkjlahdedaaSnsGTail
set_option linter.unusedVariables false
set_option linter.unusedSimpArgs false
set_option linter.unnecessarySimpa false
namespace Go.Proofs.Ytffjfkjlahdedaa
open Go.RowKit Go.MapKept

def GrownR (NB : Nat) (w : World) (B G : Nat) (c : Nat) (l : List Rs) (r p e lv : Int) (t : List Tw) (w9 : World) : Prop :=
  ∃ l9, (∃ a60 c60, l9 = l.take (l.length - 1) ++ [⟨(r, p), some (e, lv, t), a60, c60⟩]) ∧ RefS NB w9 B (some ⟨G, 0, none⟩) c l9 ∧ Chg [G] w w9
theorem rss_last {l : List Rs} {n : Nat} (hn : n + 1 = l.length) {y : Rs} (hy : l[n]? = some y) : (rss l).getLast? = some (y.q, y.f) ∧ (rss l).dropLast = rss (l.take n) := by
  constructor
  · rw [List.getLast?_eq_getElem?, rss_len, show l.length - 1 = n by omega]
    simp only [rss, List.getElem?_map, hy, Option.map_some, Rs.x]
  · rw [List.dropLast_eq_take, rss_len, show l.length - 1 = n by omega]
    simp [rss, List.map_take]
theorem grownR_out {NB : Nat} {w w9 : World} {B G : Nat} {c : Nat} {l l9 : List Rs} {n : Nat} {r p e lv : Int} {f : Found} {t : List Tw} {y : Rs} (h : RefS NB w B (some ⟨G, 0, none⟩) c l) (hn : n + 1 = l.length) (hm : mayGrow f e lv = true) (hy : l[n]? = some y) (hq : y.q = (r, p) ∧ y.f = f) (e9 : ∃ a60 c60, l9 = l.take (l.length - 1) ++ [⟨(r, p), some (e, lv, t), a60, c60⟩]) (h9 : RefS NB w9 B (some ⟨G, 0, none⟩) c l9) (c9 : Chg [G] w w9) :
    OpS NB w B (some ⟨G, 0, none⟩) c l (St.grow (rss l) e lv t) (St.growErr (rss l) e lv) (.returned (.int .i64 0)) w9 := by
  obtain ⟨g1, g2⟩ := rss_last hn hy
  obtain ⟨a60, c60, rfl⟩ := e9
  refine ⟨_, c, _, ?_, h9, ?_, c9.mono (fun j hj => .inl (by simp only [List.mem_singleton] at hj; simp [hj, fpA, Value.ownBlock])), fun x hx => .inl (by simpa [fpA, Value.ownBlock] using hx)⟩
  · unfold St.growErr
    rw [g1]
    simp only [hq.2, growErr, hm, if_true]
  · unfold St.grow
    rw [g1]
    simp only [hq.1, hq.2, growSt, hm, if_true, g2]
    simp only [rss, List.map_append, List.map_cons, List.map_nil, Rs.x]
    congr 2
    rw [show l.length - 1 = n by omega]
theorem noGrowR_out {NB : Nat} {w w9 : World} {B G : Nat} {c : Nat} {l : List Rs} {n : Nat} {r p e lv : Int} {f : Found} {t : List Tw} {y : Rs} (h : RefS NB w B (some ⟨G, 0, none⟩) c l) (hn : n + 1 = l.length) (hm : mayGrow f e lv = false) (hy : l[n]? = some y) (hq : y.q = (r, p) ∧ y.f = f) (h9 : RefS NB w9 B (some ⟨G, 0, none⟩) c l) (c9 : Chg [] w w9) :
    OpS NB w B (some ⟨G, 0, none⟩) c l (St.grow (rss l) e lv t) (St.growErr (rss l) e lv) (.returned (.int .i64 2)) w9 := by
  obtain ⟨g1, g2⟩ := rss_last hn hy
  refine ⟨_, c, l, ?_, h9, ?_, c9.any, fun x hx => .inl hx⟩
  · unfold St.growErr
    rw [g1]
    simp only [hq.2, growErr, hm, Bool.false_eq_true, if_false]
  · unfold St.grow
    rw [g1]
    simp only [hq.2, growSt, hm, Bool.false_eq_true, if_false]
    rw [← hq.2]
    obtain ⟨ys, hys⟩ := List.getLast?_eq_some_iff.1 g1
    rw [hys]
    simp [hq.2]

set_option maxRecDepth 100000 in
set_option maxHeartbeats 16000000 in
theorem growR_any {NB : Nat} (w : World) (B : Nat) (a : Option Addr) (c : Nat) (l : List Rs) (h : RefS NB w B a c l) (hl : l.length ≤ 1000000) (e lv : Int) (ta : Option Addr) (tn tc : Nat) (t : List Tw) (htn : tn = t.length) (hnone : ta = none → tn = 0 ∧ tc = 0) (ht : Twigs w ta t) (hts : tn ≤ 1000000) :
    Calls Try.prog 20 #[.pointer (some ⟨B, 0, none⟩), .int .i64 e, .int .i64 lv, .slice ta tn tc] w (OpS NB w B a c l (St.grow (rss l) e lv t) (St.growErr (rss l) e lv)) := by
  obtain ⟨i0, hi0, hz0, hz1, hz2⟩ := info_parts Try.infoTwig
  obtain ⟨i1, hi1, hy0, hy1, hy2⟩ := info_parts Try.infoPairR
  obtain ⟨n, hn⟩ : ∃ n, n = l.length := ⟨_, rfl⟩
  have x0 := cells1 h.top
  rw [← hn] at x0 hl
  have hBl := lt_of_block h.top
  have HA := Lib.hid (And.intro htn (And.intro hnone ht))
  clear htn hnone ht
  cases n with
  | zero =>
    have e0 : l = [] := List.eq_nil_of_length_eq_zero hn.symm
    subst e0
    have HH := Lib.hid h
    clear h hn
    rw [show St.growErr (rss []) e lv = 5 from rfl, show St.grow (rss []) e lv t = [] from rfl]
    go_enter Try.func20, Try.ntmps20
    go_wp2_with fail
    go_ret
    exact ⟨a, c, [], rfl, HH.out, rfl, Chg.refl _ _, fun x hx => .inl hx⟩
  | succ n =>
  have hw1 : IntKind.i64.wrap (((n + 1 : Nat) : Int) - 1) = n := by rw [show ((n + 1 : Nat) : Int) - 1 = n by omega]; exact IntWalk.i64_in _ (by omega)
  have hz0' : (((n + 1 : Nat) : Int) == 0) = false := by simp only [beq_eq_false_iff_ne, ne_eq]; omega
  have hz9 : ((n : Int) + 1 == 0) = false := by simp only [beq_eq_false_iff_ne, ne_eq]; omega
  have hwn : IntKind.i64.wrap (n : Int) = n := IntWalk.i64_in _ (by omega)
  have hnL : n < l.length := by omega
  obtain ⟨y, hy⟩ : ∃ y, y = l[n] := ⟨_, rfl⟩
  obtain ⟨G, eG, hc1, hc2, z0, z1, z2, z3, z4, z5, -, -, -⟩ := h.at hnL
  subst eG
  rw [← hy] at z0 z1 z2 z3 z4 z5
  rw [← hn] at hc1
  have hnc1 : n + 1 ≤ c := by omega
  have hnc9 : n ≤ c := by omega
  have hyq : l[n]? = some y := by rw [hy]; exact List.getElem?_eq_getElem hnL
  obtain ⟨⟨r, p⟩, f, ya, yc⟩ := y
  obtain ⟨has, hhas⟩ : ∃ v, v = Found.has f := ⟨_, rfl⟩
  obtain ⟨eo, he1⟩ : ∃ v, v = Found.e f := ⟨_, rfl⟩
  obtain ⟨lo, hl1⟩ : ∃ v, v = Found.l f := ⟨_, rfl⟩
  obtain ⟨yn, hyn⟩ : ∃ v, v = (Found.t f).length := ⟨_, rfl⟩
  simp only [← hhas, ← he1, ← hl1, ← hyn] at z0 z1 z2 z3 z4 z5
  have HC : Hid ((has = false → mayGrow f e lv = true) ∧ (has = true → eo < e → lv = lo → mayGrow f e lv = true) ∧ (has = true → ¬ eo < e ∨ ¬ lv = lo → mayGrow f e lv = false)) := Lib.hid (by
    subst hhas he1 hl1
    cases f with
    | none => exact ⟨fun _ => rfl, fun h => by simp [Found.has] at h, fun h => by simp [Found.has] at h⟩
    | some x =>
      obtain ⟨e0, l0, t0⟩ := x
      refine ⟨fun h => by simp [Found.has] at h, fun _ h1 h2 => ?_, fun _ h1 => ?_⟩
      · simp only [Found.e, Found.l] at h1 h2
        simp [mayGrow, h1, h2]
      · simp only [Found.e, Found.l] at h1
        simp only [mayGrow, Bool.and_eq_false_iff, decide_eq_false_iff_not, beq_eq_false_iff_ne]
        exact h1)
  have HQ := Lib.hid (And.intro hyq (show (⟨(r, p), f, ya, yc⟩ : Rs).q = (r, p) ∧ (⟨(r, p), f, ya, yc⟩ : Rs).f = f from ⟨rfl, rfl⟩))
  obtain ⟨y, hy9⟩ : ∃ y, y = (⟨(r, p), f, ya, yc⟩ : Rs) := ⟨_, rfl⟩
  rw [← hy9] at HQ hy
  have HH := Lib.hid (And.intro h (And.intro hn (⟨hnL, hy⟩ : ∃ h : n < l.length, y = l[n])))
  have HS := Lib.hid (And.intro x0 (And.intro z0 (And.intro z1 (And.intro z2 (And.intro z3 (And.intro z4 z5))))))
  clear h hn hy hyq hhas he1 hl1 hyn z0 z1 z2 z3 z4 z5 hy9 hnL
  go_enter Try.func20, Try.ntmps20
  go_wp2_with fail
  clear x0
  try simp only [hz9]
  refine wp_region_tail1 (by kernel_rfl) (by kernel_rfl) [16, 17, 18, 19, 20, 21, 22, 23, 24, 25, 26, 27, 9] (by kernel_rfl) (fun rI rV rW => match rI with | 0 => rV = .pointer (some ⟨B, 0, none⟩) | 1 => rV = .pointer (some ⟨B, 0, none⟩) | 2 => rV = .pointer (some ⟨B, 0, none⟩) | 3 => rV = .slice (some ⟨G, 0, none⟩) (n + 1) c | 4 => rV = .pointer (some ⟨B, 0, none⟩) | 5 => rV = .pointer (some ⟨B, 0, none⟩) | 6 => rV = .pointer (some ⟨B, 0, none⟩) | 7 => rV = .slice (some ⟨G, 0, none⟩) (n + 1) c | 8 => rV = .int .i64 ((n : Int) + 1) | 9 => rV = .int .i64 n | 10 => rV = .pointer (some ⟨G, n * 6, none⟩) | 11 => rV = .agg #[.int .i64 r, .int .i64 p, .bool has, .int .i64 eo, .int .i64 lo, .slice ya yn yc] | 12 => ∃ D, rV = .pointer (some ⟨D, 0, none⟩) ∧ w.heap.size ≤ D ∧ rW.heap[D]? = some (.cells #[.int .i64 0, .int .i64 0, .bool false, .int .i64 0, .int .i64 0, .slice none 0 0] 56 (0, 0)) | _ => True) ?hS2 ?hstep2 ?hdone2
  case hS2 =>
    intro rI rV rW rW' hc rP
    match rI, rP with
    | 0, rP => exact rP
    | 1, rP => exact rP
    | 2, rP => exact rP
    | 3, rP => exact rP
    | 4, rP => exact rP
    | 5, rP => exact rP
    | 6, rP => exact rP
    | 7, rP => exact rP
    | 8, rP => exact rP
    | 9, rP => exact rP
    | 10, rP => exact rP
    | 11, rP => exact rP
    | 12, rP => exact (by obtain ⟨D, e9, hp⟩ := rP; exact ⟨D, e9, ⟨hp.1, hc.heap hp.2 (by simp)⟩⟩)
    | _ + 13, _ => trivial
  case hstep2 =>
    intro rI rH us W hC hdep K hK
    have hiN : rI < 13 := rH
    simp only [actU, Act.put, List.setIfInBounds_toArray, List.set_cons_succ, List.set_cons_zero, Nat.reduceAdd] at hK ⊢
    have hx0 := hC.cell HS.out.1 (by simp)
    have hz0 := hC.cell HS.out.2.1 (by simp)
    have hz1 := hC.cell HS.out.2.2.1 (by simp)
    have hz2 := hC.cell HS.out.2.2.2.1 (by simp)
    have hz3 := hC.cell HS.out.2.2.2.2.1 (by simp)
    have hz4 := hC.cell HS.out.2.2.2.2.2.1 (by simp)
    have hz5 := hC.cell HS.out.2.2.2.2.2.2 (by simp)
    have hnc := hnc1
    have hlt1 : (n : Int) < (n : Int) + 1 := by omega
    rcases (show rI = 0 ∨ rI = 1 ∨ rI = 2 ∨ rI = 3 ∨ rI = 4 ∨ rI = 5 ∨ rI = 6 ∨ rI = 7 ∨ rI = 8 ∨ rI = 9 ∨ rI = 10 ∨ rI = 11 ∨ rI = 12 by omega) with rfl | rfl | rfl | rfl | rfl | rfl | rfl | rfl | rfl | rfl | rfl | rfl | rfl
    · simp only [List.getD_cons_succ, List.getD_cons_zero, List.setIfInBounds_toArray, List.set_cons_succ, List.set_cons_zero] at hK ⊢
      refine wpOp_at rfl rfl ?_
      go_simp
      exact hK _ _ _ rfl (Chg.refl _ _) rfl
    · have l0 := hdep 0 (by kernel_rfl)
      replace l0 : us 0 = .pointer (some ⟨B, 0, none⟩) := l0
      simp only [List.getD_cons_succ, List.getD_cons_zero, List.setIfInBounds_toArray, List.set_cons_succ, List.set_cons_zero, l0] at hK ⊢
      refine wpOp_at rfl rfl ?_
      go_simp
      exact hK _ _ _ rfl (Chg.refl _ _) rfl
    · have l1 := hdep 1 (by kernel_rfl)
      replace l1 : us 1 = .pointer (some ⟨B, 0, none⟩) := l1
      simp only [List.getD_cons_succ, List.getD_cons_zero, List.setIfInBounds_toArray, List.set_cons_succ, List.set_cons_zero, l1] at hK ⊢
      refine wpOp_at rfl rfl ?_
      go_simp
      exact hK _ _ _ rfl (Chg.refl _ _) rfl
    · have l2 := hdep 2 (by kernel_rfl)
      replace l2 : us 2 = .pointer (some ⟨B, 0, none⟩) := l2
      simp only [List.getD_cons_succ, List.getD_cons_zero, List.setIfInBounds_toArray, List.set_cons_succ, List.set_cons_zero, l2] at hK ⊢
      refine wpOp_at rfl rfl ?_
      go_simp
      exact hK _ _ _ rfl (Chg.refl _ _) rfl
    · simp only [List.getD_cons_succ, List.getD_cons_zero, List.setIfInBounds_toArray, List.set_cons_succ, List.set_cons_zero] at hK ⊢
      refine wpOp_at rfl rfl ?_
      go_simp
      exact hK _ _ _ rfl (Chg.refl _ _) rfl
    · have l4 := hdep 4 (by kernel_rfl)
      replace l4 : us 4 = .pointer (some ⟨B, 0, none⟩) := l4
      simp only [List.getD_cons_succ, List.getD_cons_zero, List.setIfInBounds_toArray, List.set_cons_succ, List.set_cons_zero, l4] at hK ⊢
      refine wpOp_at rfl rfl ?_
      go_simp
      exact hK _ _ _ rfl (Chg.refl _ _) rfl
    · have l5 := hdep 5 (by kernel_rfl)
      replace l5 : us 5 = .pointer (some ⟨B, 0, none⟩) := l5
      simp only [List.getD_cons_succ, List.getD_cons_zero, List.setIfInBounds_toArray, List.set_cons_succ, List.set_cons_zero, l5] at hK ⊢
      refine wpOp_at rfl rfl ?_
      go_simp
      exact hK _ _ _ rfl (Chg.refl _ _) rfl
    · have l6 := hdep 6 (by kernel_rfl)
      replace l6 : us 6 = .pointer (some ⟨B, 0, none⟩) := l6
      simp only [List.getD_cons_succ, List.getD_cons_zero, List.setIfInBounds_toArray, List.set_cons_succ, List.set_cons_zero, l6] at hK ⊢
      refine wpOp_at rfl rfl ?_
      go_simp
      exact hK _ _ _ rfl (Chg.refl _ _) rfl
    · have l7 := hdep 7 (by kernel_rfl)
      replace l7 : us 7 = .slice (some ⟨G, 0, none⟩) (n + 1) c := l7
      simp only [List.getD_cons_succ, List.getD_cons_zero, List.setIfInBounds_toArray, List.set_cons_succ, List.set_cons_zero, l7] at hK ⊢
      refine wpOp_at rfl rfl ?_
      go_simp
      exact hK _ _ _ rfl (Chg.refl _ _) rfl
    · have l8 := hdep 8 (by kernel_rfl)
      replace l8 : us 8 = .int .i64 ((n : Int) + 1) := l8
      simp only [List.getD_cons_succ, List.getD_cons_zero, List.setIfInBounds_toArray, List.set_cons_succ, List.set_cons_zero, l8] at hK ⊢
      refine wpOp_at rfl rfl ?_
      go_simp
      exact hK _ _ _ rfl (Chg.refl _ _) rfl
    · have l3 := hdep 3 (by kernel_rfl)
      replace l3 : us 3 = .slice (some ⟨G, 0, none⟩) (n + 1) c := l3
      have l9 := hdep 9 (by kernel_rfl)
      replace l9 : us 9 = .int .i64 n := l9
      simp only [List.getD_cons_succ, List.getD_cons_zero, List.setIfInBounds_toArray, List.set_cons_succ, List.set_cons_zero, l3, l9] at hK ⊢
      refine wpOp_at rfl rfl ?_
      go_simp
      exact hK _ _ _ rfl (Chg.refl _ _) rfl
    · have l10 := hdep 10 (by kernel_rfl)
      replace l10 : us 10 = .pointer (some ⟨G, n * 6, none⟩) := l10
      simp only [List.getD_cons_succ, List.getD_cons_zero, List.setIfInBounds_toArray, List.set_cons_succ, List.set_cons_zero, l10] at hK ⊢
      refine wpOp_at rfl rfl ?_
      go_simp
      exact hK _ _ _ rfl (Chg.refl _ _) rfl
    · simp only [List.getD_cons_succ, List.getD_cons_zero, List.setIfInBounds_toArray, List.set_cons_succ, List.set_cons_zero] at hK ⊢
      refine wpOp_at rfl rfl ?_
      go_simp
      exact hK _ _ _ rfl ((Chg.refl _ _).alloc _) ⟨W.heap.size, rfl, ⟨hC.size, heap_alloc_same _ _⟩⟩
  case hdone2 =>
    intro us W hC hall
    have l0 := hall 0 (by decide)
    replace l0 : us 0 = .pointer (some ⟨B, 0, none⟩) := l0
    have l1 := hall 1 (by decide)
    replace l1 : us 1 = .pointer (some ⟨B, 0, none⟩) := l1
    have l2 := hall 2 (by decide)
    replace l2 : us 2 = .pointer (some ⟨B, 0, none⟩) := l2
    have l3 := hall 3 (by decide)
    replace l3 : us 3 = .slice (some ⟨G, 0, none⟩) (n + 1) c := l3
    have l4 := hall 4 (by decide)
    replace l4 : us 4 = .pointer (some ⟨B, 0, none⟩) := l4
    have l5 := hall 5 (by decide)
    replace l5 : us 5 = .pointer (some ⟨B, 0, none⟩) := l5
    have l6 := hall 6 (by decide)
    replace l6 : us 6 = .pointer (some ⟨B, 0, none⟩) := l6
    have l7 := hall 7 (by decide)
    replace l7 : us 7 = .slice (some ⟨G, 0, none⟩) (n + 1) c := l7
    have l8 := hall 8 (by decide)
    replace l8 : us 8 = .int .i64 ((n : Int) + 1) := l8
    have l9 := hall 9 (by decide)
    replace l9 : us 9 = .int .i64 n := l9
    have l10 := hall 10 (by decide)
    replace l10 : us 10 = .pointer (some ⟨G, n * 6, none⟩) := l10
    have l11 := hall 11 (by decide)
    replace l11 : us 11 = .agg #[.int .i64 r, .int .i64 p, .bool has, .int .i64 eo, .int .i64 lo, .slice ya yn yc] := l11
    have l12 := hall 12 (by decide)
    obtain ⟨D, l12, p12⟩ := l12
    simp only [actU, Act.put, List.setIfInBounds_toArray, List.set_cons_succ, List.set_cons_zero, Nat.reduceAdd, l0, l1, l2, l3, l4, l5, l6, l7, l8, l9, l10, l11, l12]
    clear hall l0 l1 l2 l3 l4 l5 l6 l7 l8 l9 l10 l11 l12
    have hb := p12.2
    have f0 := free_of_cells hb 0
    have f1 := free_of_cells hb 1
    have f2 := free_of_cells hb 2
    have f3 := free_of_cells hb 3
    have f4 := free_of_cells hb 4
    have f5 := free_of_cells hb 5
    obtain ⟨r0, r1, r2, r3, r4, r5⟩ := cells6 hb
    obtain ⟨h5, hc5⟩ := set6 hb (.int .i64 r) (.int .i64 p) (.bool has) (.int .i64 eo) (.int .i64 lo) (.slice ya yn yc)
    have hD := p12.1
    have HW := Lib.hid (And.intro h5 (And.intro hc5 hC))
    clear hb p12 h5 hc5 hC
    refine wpOp_at rfl rfl ?_
    go_simp
    go_upto_region 4 with fail
    obtain ⟨w5, e5⟩ : ∃ z, z = ((((((W.setCell ⟨D, 0, none⟩ (.int .i64 r)).setCell ⟨D, 1, none⟩ (.int .i64 p)).setCell ⟨D, 2, none⟩ (.bool has)).setCell ⟨D, 3, none⟩ (.int .i64 eo)).setCell ⟨D, 4, none⟩ (.int .i64 lo)).setCell ⟨D, 5, none⟩ (.slice ya yn yc)) := ⟨_, rfl⟩
    have hb5 := HW.out.1
    have hc5 := HW.out.2.1
    rw [← e5] at hb5 hc5 ⊢
    have hc05 : Chg [] w w5 := HW.out.2.2.trans hc5 (fun j hj => .inr (by simp only [List.mem_singleton] at hj; omega))
    have h5 := HH.out.1.chg0 hc05
    have x5 := cells1 h5.top
    rw [← HH.out.2.1] at x5
    have H5 := Lib.hid (And.intro h5 (And.intro hb5 hc05))
    have H5c := Lib.hid (And.intro x5 hb5)
    have HT : Hid ((twCells t).length = tn * 5 ∧ (ta = none → tn = 0 ∧ tc = 0) ∧ (∀ W, Chg [] w5 W → ∀ b, ta = some b → ∀ j u, (twCells t)[j]? = some u → W.cell? (b.add j) = some u) ∧ tn ≤ maxLen ∧ tn * 40 ≤ 140737488355328) := Lib.hid ⟨by rw [twCells_length, HA.out.1], HA.out.2.1, fun W hW b hb => by subst hb; exact twigs_some ((HA.out.2.2.keep hc05.kp).keep hW.kp), by simp only [maxLen]; omega, by omega⟩
    have HFIN : Hid (∀ W, Chg [] w5 W → ∀ a60 c60, W.ownsRow w5.heap.size 33 5 (.slice a60 tn c60) tn (twCells t) → ∀ w9, Chg [G] W w9 → w9.ownsRow 0 56 6 (.slice (some ⟨G, 0, none⟩) (n + 1) c) (n + 1) ((((((( rsCells l).set (n * 6) (.int .i64 r)).set (n * 6 + 1) (.int .i64 p)).set (n * 6 + 2) (.bool true)).set (n * 6 + 3) (.int .i64 e)).set (n * 6 + 4) (.int .i64 lv)).set (n * 6 + 5) (.slice a60 tn c60)) → GrownR NB w B G c l r p e lv t w9) := Lib.hid (fun W hW a60 c60 h60 w9 h9 hr9 => by
      have hq := h5.chg0 hW
      have hll : l = l.take n ++ [y] := by obtain ⟨hnl, hyl⟩ := HH.out.2.2; rw [hyl]; conv => lhs; rw [← List.take_append_drop n l, List.drop_eq_getElem_cons (by have := HH.out.2.1; omega), List.drop_eq_nil_of_le (by have := HH.out.2.1; omega)]
      have hset : (((((((rsCells l).set (n * 6) (.int .i64 r)).set (n * 6 + 1) (.int .i64 p)).set (n * 6 + 2) (.bool true)).set (n * 6 + 3) (.int .i64 e)).set (n * 6 + 4) (.int .i64 lv)).set (n * 6 + 5) (.slice a60 tn c60)) = rsCells (l.take n) ++ (⟨(r, p), some (e, lv, t), a60, c60⟩ : Rs).cells := by
        have hlt : (rsCells (l.take n)).length = n * 6 := by rw [rsCells_len, List.length_take]; have := HH.out.2.1; omega
        conv => lhs; rw [hll, rsCells_append]
        have e9 : rsCells [y] = y.cells := by simp [rsCells]
        rw [e9]
        have key : ∀ (k : Nat) (A Bc : List Value) (v : Value), A.length = n * 6 → (A ++ Bc).set (n * 6 + k) v = A ++ Bc.set k v := fun k A Bc v hA => by
          rw [List.set_append_right _ _ (by omega), hA, Nat.add_sub_cancel_left]
        have key0 := key 0
        simp only [Nat.add_zero] at key0
        rw [key0 _ _ _ hlt, key 1 _ _ _ hlt, key 2 _ _ _ hlt, key 3 _ _ _ hlt, key 4 _ _ _ hlt, key 5 _ _ _ hlt]
        simp only [Rs.cells, List.set_cons_zero, List.set_cons_succ, Found.has, Found.e, Found.l, Found.t, HA.out.1, Option.isSome_some]
      rw [hset] at hr9
      have ht : TreeN NB W (.slice a60 (Found.t (some (e, lv, t))).length c60) (Found.t (some (e, lv, t))) := by
        have e7 : Found.t (some (e, lv, t)) = t := rfl
        rw [e7, ← HA.out.1]
        refine ⟨⟨by rw [← HA.out.1]; exact row_base h60 (Nat.zero_le _), by rw [← HA.out.1]; omega⟩, fun he => ?_⟩
        have g1 := (h60.lt _ he).1
        have g2 := HH.out.1.ban
        have g3 := hc05.size
        omega
      have hR := hq.last HH.out.2.1 ⟨(r, p), some (e, lv, t), a60, c60⟩ h9 (by rw [← HH.out.2.1]; exact hr9) ht
      exact ⟨_, ⟨a60, c60, by rw [show l.length - 1 = n by have := HH.out.2.1; omega]⟩, hR, ((hc05.tr hW).any).tr h9⟩)
    obtain ⟨m0, m1, m2, m3, m4, m5⟩ := cells6 hb5
    clear e5 hb5 hc5 hc05 h5 x5 f0 f1 f2 f3 f4 f5 r0 r1 r2 r3 r4 r5
    cases has with
    | false =>
      have hmay := HC.out.1 rfl
      have HNO : Hid True := Lib.hid trivial
      clear m3 m4 m5
      clear m0 m1
      go_wp2_with fail
      try simp only [hz9]
      refine wp_region_tail1 (by kernel_rfl) (by kernel_rfl) [42, 43, 44, 45, 46, 47, 48, 49, 50, 51, 52, 53, 54, 55, 56, 57, 58, 59, 60, 61, 62] (by kernel_rfl) (fun rI rV rW => match rI with | 0 => rV = .pointer (some ⟨B, 0, none⟩) | 1 => rV = .pointer (some ⟨B, 0, none⟩) | 2 => rV = .pointer (some ⟨B, 0, none⟩) | 3 => rV = .slice (some ⟨G, 0, none⟩) (n + 1) c | 4 => rV = .pointer (some ⟨B, 0, none⟩) | 5 => rV = .pointer (some ⟨B, 0, none⟩) | 6 => rV = .pointer (some ⟨B, 0, none⟩) | 7 => rV = .slice (some ⟨G, 0, none⟩) (n + 1) c | 8 => rV = .int .i64 ((n : Int) + 1) | 9 => rV = .int .i64 n | 10 => rV = .pointer (some ⟨D, 0, none⟩) | 11 => rV = .int .i64 r | 12 => rV = .pointer (some ⟨D, 1, none⟩) | 13 => rV = .int .i64 p | 14 => rV = .int .i64 e | 15 => rV = .int .i64 lv | 16 => ∃ b58, rV = .slice (some ⟨b58, 0, none⟩) 0 0 ∧ w5.heap.size ≤ b58 ∧ rW.heap[b58]? = some (.cells #[] 33 (0, 0)) | 17 => rV = .slice ta tn tc | 18 => ∃ a60 c60, rV = .slice a60 tn c60 ∧ rW.ownsRow w5.heap.size 33 5 (.slice a60 tn c60) tn (twCells t) | 19 => ∃ a61 c61, rV = .agg #[.int .i64 r, .int .i64 p, .bool true, .int .i64 e, .int .i64 lv, .slice a61 tn c61] ∧ rW.ownsRow w5.heap.size 33 5 (.slice a61 tn c61) tn (twCells t) | 20 => rV = .pointer (some ⟨G, n * 6, none⟩) | _ => True) ?hS0 ?hstep0 ?hdone0
      case hS0 =>
        intro rI rV rW rW' hc rP
        match rI, rP with
        | 0, rP => exact rP
        | 1, rP => exact rP
        | 2, rP => exact rP
        | 3, rP => exact rP
        | 4, rP => exact rP
        | 5, rP => exact rP
        | 6, rP => exact rP
        | 7, rP => exact rP
        | 8, rP => exact rP
        | 9, rP => exact rP
        | 10, rP => exact rP
        | 11, rP => exact rP
        | 12, rP => exact rP
        | 13, rP => exact rP
        | 14, rP => exact rP
        | 15, rP => exact rP
        | 16, rP => exact (by obtain ⟨b58, e9, hp⟩ := rP; exact ⟨b58, e9, ⟨hp.1, hc.heap hp.2 (by simp)⟩⟩)
        | 17, rP => exact rP
        | 18, rP => exact (by obtain ⟨a60, c60, e9, hp⟩ := rP; exact ⟨a60, c60, e9, hc.row hp (fun _ _ => by simp)⟩)
        | 19, rP => exact (by obtain ⟨a61, c61, e9, hp⟩ := rP; exact ⟨a61, c61, e9, hc.row hp (fun _ _ => by simp)⟩)
        | 20, rP => exact rP
        | _ + 21, _ => trivial
      case hstep0 =>
        intro rI rH us W hC hdep K hK
        have hiN : rI < 21 := rH
        simp only [actU, Act.put, List.setIfInBounds_toArray, List.set_cons_succ, List.set_cons_zero, Nat.reduceAdd] at hK ⊢
        have hcellB := hC.cell H5c.out.1 (by simp)
        obtain ⟨k0, k1, -, -, -, -⟩ := cells6 (hC.heap H5c.out.2 (by simp))
        have hnc := hnc1
        have hlt1 : (n : Int) < (n : Int) + 1 := by omega
        rcases (show rI = 0 ∨ rI = 1 ∨ rI = 2 ∨ rI = 3 ∨ rI = 4 ∨ rI = 5 ∨ rI = 6 ∨ rI = 7 ∨ rI = 8 ∨ rI = 9 ∨ rI = 10 ∨ rI = 11 ∨ rI = 12 ∨ rI = 13 ∨ rI = 14 ∨ rI = 15 ∨ rI = 16 ∨ rI = 17 ∨ rI = 18 ∨ rI = 19 ∨ rI = 20 by omega) with rfl | rfl | rfl | rfl | rfl | rfl | rfl | rfl | rfl | rfl | rfl | rfl | rfl | rfl | rfl | rfl | rfl | rfl | rfl | rfl | rfl
        · simp only [List.getD_cons_succ, List.getD_cons_zero, List.setIfInBounds_toArray, List.set_cons_succ, List.set_cons_zero] at hK ⊢
          refine wpOp_at rfl rfl ?_
          go_simp
          exact hK _ _ _ rfl (Chg.refl _ _) rfl
        · have l0 := hdep 0 (by kernel_rfl)
          replace l0 : us 0 = .pointer (some ⟨B, 0, none⟩) := l0
          simp only [List.getD_cons_succ, List.getD_cons_zero, List.setIfInBounds_toArray, List.set_cons_succ, List.set_cons_zero, l0] at hK ⊢
          refine wpOp_at rfl rfl ?_
          go_simp
          exact hK _ _ _ rfl (Chg.refl _ _) rfl
        · have l1 := hdep 1 (by kernel_rfl)
          replace l1 : us 1 = .pointer (some ⟨B, 0, none⟩) := l1
          simp only [List.getD_cons_succ, List.getD_cons_zero, List.setIfInBounds_toArray, List.set_cons_succ, List.set_cons_zero, l1] at hK ⊢
          refine wpOp_at rfl rfl ?_
          go_simp
          exact hK _ _ _ rfl (Chg.refl _ _) rfl
        · have l2 := hdep 2 (by kernel_rfl)
          replace l2 : us 2 = .pointer (some ⟨B, 0, none⟩) := l2
          simp only [List.getD_cons_succ, List.getD_cons_zero, List.setIfInBounds_toArray, List.set_cons_succ, List.set_cons_zero, l2] at hK ⊢
          refine wpOp_at rfl rfl ?_
          go_simp
          exact hK _ _ _ rfl (Chg.refl _ _) rfl
        · simp only [List.getD_cons_succ, List.getD_cons_zero, List.setIfInBounds_toArray, List.set_cons_succ, List.set_cons_zero] at hK ⊢
          refine wpOp_at rfl rfl ?_
          go_simp
          exact hK _ _ _ rfl (Chg.refl _ _) rfl
        · have l4 := hdep 4 (by kernel_rfl)
          replace l4 : us 4 = .pointer (some ⟨B, 0, none⟩) := l4
          simp only [List.getD_cons_succ, List.getD_cons_zero, List.setIfInBounds_toArray, List.set_cons_succ, List.set_cons_zero, l4] at hK ⊢
          refine wpOp_at rfl rfl ?_
          go_simp
          exact hK _ _ _ rfl (Chg.refl _ _) rfl
        · have l5 := hdep 5 (by kernel_rfl)
          replace l5 : us 5 = .pointer (some ⟨B, 0, none⟩) := l5
          simp only [List.getD_cons_succ, List.getD_cons_zero, List.setIfInBounds_toArray, List.set_cons_succ, List.set_cons_zero, l5] at hK ⊢
          refine wpOp_at rfl rfl ?_
          go_simp
          exact hK _ _ _ rfl (Chg.refl _ _) rfl
        · have l6 := hdep 6 (by kernel_rfl)
          replace l6 : us 6 = .pointer (some ⟨B, 0, none⟩) := l6
          simp only [List.getD_cons_succ, List.getD_cons_zero, List.setIfInBounds_toArray, List.set_cons_succ, List.set_cons_zero, l6] at hK ⊢
          refine wpOp_at rfl rfl ?_
          go_simp
          exact hK _ _ _ rfl (Chg.refl _ _) rfl
        · have l7 := hdep 7 (by kernel_rfl)
          replace l7 : us 7 = .slice (some ⟨G, 0, none⟩) (n + 1) c := l7
          simp only [List.getD_cons_succ, List.getD_cons_zero, List.setIfInBounds_toArray, List.set_cons_succ, List.set_cons_zero, l7] at hK ⊢
          refine wpOp_at rfl rfl ?_
          go_simp
          exact hK _ _ _ rfl (Chg.refl _ _) rfl
        · have l8 := hdep 8 (by kernel_rfl)
          replace l8 : us 8 = .int .i64 ((n : Int) + 1) := l8
          simp only [List.getD_cons_succ, List.getD_cons_zero, List.setIfInBounds_toArray, List.set_cons_succ, List.set_cons_zero, l8] at hK ⊢
          refine wpOp_at rfl rfl ?_
          go_simp
          exact hK _ _ _ rfl (Chg.refl _ _) rfl
        · simp only [List.getD_cons_succ, List.getD_cons_zero, List.setIfInBounds_toArray, List.set_cons_succ, List.set_cons_zero] at hK ⊢
          refine wpOp_at rfl rfl ?_
          go_simp
          exact hK _ _ _ rfl (Chg.refl _ _) rfl
        · have l10 := hdep 10 (by kernel_rfl)
          replace l10 : us 10 = .pointer (some ⟨D, 0, none⟩) := l10
          simp only [List.getD_cons_succ, List.getD_cons_zero, List.setIfInBounds_toArray, List.set_cons_succ, List.set_cons_zero, l10] at hK ⊢
          refine wpOp_at rfl rfl ?_
          go_simp
          exact hK _ _ _ rfl (Chg.refl _ _) rfl
        · simp only [List.getD_cons_succ, List.getD_cons_zero, List.setIfInBounds_toArray, List.set_cons_succ, List.set_cons_zero] at hK ⊢
          refine wpOp_at rfl rfl ?_
          go_simp
          exact hK _ _ _ rfl (Chg.refl _ _) rfl
        · have l12 := hdep 12 (by kernel_rfl)
          replace l12 : us 12 = .pointer (some ⟨D, 1, none⟩) := l12
          simp only [List.getD_cons_succ, List.getD_cons_zero, List.setIfInBounds_toArray, List.set_cons_succ, List.set_cons_zero, l12] at hK ⊢
          refine wpOp_at rfl rfl ?_
          go_simp
          exact hK _ _ _ rfl (Chg.refl _ _) rfl
        · simp only [List.getD_cons_succ, List.getD_cons_zero, List.setIfInBounds_toArray, List.set_cons_succ, List.set_cons_zero] at hK ⊢
          refine wpOp_at rfl rfl ?_
          go_simp
          exact hK _ _ _ rfl (Chg.refl _ _) rfl
        · simp only [List.getD_cons_succ, List.getD_cons_zero, List.setIfInBounds_toArray, List.set_cons_succ, List.set_cons_zero] at hK ⊢
          refine wpOp_at rfl rfl ?_
          go_simp
          exact hK _ _ _ rfl (Chg.refl _ _) rfl
        · simp only [List.getD_cons_succ, List.getD_cons_zero, List.setIfInBounds_toArray, List.set_cons_succ, List.set_cons_zero] at hK ⊢
          refine wpOp_at rfl rfl ?_
          go_simp
          exact hK _ _ _ rfl ((Chg.refl _ _).alloc _) ⟨W.heap.size, rfl, ⟨hC.size, heap_alloc_same _ _⟩⟩
        · simp only [List.getD_cons_succ, List.getD_cons_zero, List.setIfInBounds_toArray, List.set_cons_succ, List.set_cons_zero] at hK ⊢
          refine wpOp_at rfl rfl ?_
          go_simp
          exact hK _ _ _ rfl (Chg.refl _ _) rfl
        · have l16 := hdep 16 (by kernel_rfl)
          obtain ⟨b58, l16, p16⟩ := l16
          have l17 := hdep 17 (by kernel_rfl)
          replace l17 : us 17 = .slice ta tn tc := l17
          simp only [List.getD_cons_succ, List.getD_cons_zero, List.setIfInBounds_toArray, List.set_cons_succ, List.set_cons_zero, l16, l17] at hK ⊢
          refine wpOp_at rfl rfl ?_
          refine wp_append_fresh _ _ 34 rfl 33 i0 _ 5 40 Try.underlying34 hi0 hz0 hz1 hz2 rfl (by decide) b58 rfl p16.2 w5.heap.size p16.1 ta tn tc (twCells t) rfl HT.out.1 HT.out.2.1 (HT.out.2.2.1 W hC) (twCells_one t) HT.out.2.2.2.1 HT.out.2.2.2.2 ?_
          intro a60 c60 wz hr60 hz60
          exact hK _ _ _ rfl hz60 ⟨a60, c60, rfl, hr60⟩
        · have l11 := hdep 11 (by kernel_rfl)
          replace l11 : us 11 = .int .i64 r := l11
          have l13 := hdep 13 (by kernel_rfl)
          replace l13 : us 13 = .int .i64 p := l13
          have l14 := hdep 14 (by kernel_rfl)
          replace l14 : us 14 = .int .i64 e := l14
          have l15 := hdep 15 (by kernel_rfl)
          replace l15 : us 15 = .int .i64 lv := l15
          have l18 := hdep 18 (by kernel_rfl)
          obtain ⟨a60, c60, l18, p18⟩ := l18
          simp only [List.getD_cons_succ, List.getD_cons_zero, List.setIfInBounds_toArray, List.set_cons_succ, List.set_cons_zero, l11, l13, l14, l15, l18] at hK ⊢
          refine wpOp_at rfl rfl ?_
          go_simp
          exact hK _ _ _ rfl (Chg.refl _ _) ⟨a60, c60, rfl, p18⟩
        · have l3 := hdep 3 (by kernel_rfl)
          replace l3 : us 3 = .slice (some ⟨G, 0, none⟩) (n + 1) c := l3
          have l9 := hdep 9 (by kernel_rfl)
          replace l9 : us 9 = .int .i64 n := l9
          simp only [List.getD_cons_succ, List.getD_cons_zero, List.setIfInBounds_toArray, List.set_cons_succ, List.set_cons_zero, l3, l9] at hK ⊢
          refine wpOp_at rfl rfl ?_
          go_simp
          exact hK _ _ _ rfl (Chg.refl _ _) rfl
      case hdone0 =>
        intro us W hC hall
        have l0 := hall 0 (by decide)
        replace l0 : us 0 = .pointer (some ⟨B, 0, none⟩) := l0
        have l1 := hall 1 (by decide)
        replace l1 : us 1 = .pointer (some ⟨B, 0, none⟩) := l1
        have l2 := hall 2 (by decide)
        replace l2 : us 2 = .pointer (some ⟨B, 0, none⟩) := l2
        have l3 := hall 3 (by decide)
        replace l3 : us 3 = .slice (some ⟨G, 0, none⟩) (n + 1) c := l3
        have l4 := hall 4 (by decide)
        replace l4 : us 4 = .pointer (some ⟨B, 0, none⟩) := l4
        have l5 := hall 5 (by decide)
        replace l5 : us 5 = .pointer (some ⟨B, 0, none⟩) := l5
        have l6 := hall 6 (by decide)
        replace l6 : us 6 = .pointer (some ⟨B, 0, none⟩) := l6
        have l7 := hall 7 (by decide)
        replace l7 : us 7 = .slice (some ⟨G, 0, none⟩) (n + 1) c := l7
        have l8 := hall 8 (by decide)
        replace l8 : us 8 = .int .i64 ((n : Int) + 1) := l8
        have l9 := hall 9 (by decide)
        replace l9 : us 9 = .int .i64 n := l9
        have l10 := hall 10 (by decide)
        replace l10 : us 10 = .pointer (some ⟨D, 0, none⟩) := l10
        have l11 := hall 11 (by decide)
        replace l11 : us 11 = .int .i64 r := l11
        have l12 := hall 12 (by decide)
        replace l12 : us 12 = .pointer (some ⟨D, 1, none⟩) := l12
        have l13 := hall 13 (by decide)
        replace l13 : us 13 = .int .i64 p := l13
        have l14 := hall 14 (by decide)
        replace l14 : us 14 = .int .i64 e := l14
        have l15 := hall 15 (by decide)
        replace l15 : us 15 = .int .i64 lv := l15
        have l16 := hall 16 (by decide)
        obtain ⟨b58, l16, p16⟩ := l16
        have l17 := hall 17 (by decide)
        replace l17 : us 17 = .slice ta tn tc := l17
        have l18 := hall 18 (by decide)
        obtain ⟨a60, c60, l18, p18⟩ := l18
        have l19 := hall 19 (by decide)
        obtain ⟨a61, c61, l19, p19⟩ := l19
        have l20 := hall 20 (by decide)
        replace l20 : us 20 = .pointer (some ⟨G, n * 6, none⟩) := l20
        simp only [actU, Act.put, List.setIfInBounds_toArray, List.set_cons_succ, List.set_cons_zero, Nat.reduceAdd, l0, l1, l2, l3, l4, l5, l6, l7, l8, l9, l10, l11, l12, l13, l14, l15, l16, l17, l18, l19, l20]
        clear hall l0 l1 l2 l3 l4 l5 l6 l7 l8 l9 l10 l11 l12 l13 l14 l15 l16 l17 l18 l19 l20
        have hqW := H5.out.1.chg0 hC
        have hrw := hqW.row
        rw [← HH.out.2.1] at hrw
        obtain ⟨-, f0, -, ⟨cu, hcu⟩, hp0⟩ := row_put hrw (i := n * 6) (by omega)
        obtain ⟨r0, g0⟩ := hp0 (.int .i64 r)
        obtain ⟨-, -, -, -, hp1⟩ := row_put r0 (i := n * 6 + 1) (by omega)
        obtain ⟨r1, g1⟩ := hp1 (.int .i64 p)
        obtain ⟨-, -, -, -, hp2⟩ := row_put r1 (i := n * 6 + 2) (by omega)
        obtain ⟨r2, g2⟩ := hp2 (.bool true)
        obtain ⟨-, -, -, -, hp3⟩ := row_put r2 (i := n * 6 + 3) (by omega)
        obtain ⟨r3, g3⟩ := hp3 (.int .i64 e)
        obtain ⟨-, -, -, -, hp4⟩ := row_put r3 (i := n * 6 + 4) (by omega)
        obtain ⟨r4, g4⟩ := hp4 (.int .i64 lv)
        obtain ⟨-, -, -, -, hp5⟩ := row_put r4 (i := n * 6 + 5) (by omega)
        obtain ⟨r5, g5⟩ := hp5 (.slice a61 tn c61)
        have hcell : ∀ q, q < 6 → ∃ u, W.cell? ⟨G, n * 6 + q, none⟩ = some u := fun q hq => by
          rw [(row_put hrw (i := n * 6 + q) (by omega)).1]
          exact ⟨_, List.getElem?_eq_getElem (by have := hrw.1; omega)⟩
        obtain ⟨u0, q0⟩ := hcell 0 (by decide)
        obtain ⟨u1, q1⟩ := hcell 1 (by decide)
        obtain ⟨u2, q2⟩ := hcell 2 (by decide)
        obtain ⟨u3, q3⟩ := hcell 3 (by decide)
        obtain ⟨u4, q4⟩ := hcell 4 (by decide)
        obtain ⟨u5, q5⟩ := hcell 5 (by decide)
        rw [Nat.add_zero] at q0
        have hfz : ∀ o, W.frozen? ⟨G, o, none⟩ = false := fun o => free_of_cells hcu o
        have e0 := hfz (n * 6)
        have e1' := hfz (n * 6 + 1)
        have e2 := hfz (n * 6 + 2)
        have e3 := hfz (n * 6 + 3)
        have e4 := hfz (n * 6 + 4)
        have e5 := hfz (n * 6 + 5)
        have HP := Lib.hid (And.intro r5 (And.intro (((((g0.tr g1).tr g2).tr g3).tr g4).tr g5) (And.intro hqW (And.intro hC p19))))
        clear hqW hrw hp0 hp1 hp2 hp3 hp4 hp5 r0 r1 r2 r3 r4 r5 g0 g1 g2 g3 g4 g5 hcell hfz hcu f0 hC p16 p18 p19
        obtain ⟨w9, e9⟩ : ∃ z, z = ((((((W.setCell ⟨G, n * 6, none⟩ (.int .i64 r)).setCell ⟨G, n * 6 + 1, none⟩ (.int .i64 p)).setCell ⟨G, n * 6 + 2, none⟩ (.bool true)).setCell ⟨G, n * 6 + 3, none⟩ (.int .i64 e)).setCell ⟨G, n * 6 + 4, none⟩ (.int .i64 lv)).setCell ⟨G, n * 6 + 5, none⟩ (.slice a61 tn c61)) := ⟨_, rfl⟩
        rw [← e9] at HP
        refine wpOp_at rfl rfl ?_
        go_simp
        go_step
        rw [← e9]
        clear e9
        go_wp2_with fail
        go_ret
        obtain ⟨l9, e9, h9, c9⟩ := HFIN.out _ HP.out.2.2.2.1 a61 c61 HP.out.2.2.2.2 _ HP.out.2.1 HP.out.1
        exact grownR_out HH.out.1 HH.out.2.1 hmay HQ.out.1 HQ.out.2 e9 h9 c9
    | true =>
      by_cases he1 : eo < e
      · by_cases hl1 : lv = lo
        · have hmay := HC.out.2.1 rfl he1 hl1
          subst hl1
          have hd2 : (lv != lv) = false := by simp
          have hd1 : decide (e ≤ eo) = false := decide_eq_false (by omega)
          clear m0 m1
          go_wp2_with fail
          try simp only [hz9]
          refine wp_region_tail1 (by kernel_rfl) (by kernel_rfl) [42, 43, 44, 45, 46, 47, 48, 49, 50, 51, 52, 53, 54, 55, 56, 57, 58, 59, 60, 61, 62] (by kernel_rfl) (fun rI rV rW => match rI with | 0 => rV = .pointer (some ⟨B, 0, none⟩) | 1 => rV = .pointer (some ⟨B, 0, none⟩) | 2 => rV = .pointer (some ⟨B, 0, none⟩) | 3 => rV = .slice (some ⟨G, 0, none⟩) (n + 1) c | 4 => rV = .pointer (some ⟨B, 0, none⟩) | 5 => rV = .pointer (some ⟨B, 0, none⟩) | 6 => rV = .pointer (some ⟨B, 0, none⟩) | 7 => rV = .slice (some ⟨G, 0, none⟩) (n + 1) c | 8 => rV = .int .i64 ((n : Int) + 1) | 9 => rV = .int .i64 n | 10 => rV = .pointer (some ⟨D, 0, none⟩) | 11 => rV = .int .i64 r | 12 => rV = .pointer (some ⟨D, 1, none⟩) | 13 => rV = .int .i64 p | 14 => rV = .int .i64 e | 15 => rV = .int .i64 lv | 16 => ∃ b58, rV = .slice (some ⟨b58, 0, none⟩) 0 0 ∧ w5.heap.size ≤ b58 ∧ rW.heap[b58]? = some (.cells #[] 33 (0, 0)) | 17 => rV = .slice ta tn tc | 18 => ∃ a60 c60, rV = .slice a60 tn c60 ∧ rW.ownsRow w5.heap.size 33 5 (.slice a60 tn c60) tn (twCells t) | 19 => ∃ a61 c61, rV = .agg #[.int .i64 r, .int .i64 p, .bool true, .int .i64 e, .int .i64 lv, .slice a61 tn c61] ∧ rW.ownsRow w5.heap.size 33 5 (.slice a61 tn c61) tn (twCells t) | 20 => rV = .pointer (some ⟨G, n * 6, none⟩) | _ => True) ?hS0 ?hstep0 ?hdone0
          case hS0 =>
            intro rI rV rW rW' hc rP
            match rI, rP with
            | 0, rP => exact rP
            | 1, rP => exact rP
            | 2, rP => exact rP
            | 3, rP => exact rP
            | 4, rP => exact rP
            | 5, rP => exact rP
            | 6, rP => exact rP
            | 7, rP => exact rP
            | 8, rP => exact rP
            | 9, rP => exact rP
            | 10, rP => exact rP
            | 11, rP => exact rP
            | 12, rP => exact rP
            | 13, rP => exact rP
            | 14, rP => exact rP
            | 15, rP => exact rP
            | 16, rP => exact (by obtain ⟨b58, e9, hp⟩ := rP; exact ⟨b58, e9, ⟨hp.1, hc.heap hp.2 (by simp)⟩⟩)
            | 17, rP => exact rP
            | 18, rP => exact (by obtain ⟨a60, c60, e9, hp⟩ := rP; exact ⟨a60, c60, e9, hc.row hp (fun _ _ => by simp)⟩)
            | 19, rP => exact (by obtain ⟨a61, c61, e9, hp⟩ := rP; exact ⟨a61, c61, e9, hc.row hp (fun _ _ => by simp)⟩)
            | 20, rP => exact rP
            | _ + 21, _ => trivial
          case hstep0 =>
            intro rI rH us W hC hdep K hK
            have hiN : rI < 21 := rH
            simp only [actU, Act.put, List.setIfInBounds_toArray, List.set_cons_succ, List.set_cons_zero, Nat.reduceAdd] at hK ⊢
            have hcellB := hC.cell H5c.out.1 (by simp)
            obtain ⟨k0, k1, -, -, -, -⟩ := cells6 (hC.heap H5c.out.2 (by simp))
            have hnc := hnc1
            have hlt1 : (n : Int) < (n : Int) + 1 := by omega
            rcases (show rI = 0 ∨ rI = 1 ∨ rI = 2 ∨ rI = 3 ∨ rI = 4 ∨ rI = 5 ∨ rI = 6 ∨ rI = 7 ∨ rI = 8 ∨ rI = 9 ∨ rI = 10 ∨ rI = 11 ∨ rI = 12 ∨ rI = 13 ∨ rI = 14 ∨ rI = 15 ∨ rI = 16 ∨ rI = 17 ∨ rI = 18 ∨ rI = 19 ∨ rI = 20 by omega) with rfl | rfl | rfl | rfl | rfl | rfl | rfl | rfl | rfl | rfl | rfl | rfl | rfl | rfl | rfl | rfl | rfl | rfl | rfl | rfl | rfl
            · simp only [List.getD_cons_succ, List.getD_cons_zero, List.setIfInBounds_toArray, List.set_cons_succ, List.set_cons_zero] at hK ⊢
              refine wpOp_at rfl rfl ?_
              go_simp
              exact hK _ _ _ rfl (Chg.refl _ _) rfl
            · have l0 := hdep 0 (by kernel_rfl)
              replace l0 : us 0 = .pointer (some ⟨B, 0, none⟩) := l0
              simp only [List.getD_cons_succ, List.getD_cons_zero, List.setIfInBounds_toArray, List.set_cons_succ, List.set_cons_zero, l0] at hK ⊢
              refine wpOp_at rfl rfl ?_
              go_simp
              exact hK _ _ _ rfl (Chg.refl _ _) rfl
            · have l1 := hdep 1 (by kernel_rfl)
              replace l1 : us 1 = .pointer (some ⟨B, 0, none⟩) := l1
              simp only [List.getD_cons_succ, List.getD_cons_zero, List.setIfInBounds_toArray, List.set_cons_succ, List.set_cons_zero, l1] at hK ⊢
              refine wpOp_at rfl rfl ?_
              go_simp
              exact hK _ _ _ rfl (Chg.refl _ _) rfl
            · have l2 := hdep 2 (by kernel_rfl)
              replace l2 : us 2 = .pointer (some ⟨B, 0, none⟩) := l2
              simp only [List.getD_cons_succ, List.getD_cons_zero, List.setIfInBounds_toArray, List.set_cons_succ, List.set_cons_zero, l2] at hK ⊢
              refine wpOp_at rfl rfl ?_
              go_simp
              exact hK _ _ _ rfl (Chg.refl _ _) rfl
            · simp only [List.getD_cons_succ, List.getD_cons_zero, List.setIfInBounds_toArray, List.set_cons_succ, List.set_cons_zero] at hK ⊢
              refine wpOp_at rfl rfl ?_
              go_simp
              exact hK _ _ _ rfl (Chg.refl _ _) rfl
            · have l4 := hdep 4 (by kernel_rfl)
              replace l4 : us 4 = .pointer (some ⟨B, 0, none⟩) := l4
              simp only [List.getD_cons_succ, List.getD_cons_zero, List.setIfInBounds_toArray, List.set_cons_succ, List.set_cons_zero, l4] at hK ⊢
              refine wpOp_at rfl rfl ?_
              go_simp
              exact hK _ _ _ rfl (Chg.refl _ _) rfl
            · have l5 := hdep 5 (by kernel_rfl)
              replace l5 : us 5 = .pointer (some ⟨B, 0, none⟩) := l5
              simp only [List.getD_cons_succ, List.getD_cons_zero, List.setIfInBounds_toArray, List.set_cons_succ, List.set_cons_zero, l5] at hK ⊢
              refine wpOp_at rfl rfl ?_
              go_simp
              exact hK _ _ _ rfl (Chg.refl _ _) rfl
            · have l6 := hdep 6 (by kernel_rfl)
              replace l6 : us 6 = .pointer (some ⟨B, 0, none⟩) := l6
              simp only [List.getD_cons_succ, List.getD_cons_zero, List.setIfInBounds_toArray, List.set_cons_succ, List.set_cons_zero, l6] at hK ⊢
              refine wpOp_at rfl rfl ?_
              go_simp
              exact hK _ _ _ rfl (Chg.refl _ _) rfl
            · have l7 := hdep 7 (by kernel_rfl)
              replace l7 : us 7 = .slice (some ⟨G, 0, none⟩) (n + 1) c := l7
              simp only [List.getD_cons_succ, List.getD_cons_zero, List.setIfInBounds_toArray, List.set_cons_succ, List.set_cons_zero, l7] at hK ⊢
              refine wpOp_at rfl rfl ?_
              go_simp
              exact hK _ _ _ rfl (Chg.refl _ _) rfl
            · have l8 := hdep 8 (by kernel_rfl)
              replace l8 : us 8 = .int .i64 ((n : Int) + 1) := l8
              simp only [List.getD_cons_succ, List.getD_cons_zero, List.setIfInBounds_toArray, List.set_cons_succ, List.set_cons_zero, l8] at hK ⊢
              refine wpOp_at rfl rfl ?_
              go_simp
              exact hK _ _ _ rfl (Chg.refl _ _) rfl
            · simp only [List.getD_cons_succ, List.getD_cons_zero, List.setIfInBounds_toArray, List.set_cons_succ, List.set_cons_zero] at hK ⊢
              refine wpOp_at rfl rfl ?_
              go_simp
              exact hK _ _ _ rfl (Chg.refl _ _) rfl
            · have l10 := hdep 10 (by kernel_rfl)
              replace l10 : us 10 = .pointer (some ⟨D, 0, none⟩) := l10
              simp only [List.getD_cons_succ, List.getD_cons_zero, List.setIfInBounds_toArray, List.set_cons_succ, List.set_cons_zero, l10] at hK ⊢
              refine wpOp_at rfl rfl ?_
              go_simp
              exact hK _ _ _ rfl (Chg.refl _ _) rfl
            · simp only [List.getD_cons_succ, List.getD_cons_zero, List.setIfInBounds_toArray, List.set_cons_succ, List.set_cons_zero] at hK ⊢
              refine wpOp_at rfl rfl ?_
              go_simp
              exact hK _ _ _ rfl (Chg.refl _ _) rfl
            · have l12 := hdep 12 (by kernel_rfl)
              replace l12 : us 12 = .pointer (some ⟨D, 1, none⟩) := l12
              simp only [List.getD_cons_succ, List.getD_cons_zero, List.setIfInBounds_toArray, List.set_cons_succ, List.set_cons_zero, l12] at hK ⊢
              refine wpOp_at rfl rfl ?_
              go_simp
              exact hK _ _ _ rfl (Chg.refl _ _) rfl
            · simp only [List.getD_cons_succ, List.getD_cons_zero, List.setIfInBounds_toArray, List.set_cons_succ, List.set_cons_zero] at hK ⊢
              refine wpOp_at rfl rfl ?_
              go_simp
              exact hK _ _ _ rfl (Chg.refl _ _) rfl
            · simp only [List.getD_cons_succ, List.getD_cons_zero, List.setIfInBounds_toArray, List.set_cons_succ, List.set_cons_zero] at hK ⊢
              refine wpOp_at rfl rfl ?_
              go_simp
              exact hK _ _ _ rfl (Chg.refl _ _) rfl
            · simp only [List.getD_cons_succ, List.getD_cons_zero, List.setIfInBounds_toArray, List.set_cons_succ, List.set_cons_zero] at hK ⊢
              refine wpOp_at rfl rfl ?_
              go_simp
              exact hK _ _ _ rfl ((Chg.refl _ _).alloc _) ⟨W.heap.size, rfl, ⟨hC.size, heap_alloc_same _ _⟩⟩
            · simp only [List.getD_cons_succ, List.getD_cons_zero, List.setIfInBounds_toArray, List.set_cons_succ, List.set_cons_zero] at hK ⊢
              refine wpOp_at rfl rfl ?_
              go_simp
              exact hK _ _ _ rfl (Chg.refl _ _) rfl
            · have l16 := hdep 16 (by kernel_rfl)
              obtain ⟨b58, l16, p16⟩ := l16
              have l17 := hdep 17 (by kernel_rfl)
              replace l17 : us 17 = .slice ta tn tc := l17
              simp only [List.getD_cons_succ, List.getD_cons_zero, List.setIfInBounds_toArray, List.set_cons_succ, List.set_cons_zero, l16, l17] at hK ⊢
              refine wpOp_at rfl rfl ?_
              refine wp_append_fresh _ _ 34 rfl 33 i0 _ 5 40 Try.underlying34 hi0 hz0 hz1 hz2 rfl (by decide) b58 rfl p16.2 w5.heap.size p16.1 ta tn tc (twCells t) rfl HT.out.1 HT.out.2.1 (HT.out.2.2.1 W hC) (twCells_one t) HT.out.2.2.2.1 HT.out.2.2.2.2 ?_
              intro a60 c60 wz hr60 hz60
              exact hK _ _ _ rfl hz60 ⟨a60, c60, rfl, hr60⟩
            · have l11 := hdep 11 (by kernel_rfl)
              replace l11 : us 11 = .int .i64 r := l11
              have l13 := hdep 13 (by kernel_rfl)
              replace l13 : us 13 = .int .i64 p := l13
              have l14 := hdep 14 (by kernel_rfl)
              replace l14 : us 14 = .int .i64 e := l14
              have l15 := hdep 15 (by kernel_rfl)
              replace l15 : us 15 = .int .i64 lv := l15
              have l18 := hdep 18 (by kernel_rfl)
              obtain ⟨a60, c60, l18, p18⟩ := l18
              simp only [List.getD_cons_succ, List.getD_cons_zero, List.setIfInBounds_toArray, List.set_cons_succ, List.set_cons_zero, l11, l13, l14, l15, l18] at hK ⊢
              refine wpOp_at rfl rfl ?_
              go_simp
              exact hK _ _ _ rfl (Chg.refl _ _) ⟨a60, c60, rfl, p18⟩
            · have l3 := hdep 3 (by kernel_rfl)
              replace l3 : us 3 = .slice (some ⟨G, 0, none⟩) (n + 1) c := l3
              have l9 := hdep 9 (by kernel_rfl)
              replace l9 : us 9 = .int .i64 n := l9
              simp only [List.getD_cons_succ, List.getD_cons_zero, List.setIfInBounds_toArray, List.set_cons_succ, List.set_cons_zero, l3, l9] at hK ⊢
              refine wpOp_at rfl rfl ?_
              go_simp
              exact hK _ _ _ rfl (Chg.refl _ _) rfl
          case hdone0 =>
            intro us W hC hall
            have l0 := hall 0 (by decide)
            replace l0 : us 0 = .pointer (some ⟨B, 0, none⟩) := l0
            have l1 := hall 1 (by decide)
            replace l1 : us 1 = .pointer (some ⟨B, 0, none⟩) := l1
            have l2 := hall 2 (by decide)
            replace l2 : us 2 = .pointer (some ⟨B, 0, none⟩) := l2
            have l3 := hall 3 (by decide)
            replace l3 : us 3 = .slice (some ⟨G, 0, none⟩) (n + 1) c := l3
            have l4 := hall 4 (by decide)
            replace l4 : us 4 = .pointer (some ⟨B, 0, none⟩) := l4
            have l5 := hall 5 (by decide)
            replace l5 : us 5 = .pointer (some ⟨B, 0, none⟩) := l5
            have l6 := hall 6 (by decide)
            replace l6 : us 6 = .pointer (some ⟨B, 0, none⟩) := l6
            have l7 := hall 7 (by decide)
            replace l7 : us 7 = .slice (some ⟨G, 0, none⟩) (n + 1) c := l7
            have l8 := hall 8 (by decide)
            replace l8 : us 8 = .int .i64 ((n : Int) + 1) := l8
            have l9 := hall 9 (by decide)
            replace l9 : us 9 = .int .i64 n := l9
            have l10 := hall 10 (by decide)
            replace l10 : us 10 = .pointer (some ⟨D, 0, none⟩) := l10
            have l11 := hall 11 (by decide)
            replace l11 : us 11 = .int .i64 r := l11
            have l12 := hall 12 (by decide)
            replace l12 : us 12 = .pointer (some ⟨D, 1, none⟩) := l12
            have l13 := hall 13 (by decide)
            replace l13 : us 13 = .int .i64 p := l13
            have l14 := hall 14 (by decide)
            replace l14 : us 14 = .int .i64 e := l14
            have l15 := hall 15 (by decide)
            replace l15 : us 15 = .int .i64 lv := l15
            have l16 := hall 16 (by decide)
            obtain ⟨b58, l16, p16⟩ := l16
            have l17 := hall 17 (by decide)
            replace l17 : us 17 = .slice ta tn tc := l17
            have l18 := hall 18 (by decide)
            obtain ⟨a60, c60, l18, p18⟩ := l18
            have l19 := hall 19 (by decide)
            obtain ⟨a61, c61, l19, p19⟩ := l19
            have l20 := hall 20 (by decide)
            replace l20 : us 20 = .pointer (some ⟨G, n * 6, none⟩) := l20
            simp only [actU, Act.put, List.setIfInBounds_toArray, List.set_cons_succ, List.set_cons_zero, Nat.reduceAdd, l0, l1, l2, l3, l4, l5, l6, l7, l8, l9, l10, l11, l12, l13, l14, l15, l16, l17, l18, l19, l20]
            clear hall l0 l1 l2 l3 l4 l5 l6 l7 l8 l9 l10 l11 l12 l13 l14 l15 l16 l17 l18 l19 l20
            have hqW := H5.out.1.chg0 hC
            have hrw := hqW.row
            rw [← HH.out.2.1] at hrw
            obtain ⟨-, f0, -, ⟨cu, hcu⟩, hp0⟩ := row_put hrw (i := n * 6) (by omega)
            obtain ⟨r0, g0⟩ := hp0 (.int .i64 r)
            obtain ⟨-, -, -, -, hp1⟩ := row_put r0 (i := n * 6 + 1) (by omega)
            obtain ⟨r1, g1⟩ := hp1 (.int .i64 p)
            obtain ⟨-, -, -, -, hp2⟩ := row_put r1 (i := n * 6 + 2) (by omega)
            obtain ⟨r2, g2⟩ := hp2 (.bool true)
            obtain ⟨-, -, -, -, hp3⟩ := row_put r2 (i := n * 6 + 3) (by omega)
            obtain ⟨r3, g3⟩ := hp3 (.int .i64 e)
            obtain ⟨-, -, -, -, hp4⟩ := row_put r3 (i := n * 6 + 4) (by omega)
            obtain ⟨r4, g4⟩ := hp4 (.int .i64 lv)
            obtain ⟨-, -, -, -, hp5⟩ := row_put r4 (i := n * 6 + 5) (by omega)
            obtain ⟨r5, g5⟩ := hp5 (.slice a61 tn c61)
            have hcell : ∀ q, q < 6 → ∃ u, W.cell? ⟨G, n * 6 + q, none⟩ = some u := fun q hq => by
              rw [(row_put hrw (i := n * 6 + q) (by omega)).1]
              exact ⟨_, List.getElem?_eq_getElem (by have := hrw.1; omega)⟩
            obtain ⟨u0, q0⟩ := hcell 0 (by decide)
            obtain ⟨u1, q1⟩ := hcell 1 (by decide)
            obtain ⟨u2, q2⟩ := hcell 2 (by decide)
            obtain ⟨u3, q3⟩ := hcell 3 (by decide)
            obtain ⟨u4, q4⟩ := hcell 4 (by decide)
            obtain ⟨u5, q5⟩ := hcell 5 (by decide)
            rw [Nat.add_zero] at q0
            have hfz : ∀ o, W.frozen? ⟨G, o, none⟩ = false := fun o => free_of_cells hcu o
            have e0 := hfz (n * 6)
            have e1' := hfz (n * 6 + 1)
            have e2 := hfz (n * 6 + 2)
            have e3 := hfz (n * 6 + 3)
            have e4 := hfz (n * 6 + 4)
            have e5 := hfz (n * 6 + 5)
            have HP := Lib.hid (And.intro r5 (And.intro (((((g0.tr g1).tr g2).tr g3).tr g4).tr g5) (And.intro hqW (And.intro hC p19))))
            clear hqW hrw hp0 hp1 hp2 hp3 hp4 hp5 r0 r1 r2 r3 r4 r5 g0 g1 g2 g3 g4 g5 hcell hfz hcu f0 hC p16 p18 p19
            obtain ⟨w9, e9⟩ : ∃ z, z = ((((((W.setCell ⟨G, n * 6, none⟩ (.int .i64 r)).setCell ⟨G, n * 6 + 1, none⟩ (.int .i64 p)).setCell ⟨G, n * 6 + 2, none⟩ (.bool true)).setCell ⟨G, n * 6 + 3, none⟩ (.int .i64 e)).setCell ⟨G, n * 6 + 4, none⟩ (.int .i64 lv)).setCell ⟨G, n * 6 + 5, none⟩ (.slice a61 tn c61)) := ⟨_, rfl⟩
            rw [← e9] at HP
            refine wpOp_at rfl rfl ?_
            go_simp
            go_step
            rw [← e9]
            clear e9
            go_wp2_with fail
            go_ret
            obtain ⟨l9, e9, h9, c9⟩ := HFIN.out _ HP.out.2.2.2.1 a61 c61 HP.out.2.2.2.2 _ HP.out.2.1 HP.out.1
            exact grownR_out HH.out.1 HH.out.2.1 hmay HQ.out.1 HQ.out.2 e9 h9 c9
        · have hmay := HC.out.2.2 rfl (.inr (by omega))
          have hd2 : (lv != lo) = true := by simp [hl1]
          have hd1 : decide (e ≤ eo) = false := decide_eq_false (by omega)
          clear m0 m1
          go_wp2_with fail
          go_ret
          exact noGrowR_out HH.out.1 HH.out.2.1 hmay HQ.out.1 HQ.out.2 H5.out.1 H5.out.2.2
      · have hmay := HC.out.2.2 rfl (.inl (by omega))
        have hd1 : decide (e ≤ eo) = true := decide_eq_true (by omega)
        clear m0 m1
        go_wp2_with fail
        go_ret
        exact noGrowR_out HH.out.1 HH.out.2.1 hmay HQ.out.1 HQ.out.2 H5.out.1 H5.out.2.2
end Go.Proofs.Ytffjfkjlahdedaa

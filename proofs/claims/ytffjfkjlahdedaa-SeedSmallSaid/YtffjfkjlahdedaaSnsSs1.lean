/-
  SeedDoes: is a store the document's?
  Conditions: none.
-/
import Derived.Test.YtffjfkjlahdedaaSnsSs0
import Derived.Test.YtffjfkjlahdedaaSnsGTailB
import Derived.Deep.CutRange
set_option linter.unusedVariables false
set_option linter.unusedSimpArgs false
set_option linter.unnecessarySimpa false
namespace Go.Proofs.Ytffjfkjlahdedaa
open Go.RowKit Go.MapKept

theorem Try.infoSeed : (Try.prog.info? 36).map (fun i => (i.zero, i.size, i.bytes)) = some (some (.agg #[.int .i64 0, .int .i64 0, .slice none 0 0]), 3, 40) := by kernel_rfl
theorem set3 {w : World} {b : Nat} {z0 z1 z2 : Value} {t : TypeId} (h : w.heap[b]? = some (.cells #[z0, z1, z2] t (0, 0))) (v0 v1 v2 : Value) :
    (((w.setCell ⟨b, 0, none⟩ v0).setCell ⟨b, 1, none⟩ v1).setCell ⟨b, 2, none⟩ v2).heap[b]? = some (.cells #[v0, v1, v2] t (0, 0)) ∧ Chg [b] w (((w.setCell ⟨b, 0, none⟩ v0).setCell ⟨b, 1, none⟩ v1).setCell ⟨b, 2, none⟩ v2) := by
  have h1 := heap_setCell_same (heap_setCell_same (heap_setCell_same h 0 v0) 1 v1) 2 v2
  exact ⟨by simpa using h1, (((Chg.refl [b] w).setCell (p := ⟨b, 0, none⟩) (.inl (by simp)) _).setCell (p := ⟨b, 1, none⟩) (.inl (by simp)) _).setCell (p := ⟨b, 2, none⟩) (.inl (by simp)) _⟩
/-- What stands once the answer is laid into the new cell. -/
def StX (EE LL : Int) (tn : Nat) (us : Nat → Value) (W W' : World) : Prop := ∀ X  a c, us 16 = .pointer (some ⟨X, 0, none⟩) → us 14 = .agg #[.int .i64 EE, .int .i64 LL, .slice a tn c] → W' = (((W.setCell ⟨X, 0, none⟩ (.int .i64 EE)).setCell ⟨X, 1, none⟩ (.int .i64 LL)).setCell ⟨X, 2, none⟩ (.slice a tn c))
theorem StX_at {EE LL : Int} {tn : Nat} {us : Nat → Value} {W W' : World} {X  a c} (h : StX EE LL tn us W W') (h1 : us 16 = .pointer (some ⟨X, 0, none⟩)) (h2 : us 14 = .agg #[.int .i64 EE, .int .i64 LL, .slice a tn c]) : W' = (((W.setCell ⟨X, 0, none⟩ (.int .i64 EE)).setCell ⟨X, 1, none⟩ (.int .i64 LL)).setCell ⟨X, 2, none⟩ (.slice a tn c)) := h X  a c h1 h2
theorem StX_mk {EE LL : Int} {tn : Nat} {us : Nat → Value} {W W' : World} {X  a c} (h1 : us 16 = .pointer (some ⟨X, 0, none⟩)) (h2 : us 14 = .agg #[.int .i64 EE, .int .i64 LL, .slice a tn c]) (h : W' = (((W.setCell ⟨X, 0, none⟩ (.int .i64 EE)).setCell ⟨X, 1, none⟩ (.int .i64 LL)).setCell ⟨X, 2, none⟩ (.slice a tn c))) : StX EE LL tn us W W' := by
  intro X' a' c' e1 e2
  rw [h1] at e1; rw [h2] at e2; cases e1; cases e2; exact h
theorem StX_upd {EE LL : Int} {tn : Nat} {us : Nat → Value} {v : Value} {W W' : World} (h : StX EE LL tn us W W') : StX EE LL tn (updU us 15 v) W W' := fun X  a c e1 e2 => h X  a c (by simpa [updU] using e1) (by simpa [updU] using e2)
def StY (EE LL : Int) (tn : Nat) (us : Nat → Value) (W W' : World) : Prop := ∀ Y r q b a c, us 16 = .pointer (some ⟨Y, 0, none⟩) → us 14 = .agg #[.int .i64 r, .int .i64 q, .bool b, .int .i64 EE, .int .i64 LL, .slice a tn c] → W' = ((((((W.setCell ⟨Y, 0, none⟩ (.int .i64 r)).setCell ⟨Y, 1, none⟩ (.int .i64 q)).setCell ⟨Y, 2, none⟩ (.bool b)).setCell ⟨Y, 3, none⟩ (.int .i64 EE)).setCell ⟨Y, 4, none⟩ (.int .i64 LL)).setCell ⟨Y, 5, none⟩ (.slice a tn c))
theorem StY_at {EE LL : Int} {tn : Nat} {us : Nat → Value} {W W' : World} {Y r q b a c} (h : StY EE LL tn us W W') (h1 : us 16 = .pointer (some ⟨Y, 0, none⟩)) (h2 : us 14 = .agg #[.int .i64 r, .int .i64 q, .bool b, .int .i64 EE, .int .i64 LL, .slice a tn c]) : W' = ((((((W.setCell ⟨Y, 0, none⟩ (.int .i64 r)).setCell ⟨Y, 1, none⟩ (.int .i64 q)).setCell ⟨Y, 2, none⟩ (.bool b)).setCell ⟨Y, 3, none⟩ (.int .i64 EE)).setCell ⟨Y, 4, none⟩ (.int .i64 LL)).setCell ⟨Y, 5, none⟩ (.slice a tn c)) := h Y r q b a c h1 h2
theorem StY_mk {EE LL : Int} {tn : Nat} {us : Nat → Value} {W W' : World} {Y r q b a c} (h1 : us 16 = .pointer (some ⟨Y, 0, none⟩)) (h2 : us 14 = .agg #[.int .i64 r, .int .i64 q, .bool b, .int .i64 EE, .int .i64 LL, .slice a tn c]) (h : W' = ((((((W.setCell ⟨Y, 0, none⟩ (.int .i64 r)).setCell ⟨Y, 1, none⟩ (.int .i64 q)).setCell ⟨Y, 2, none⟩ (.bool b)).setCell ⟨Y, 3, none⟩ (.int .i64 EE)).setCell ⟨Y, 4, none⟩ (.int .i64 LL)).setCell ⟨Y, 5, none⟩ (.slice a tn c))) : StY EE LL tn us W W' := by
  intro Y' r' q' b' a' c' e1 e2
  rw [h1] at e1; rw [h2] at e2; cases e1; cases e2; exact h
theorem StY_upd {EE LL : Int} {tn : Nat} {us : Nat → Value} {v : Value} {W W' : World} (h : StY EE LL tn us W W') : StY EE LL tn (updU us 15 v) W W' := fun Y r q b a c e1 e2 => h Y r q b a c (by simpa [updU] using e1) (by simpa [updU] using e2)
/-- What is asked: the pairs, and one more. -/
def askCells (l : List Rs) (rule place level : Int) : List Value := rsCells l ++ [.int .i64 rule, .int .i64 place, .bool false, .int .i64 0, .int .i64 level, .slice none 0 0]
theorem askCells_len (l : List Rs) (rule place level : Int) : (askCells l rule place level).length = (l.length + 1) * 6 := by
  simp only [askCells, List.length_append, rsCells_len, List.length_cons, List.length_nil]; omega
theorem askCells_get {l : List Rs} {rule place level : Int} {i : Nat} (hi : i < l.length + 1) (hwf : ∀ x ∈ rss l, I64 x.1.1 ∧ I64 x.1.2) (hlv : ∀ x ∈ rss l, -1099511627776 ≤ Found.l x.2 ∧ Found.l x.2 ≤ 1099511627776) (hr : I64 rule) (hp : I64 place) (hl : -1099511627776 ≤ level ∧ level ≤ 1099511627776) :
    ∃ r p v, I64 r ∧ I64 p ∧ (-1099511627776 ≤ v ∧ v ≤ 1099511627776) ∧ (askCells l rule place level)[i * 6]? = some (.int .i64 r) ∧ (askCells l rule place level)[i * 6 + 1]? = some (.int .i64 p) ∧ (askCells l rule place level)[i * 6 + 4]? = some (.int .i64 v) := by
  unfold askCells
  by_cases h : i < l.length
  · have hm : l[i].x ∈ rss l := List.mem_map_of_mem (List.getElem_mem h)
    have key : ∀ r, r < 6 → (rsCells l ++ [Value.int .i64 rule, .int .i64 place, .bool false, .int .i64 0, .int .i64 level, .slice none 0 0])[i * 6 + r]? = l[i].cells[r]? := fun r hr => by
      rw [List.getElem?_append_left (by rw [rsCells_len]; omega)]
      have h1 := flat_get Rs.cells 6 (fun _ => rfl) l i r hr
      rw [List.getElem?_eq_getElem h, Option.bind_some] at h1
      exact h1
    exact ⟨l[i].q.1, l[i].q.2, Found.l l[i].f, (hwf _ hm).1, (hwf _ hm).2, hlv _ hm, key 0 (by decide), key 1 (by decide), key 4 (by decide)⟩
  · obtain rfl : i = l.length := by omega
    have key : ∀ r, (rsCells l ++ [Value.int .i64 rule, .int .i64 place, .bool false, .int .i64 0, .int .i64 level, .slice none 0 0])[l.length * 6 + r]? = [Value.int .i64 rule, .int .i64 place, .bool false, .int .i64 0, .int .i64 level, .slice none 0 0][r]? := fun r => by
      rw [List.getElem?_append_right (by rw [rsCells_len]; omega), rsCells_len, Nat.add_sub_cancel_left]
    exact ⟨rule, place, level, hr, hp, hl, key 0, key 1, key 4⟩
theorem rsCells_one (l : List Rs) : ∀ u ∈ rsCells l, u.oneCell' = true := by
  intro u hu
  obtain ⟨z, _, hz⟩ := List.mem_flatMap.1 hu
  simp only [Rs.cells, List.mem_cons, List.not_mem_nil, or_false] at hz
  rcases hz with rfl | rfl | rfl | rfl | rfl | rfl <;> rfl
theorem rowCellsS {w : World} {B e size n c : Nat} {b : Addr} {xs : List Value} (h : w.ownsRow B e size (.slice (some b) n c) n xs) : ∀ j u, xs[j]? = some u → w.cell? (b.add j) = some u := by
  rcases h.2 with ⟨h0, _⟩ | ⟨g, _, _, h0, _⟩
  · cases h0
  · cases h0; exact World.ownsRow.cells h (g := g) rfl
def SameP (w : World) (e : Ending) (w' : World) : Prop := e = .returned (.bool true) ∧ Chg [] w w'

set_option maxRecDepth 100000 in
set_option maxHeartbeats 16000000 in
theorem same19_any (w : World) (NB b HB RB : Nat) (s : St) (hs : SQ NB b w HB s) (hr : RQ NB b w RB s) {k0 : Nat} (hg : GoodT k0 s) (hk0 : k0 ≤ 200) (rule place level : Int) (hru : I64 rule) (hpl : I64 place) (hlv : -1099511627776 ≤ level ∧ level ≤ 1099511627776) :
    Calls Try.prog 25 #[.pointer (some ⟨HB, 0, none⟩), .pointer (some ⟨RB, 0, none⟩), .int .i64 rule, .int .i64 place, .int .i64 level] w (SameP w) := by
  obtain ⟨j1, hj1, hu0, hu1, hu2⟩ := info_parts Try.infoSeed
  obtain ⟨i0, hi0, hz0, hz1, hz2⟩ := info_parts Try.infoPairR
  have hwf := hs.wf
  have hr0 := hr
  obtain ⟨a, c, l, hrl, hls, -⟩ := hr0
  obtain ⟨n, hn⟩ : ∃ n, n = l.length := ⟨_, rfl⟩
  have hns : n = s.length := by rw [hn, ← hls, rss_len]
  have hn2 : n ≤ 200 := by have := hg.few; omega
  have x0 := cells1 hrl.top
  rw [← hn] at x0
  obtain ⟨ZS, hZS⟩ : ∃ z, z = sorted (rulesAt s place) := ⟨_, rfl⟩
  have hzl : ZS.length ≤ 200 := by
    rw [hZS, sorted_length]
    unfold rulesAt
    rw [List.length_map]
    have := List.length_filter_le (fun x : (Int × Int) × Found => decide (x.1.2 = place)) s
    omega
  have cLen : ∀ W, Chg [] w W → Calls Try.prog 13 #[.pointer (some ⟨HB, 0, none⟩)] W fun r w' => r = .returned (.int .i64 n) ∧ Chg [] W w' := fun W hW => by
    have := lenSQ NB b W HB s (hs.chg0 hW)
    rwa [← hns] at this
  have cLive : ∀ W, Chg [] w W → _ := fun W hW => liveSQ NB b W HB s place (hs.chg0 hW) (by omega)
  have cLiveR : ∀ W, Chg [] w W → _ := fun W hW => liveRQ NB b W RB s place (hr.chg0 hW) (by omega)
  rw [← hZS] at cLive cLiveR
  have HS := Lib.hid (And.intro x0 (And.intro cLen (And.intro cLive (And.intro cLiveR hzl))))
  have HH := Lib.hid (And.intro hs (And.intro hr (And.intro hg (And.intro hrl (And.intro hls (And.intro hn (And.intro hns hwf)))))))
  clear hs hr hg hrl hls hn hns hwf x0 cLen cLive cLiveR hzl hZS
  go_enter Try.func25, Try.ntmps25
  go_wp2_with fail
  refine wp_region_st (by kernel_rfl) (by kernel_rfl) [21, 22, 23, 24, 25, 26, 27, 28, 29, 30, 31, 32, 33, 34, 35, 36, 37, 38] (by kernel_rfl) (fun rI rV rW => match rI with | 0 => rV = .pointer (some ⟨HB, 0, none⟩) | 1 => rV = .int .i64 n | 2 => rV = .pointer (some ⟨RB, 0, none⟩) | 3 => rV = .pointer (some ⟨RB, 0, none⟩) | 4 => rV = .pointer (some ⟨RB, 0, none⟩) | 5 => rV = .slice a n c | 6 => rV = .int .i64 n | 7 => rV = .bool false | 8 => rV = .bool false | 9 => rV = .pointer (some ⟨HB, 0, none⟩) | 10 => rV = .int .i64 place | 11 => ∃ a32 n32 c32, rV = .slice a32 n32 c32 ∧ ToldL ZS n32 rW a32 c32 | 12 => rV = .pointer (some ⟨RB, 0, none⟩) | 13 => rV = .int .i64 place | 14 => ∃ a35 n35 c35, rV = .slice a35 n35 c35 ∧ ToldL ZS n35 rW a35 c35 | 15 => rV = .bool true | 16 => rV = .bool false | 17 => rV = .bool false | _ => True) ?hS2 ?hstep2 ?hdone2
  case hS2 =>
    intro rI rV rW rW' hc rP
    match rI, rP with
    | 0, rP => exact rP
    | 1, rP => exact rP
    | 2, rP => exact rP
    | 3, rP => exact rP
    | 4, rP => exact rP
    | 5, rP => exact rP
    | 6, rP => exact rP
    | 7, rP => exact rP
    | 8, rP => exact rP
    | 9, rP => exact rP
    | 10, rP => exact rP
    | 11, rP => exact (by obtain ⟨a32, n32, c32, e9, hp⟩ := rP; exact ⟨a32, n32, c32, e9, ⟨hp.1, hc.row hp.2 (fun _ _ => by simp)⟩⟩)
    | 12, rP => exact rP
    | 13, rP => exact rP
    | 14, rP => exact (by obtain ⟨a35, n35, c35, e9, hp⟩ := rP; exact ⟨a35, n35, c35, e9, ⟨hp.1, hc.row hp.2 (fun _ _ => by simp)⟩⟩)
    | 15, rP => exact rP
    | 16, rP => exact rP
    | 17, rP => exact rP
    | _ + 18, _ => trivial
  case hstep2 =>
    intro rI rH us W hC hdep K hK
    have hiN : rI < 18 := rH
    simp only [actU, Act.put, List.setIfInBounds_toArray, List.set_cons_succ, List.set_cons_zero, Nat.reduceAdd] at hK ⊢
    have hx0 := hC.cell HS.out.1 (by simp)
    rcases (show rI = 0 ∨ rI = 1 ∨ rI = 2 ∨ rI = 3 ∨ rI = 4 ∨ rI = 5 ∨ rI = 6 ∨ rI = 7 ∨ rI = 8 ∨ rI = 9 ∨ rI = 10 ∨ rI = 11 ∨ rI = 12 ∨ rI = 13 ∨ rI = 14 ∨ rI = 15 ∨ rI = 16 ∨ rI = 17 by omega) with rfl | rfl | rfl | rfl | rfl | rfl | rfl | rfl | rfl | rfl | rfl | rfl | rfl | rfl | rfl | rfl | rfl | rfl
    · simp only [List.getD_cons_succ, List.getD_cons_zero, List.setIfInBounds_toArray, List.set_cons_succ, List.set_cons_zero] at hK ⊢
      refine wpOp_at rfl rfl ?_
      go_simp
      exact hK _ _ _ rfl (Chg.refl _ _) rfl
    · have l0 := hdep 0 (by kernel_rfl)
      replace l0 : us 0 = .pointer (some ⟨HB, 0, none⟩) := l0
      simp only [List.getD_cons_succ, List.getD_cons_zero, List.setIfInBounds_toArray, List.set_cons_succ, List.set_cons_zero, l0] at hK ⊢
      refine wpOp_at rfl rfl ?_
      go_simp
      refine (HS.out.2.1 W hC).mono ?_
      rintro e wz ⟨rfl, hz⟩
      exact hK _ _ _ rfl hz rfl
    · simp only [List.getD_cons_succ, List.getD_cons_zero, List.setIfInBounds_toArray, List.set_cons_succ, List.set_cons_zero] at hK ⊢
      refine wpOp_at rfl rfl ?_
      go_simp
      exact hK _ _ _ rfl (Chg.refl _ _) rfl
    · have l2 := hdep 2 (by kernel_rfl)
      replace l2 : us 2 = .pointer (some ⟨RB, 0, none⟩) := l2
      simp only [List.getD_cons_succ, List.getD_cons_zero, List.setIfInBounds_toArray, List.set_cons_succ, List.set_cons_zero, l2] at hK ⊢
      refine wpOp_at rfl rfl ?_
      go_simp
      exact hK _ _ _ rfl (Chg.refl _ _) rfl
    · have l3 := hdep 3 (by kernel_rfl)
      replace l3 : us 3 = .pointer (some ⟨RB, 0, none⟩) := l3
      simp only [List.getD_cons_succ, List.getD_cons_zero, List.setIfInBounds_toArray, List.set_cons_succ, List.set_cons_zero, l3] at hK ⊢
      refine wpOp_at rfl rfl ?_
      go_simp
      exact hK _ _ _ rfl (Chg.refl _ _) rfl
    · have l4 := hdep 4 (by kernel_rfl)
      replace l4 : us 4 = .pointer (some ⟨RB, 0, none⟩) := l4
      simp only [List.getD_cons_succ, List.getD_cons_zero, List.setIfInBounds_toArray, List.set_cons_succ, List.set_cons_zero, l4] at hK ⊢
      refine wpOp_at rfl rfl ?_
      go_simp
      exact hK _ _ _ rfl (Chg.refl _ _) rfl
    · have l5 := hdep 5 (by kernel_rfl)
      replace l5 : us 5 = .slice a n c := l5
      simp only [List.getD_cons_succ, List.getD_cons_zero, List.setIfInBounds_toArray, List.set_cons_succ, List.set_cons_zero, l5] at hK ⊢
      refine wpOp_at rfl rfl ?_
      go_simp
      exact hK _ _ _ rfl (Chg.refl _ _) rfl
    · have l1 := hdep 1 (by kernel_rfl)
      replace l1 : us 1 = .int .i64 n := l1
      have l6 := hdep 6 (by kernel_rfl)
      replace l6 : us 6 = .int .i64 n := l6
      simp only [List.getD_cons_succ, List.getD_cons_zero, List.setIfInBounds_toArray, List.set_cons_succ, List.set_cons_zero, l1, l6] at hK ⊢
      refine wpOp_at rfl rfl ?_
      go_simp
      exact hK _ _ _ rfl (Chg.refl _ _) rfl
    · have l7 := hdep 7 (by kernel_rfl)
      replace l7 : us 7 = .bool false := l7
      simp only [List.getD_cons_succ, List.getD_cons_zero, List.setIfInBounds_toArray, List.set_cons_succ, List.set_cons_zero, l7] at hK ⊢
      refine wpOp_at rfl rfl ?_
      go_simp
      exact hK _ _ _ rfl (Chg.refl _ _) rfl
    · have l8 := hdep 8 (by kernel_rfl)
      replace l8 : us 8 = .bool false := l8
      simp only [List.getD_cons_succ, List.getD_cons_zero, List.setIfInBounds_toArray, List.set_cons_succ, List.set_cons_zero, l8] at hK ⊢
      refine wpOp_want rfl (by rfl) ?_
      go_simp
      exact hK _ _ _ rfl (Chg.refl _ _) rfl
    · have l8 := hdep 8 (by kernel_rfl)
      replace l8 : us 8 = .bool false := l8
      simp only [List.getD_cons_succ, List.getD_cons_zero, List.setIfInBounds_toArray, List.set_cons_succ, List.set_cons_zero, l8] at hK ⊢
      refine wpOp_want rfl (by rfl) ?_
      go_simp
      exact hK _ _ _ rfl (Chg.refl _ _) rfl
    · have l8 := hdep 8 (by kernel_rfl)
      replace l8 : us 8 = .bool false := l8
      have l9 := hdep 9 (by kernel_rfl)
      replace l9 : us 9 = .pointer (some ⟨HB, 0, none⟩) := l9
      have l10 := hdep 10 (by kernel_rfl)
      replace l10 : us 10 = .int .i64 place := l10
      simp only [List.getD_cons_succ, List.getD_cons_zero, List.setIfInBounds_toArray, List.set_cons_succ, List.set_cons_zero, l8, l9, l10] at hK ⊢
      refine wpOp_want rfl (by rfl) ?_
      go_simp
      refine (HS.out.2.2.1 W hC).mono ?_
      rintro e wz ⟨a32, n32, c32, rfl, f32, hz⟩
      exact hK _ _ _ rfl hz ⟨a32, n32, c32, rfl, f32⟩
    · have l8 := hdep 8 (by kernel_rfl)
      replace l8 : us 8 = .bool false := l8
      simp only [List.getD_cons_succ, List.getD_cons_zero, List.setIfInBounds_toArray, List.set_cons_succ, List.set_cons_zero, l8] at hK ⊢
      refine wpOp_want rfl (by rfl) ?_
      go_simp
      exact hK _ _ _ rfl (Chg.refl _ _) rfl
    · have l8 := hdep 8 (by kernel_rfl)
      replace l8 : us 8 = .bool false := l8
      simp only [List.getD_cons_succ, List.getD_cons_zero, List.setIfInBounds_toArray, List.set_cons_succ, List.set_cons_zero, l8] at hK ⊢
      refine wpOp_want rfl (by rfl) ?_
      go_simp
      exact hK _ _ _ rfl (Chg.refl _ _) rfl
    · have l8 := hdep 8 (by kernel_rfl)
      replace l8 : us 8 = .bool false := l8
      have l12 := hdep 12 (by kernel_rfl)
      replace l12 : us 12 = .pointer (some ⟨RB, 0, none⟩) := l12
      have l13 := hdep 13 (by kernel_rfl)
      replace l13 : us 13 = .int .i64 place := l13
      simp only [List.getD_cons_succ, List.getD_cons_zero, List.setIfInBounds_toArray, List.set_cons_succ, List.set_cons_zero, l8, l12, l13] at hK ⊢
      refine wpOp_want rfl (by rfl) ?_
      go_simp
      refine (HS.out.2.2.2.1 W hC).mono ?_
      rintro e wz ⟨a35, n35, c35, rfl, f35, hz⟩
      exact hK _ _ _ rfl hz ⟨a35, n35, c35, rfl, f35⟩
    · have l8 := hdep 8 (by kernel_rfl)
      replace l8 : us 8 = .bool false := l8
      have l11 := hdep 11 (by kernel_rfl)
      obtain ⟨a32, n32, c32, l11, p11⟩ := l11
      have l14 := hdep 14 (by kernel_rfl)
      obtain ⟨a35, n35, c35, l14, p14⟩ := l14
      simp only [List.getD_cons_succ, List.getD_cons_zero, List.setIfInBounds_toArray, List.set_cons_succ, List.set_cons_zero, l8, l11, l14] at hK ⊢
      refine wpOp_want rfl (by rfl) ?_
      go_simp
      refine (sameInts_self W a32 a35 n32 c32 n35 c35 ZS p11.1 p14.1 (by have := p11.1; have := HS.out.2.2.2.2; omega) (ownInts_read p11.2.own).1 (ownInts_read p14.2.own).1).mono ?_
      rintro e wz ⟨rfl, hz⟩
      exact hK _ _ _ rfl hz rfl
    · have l8 := hdep 8 (by kernel_rfl)
      replace l8 : us 8 = .bool false := l8
      have l15 := hdep 15 (by kernel_rfl)
      replace l15 : us 15 = .bool true := l15
      simp only [List.getD_cons_succ, List.getD_cons_zero, List.setIfInBounds_toArray, List.set_cons_succ, List.set_cons_zero, l8, l15] at hK ⊢
      refine wpOp_want rfl (by rfl) ?_
      go_simp
      exact hK _ _ _ rfl (Chg.refl _ _) rfl
    · have l8 := hdep 8 (by kernel_rfl)
      replace l8 : us 8 = .bool false := l8
      have l16 := hdep 16 (by kernel_rfl)
      replace l16 : us 16 = .bool false := l16
      simp only [List.getD_cons_succ, List.getD_cons_zero, List.setIfInBounds_toArray, List.set_cons_succ, List.set_cons_zero, l8, l16] at hK ⊢
      refine wpOp_at rfl rfl ?_
      go_simp
      exact hK _ _ _ rfl (Chg.refl _ _) rfl
  case hdone2 =>
    intro us W hC hall
    have l0 := hall 0 (by decide)
    replace l0 : us 0 = .pointer (some ⟨HB, 0, none⟩) := l0
    have l1 := hall 1 (by decide)
    replace l1 : us 1 = .int .i64 n := l1
    have l2 := hall 2 (by decide)
    replace l2 : us 2 = .pointer (some ⟨RB, 0, none⟩) := l2
    have l3 := hall 3 (by decide)
    replace l3 : us 3 = .pointer (some ⟨RB, 0, none⟩) := l3
    have l4 := hall 4 (by decide)
    replace l4 : us 4 = .pointer (some ⟨RB, 0, none⟩) := l4
    have l5 := hall 5 (by decide)
    replace l5 : us 5 = .slice a n c := l5
    have l6 := hall 6 (by decide)
    replace l6 : us 6 = .int .i64 n := l6
    have l7 := hall 7 (by decide)
    replace l7 : us 7 = .bool false := l7
    have l8 := hall 8 (by decide)
    replace l8 : us 8 = .bool false := l8
    have l9 := hall 9 (by decide)
    replace l9 : us 9 = .pointer (some ⟨HB, 0, none⟩) := l9
    have l10 := hall 10 (by decide)
    replace l10 : us 10 = .int .i64 place := l10
    have l11 := hall 11 (by decide)
    obtain ⟨a32, n32, c32, l11, p11⟩ := l11
    have l12 := hall 12 (by decide)
    replace l12 : us 12 = .pointer (some ⟨RB, 0, none⟩) := l12
    have l13 := hall 13 (by decide)
    replace l13 : us 13 = .int .i64 place := l13
    have l14 := hall 14 (by decide)
    obtain ⟨a35, n35, c35, l14, p14⟩ := l14
    have l15 := hall 15 (by decide)
    replace l15 : us 15 = .bool true := l15
    have l16 := hall 16 (by decide)
    replace l16 : us 16 = .bool false := l16
    have l17 := hall 17 (by decide)
    replace l17 : us 17 = .bool false := l17
    simp only [actU, Act.put, List.setIfInBounds_toArray, List.set_cons_succ, List.set_cons_zero, Nat.reduceAdd, l0, l1, l2, l3, l4, l5, l6, l7, l8, l9, l10, l11, l12, l13, l14, l15, l16, l17]
    clear hall l0 l1 l2 l3 l4 l5 l6 l7 l8 l9 l10 l11 l12 l13 l14 l15 l16 l17
    clear p11 p14
    have H1 := Lib.hid hC
    clear hC
    go_upto_region 3 with fail
    have hlast := lastSQ NB b W HB s (HH.out.1.chg0 H1.out) (by have := HH.out.2.2.2.2.2.2.1; omega)
    obtain ⟨la1, hla1⟩ : ∃ z, z = (lastPair s).1 := ⟨_, rfl⟩
    obtain ⟨la2, hla2⟩ : ∃ z, z = (lastPair s).2 := ⟨_, rfl⟩
    obtain ⟨lis, hlis⟩ : ∃ z, z = !s.isEmpty := ⟨_, rfl⟩
    rw [← hla1, ← hla2, ← hlis] at hlast
    have HL := Lib.hid (And.intro hla1 (And.intro hla2 hlis))
    clear hla1 hla2 hlis
    go_wp2_with fail
    refine hlast.mono ?_
    clear hlast
    rintro e w2 ⟨rfl, hc2⟩
    have H2 := Lib.hid (H1.out.tr hc2)
    clear hc2
    go_upto_region 4 with fail
    go_cut [101] from 45 to 100 (fun v101 wx => v101 = .bool false ∧ Hid (Chg [] w wx))
    case first =>
      have hrl2 := HH.out.2.2.2.1.chg0 H2.out
      have x0 := cells1 hrl2.top
      rw [← HH.out.2.2.2.2.2.1] at x0
      have k0 := cell_rg x0
      cases n with
      | zero =>
        have hse : s = [] := List.eq_nil_of_length_eq_zero (by have := HH.out.2.2.2.2.2.2.1; omega)
        have e3 : lis = false := by rw [HL.out.2.2, hse]; rfl
        have e1 : la1 = 0 := by rw [HL.out.1, hse]; rfl
        have e2 : la2 = 0 := by rw [HL.out.2.1, hse]; rfl
        subst e1 e2 e3
        clear hse x0 hrl2
        refine wp_region_quiet_below (by kernel_rfl) (by kernel_rfl) ?_
        repeat (go_big_quiet_step (fail))
        refine wpQuiet_nil ?_
        intro w4 hw4
        have HW := Lib.hid (H2.out.tr (chg_of_rg hw4))
        clear hw4 k0
        go_wp2_with fail
        go_meet
        exact ⟨rfl, HW⟩
      | succ n =>
        have hnl : n < l.length := by have := HH.out.2.2.2.2.2.1; omega
        obtain ⟨G, rfl, hc1, hc2, y0, y1, -⟩ := hrl2.at hnl
        have hq : s.getLast? = some (l[n].q, l[n].f) := by rw [← HH.out.2.2.2.2.1]; exact (rss_last (by have := HH.out.2.2.2.2.2.1; omega) (List.getElem?_eq_getElem hnl)).1
        have e1 : la1 = l[n].q.1 := by rw [HL.out.1]; unfold lastPair; rw [hq]
        have e2 : la2 = l[n].q.2 := by rw [HL.out.2.1]; unfold lastPair; rw [hq]
        have e3 : lis = true := by rw [HL.out.2.2]; cases s with | nil => cases hq | cons _ _ => rfl
        rw [← e1] at y0
        rw [← e2] at y1
        rw [← HH.out.2.2.2.2.2.1] at hc1
        subst e3
        have k1 := cell_rg y0
        have k2 := cell_rg y1
        have hsub : IntKind.i64.wrap (((n + 1 : Nat) : Int) - 1) = n := by rw [show ((n + 1 : Nat) : Int) - 1 = n by omega]; exact IntWalk.i64_in _ (by omega)
        have hwn : IntKind.i64.wrap (n : Int) = n := IntWalk.i64_in _ (by omega)
        have hd1 : decide ((0 : Int) < ((n + 1 : Nat) : Int)) = true := decide_eq_true (by omega)
        have hd9 : decide ((0 : Int) < (n : Int) + 1) = true := decide_eq_true (by omega)
        have hnc : n + 1 ≤ c := by omega
        clear e1 e2 hq x0 y0 y1 hrl2 hnl
        refine wp_region_quiet_below (by kernel_rfl) (by kernel_rfl) ?_
        repeat (go_big_quiet_step (fail))
        refine wpQuiet_nil ?_
        intro w4 hw4
        have HW := Lib.hid (H2.out.tr (chg_of_rg hw4))
        clear hw4 k0 k1 k2
        go_wp2_with fail
        go_meet
        exact ⟨rfl, HW⟩
    case rest =>
      obtain ⟨rfl, hcut⟩ := hcut
      obtain ⟨w4, e4⟩ : ∃ z, z = wc := ⟨_, rfl⟩
      rw [← e4]
      rw [← e4] at hcut
      clear e4
      have hrl4 := HH.out.2.2.2.1.chg0 hcut.out
      have x0 := cells1 hrl4.top
      rw [← HH.out.2.2.2.2.2.1] at x0
      have hrow4 := hrl4.row
      rw [← HH.out.2.2.2.2.2.1] at hrow4
      have hnone : a = none → n = 0 ∧ c = 0 := fun e => by
        subst e
        rcases hrow4.2 with ⟨h0, _⟩ | ⟨_, _, _, h0, _⟩
        · simp only [Value.slice.injEq, true_and] at h0; exact h0
        · cases h0
      have HR4 := Lib.hid (And.intro hrow4 hnone)
      have hRB := lt_of_block hrl4.top
      clear hrl4 hrow4 hnone
      go_wp2_with (at_builtin; (first | (refine wpList_append_full rfl _ _ 50 rfl 56 i0 _ 6 64 Try.underlying50 hi0 hz0 hz1 hz2 rfl (by decide) w4.heap.size 0 [] rfl (heap_alloc_same _ _) rfl (by decide) w4.heap.size (Nat.le_refl _) a n c (rsCells l) rfl (by rw [rsCells_len, HH.out.2.2.2.2.2.1]) HR4.out.2 (fun bb hbb => by subst hbb; exact rowCellsS (((Chg.refl [] w4).alloc (.cells #[] 56)).row HR4.out.1 (fun _ _ => by simp))) (rsCells_one l) (by simp only [maxLen]; omega) (by omega) ?_; intro a6 c6 wA hrA hcA; rw [Nat.zero_add, List.nil_append] at hrA; rw [Nat.zero_add]; have HA : Hid (wA.ownsRow w4.heap.size 56 6 (.slice a6 n c6) n (rsCells l) ∧ Chg [] w4 wA) := Lib.hid ⟨hrA, ((Chg.refl [] w4).alloc (.cells #[] 56)).tr hcA⟩; clear hrA hcA) | (refine wpList_append_own_at _ rfl _ _ 50 rfl w4.heap.size 56 i0 _ 6 64 Try.underlying50 hi0 hz0 hz1 hz2 rfl (by decide) (.slice a6 n c6) n (rsCells l) rfl (((Chg.refl [] wA).alloc (.cells #[.int .i64 rule, .int .i64 place, .bool false, .int .i64 0, .int .i64 level, .slice none 0 0] 56)).row HA.out.1 (fun _ _ => by simp)) ⟨wA.heap.size, 0, none⟩ 1 1 [.int .i64 rule, .int .i64 place, .bool false, .int .i64 0, .int .i64 level, .slice none 0 0] rfl rfl (cells_at (heap_alloc_same _ _)) (by simp [Value.oneCell']) (by simp only [maxLen]; omega) (by omega) (Nat.le_trans HA.out.2.size ((Chg.refl [] wA).alloc (.cells #[.int .i64 rule, .int .i64 place, .bool false, .int .i64 0, .int .i64 level, .slice none 0 0] 56)).size) ?_; intro v' w5 hr5 hg5 hn5 hb5; obtain ⟨la, lc, rfl⟩ := ownsRow_slice hr5; have HX : Hid (w5.ownsRow w4.heap.size 56 6 (.slice la (n + 1) lc) (n + 1) (askCells l rule place level) ∧ Chg [] w w5) := Lib.hid ⟨hr5, ((hcut.out.tr HA.out.2).alloc _).grown hg5 (fun j hj => .inr (by have := (row_beyond HA.out.1 hj).1; have := hcut.out.size; omega))⟩; clear hr5 hg5 hn5 hb5)))
      clear x0
      obtain ⟨g, eg, hlc, hlm⟩ : ∃ g, la = some ⟨g, 0, none⟩ ∧ n + 1 ≤ lc ∧ lc ≤ maxLen := by
        rcases HX.out.1.2 with ⟨h0, h1⟩ | ⟨g, _, _, h0, _, _, h2, h3, _⟩
        · omega
        · cases h0; exact ⟨g, rfl, h2, h3⟩
      subst eg
      have hlm2 : lc ≤ 9223372036854775807 := by simpa only [maxLen] using hlm
      go_loopg [15] (n + 1) (fun dd iv wr => ∃ i : Nat, dd = n + 1 - i ∧ i ≤ n + 1 ∧ iv = .int .i64 i ∧ Hid (Chg [] w5 wr))
      case atStart => exact ⟨0, rfl, Nat.zero_le _, rfl, Lib.hid (Chg.refl _ _)⟩
      case round =>
        obtain ⟨i, rfl, hi, rfl, hI⟩ := hrel
        obtain ⟨wq, rfl⟩ : ∃ wq, wq = wr := ⟨_, rfl⟩
        by_cases hil : i < n + 1
        · obtain ⟨r, p, lv, hr6, hp6, hv6, z0, z1, z4⟩ := askCells_get (l := l) (rule := rule) (place := place) (level := level) (i := i) (by have := HH.out.2.2.2.2.2.1; omega) (by rw [HH.out.2.2.2.2.1]; exact HH.out.2.2.2.2.2.2.2.1) (by rw [HH.out.2.2.2.2.1]; exact HH.out.2.2.1.lv) hru hpl hlv
          have hrq := hI.out.row HX.out.1 (fun _ _ => by simp)
          have q0 := (row_put hrq (i := i * 6) (by omega)).1
          have q1 := (row_put hrq (i := i * 6 + 1) (by omega)).1
          have q4 := (row_put hrq (i := i * 6 + 4) (by omega)).1
          rw [z0] at q0
          rw [z1] at q1
          rw [z4] at q4
          have HG0 := Lib.hid (And.intro q0 (And.intro q1 q4))
          have hi1 : (i : Int) < (n : Int) + 1 := by omega
          have hin9 : (i : Int) < (n : Int) + 1 := hi1
          have hw1 : IntKind.i64.wrap (lv - 1) = lv - 1 := IntWalk.i64_in _ (by omega)
          have hw2 : IntKind.i64.wrap (lv + 2) = lv + 2 := IntWalk.i64_in _ (by omega)
          clear hrq z0 z1 z4 q0 q1
          go_wp2_with fail
          clear q4
          go_loopg [16] 3 (fun dd kv wr => ∃ d : Nat, dd = 3 - d ∧ d ≤ 3 ∧ kv = .int .i64 (lv - 1 + (d : Int)) ∧ Hid (Chg [] wq wr))
          case atStart => exact ⟨0, rfl, Nat.zero_le _, by simp, Lib.hid (Chg.refl _ _)⟩
          case round =>
            obtain ⟨d, rfl, hd, rfl, hK⟩ := hrel
            obtain ⟨wz, rfl⟩ : ∃ wz, wz = wr := ⟨_, rfl⟩
            have q4 := hK.out.cell HG0.out.2.2 (by simp)
            obtain ⟨k, hk⟩ : ∃ k, k = lv - 1 + (d : Int) := ⟨_, rfl⟩
            rw [← hk]
            have hkd9 := Lib.hid hk
            by_cases hdl : d < 3
            · have hdk : decide (k < lv + 2) = true := decide_eq_true (by omega)
              have hwk : IntKind.i64.wrap (k + 1) = k + 1 := IntWalk.i64_in _ (by omega)
              have hcz := (HX.out.2.tr hI.out).tr hK.out
              obtain ⟨EE, hEE⟩ : ∃ z, z = Found.e (s.read (r, p) k).1 := ⟨_, rfl⟩
              obtain ⟨LL, hLL⟩ : ∃ z, z = Found.l (s.read (r, p) k).1 := ⟨_, rfl⟩
              obtain ⟨TT, hTT⟩ : ∃ z, z = Found.t (s.read (r, p) k).1 := ⟨_, rfl⟩
              obtain ⟨no, hno⟩ : ∃ z, z = (s.read (r, p) k).2 := ⟨_, rfl⟩
              obtain ⟨tn, htn⟩ : ∃ z, z = TT.length := ⟨_, rfl⟩
              have c1 := fun (W : World) (hW : Chg [] wz W) => readSQ NB b W HB s ((HH.out.1.chg0 hcz).chg0 hW) r p k hr6 hp6
              have c2 := fun (W : World) (hW : Chg [] wz W) => readRQ NB b W RB s ((HH.out.2.1.chg0 hcz).chg0 hW) r p k
              simp only [← hEE, ← hLL, ← hTT, ← hno, ← htn] at c1 c2
              have HTT := Lib.hid (And.intro htn (show tn ≤ 2000 by rw [htn, hTT]; exact read_tw HH.out.2.2.1 (r, p) k))
              have HR := Lib.hid (And.intro c1 c2)
              have HG := Lib.hid (And.intro (hK.out.cell HG0.out.1 (by simp)) (hK.out.cell HG0.out.2.1 (by simp)))
              clear hEE hLL hTT hno htn c1 c2 hk hcz
              go_wp2_with fail
              clear q4
              refine wp_region_late (by kernel_rfl) (by kernel_rfl) [138, 139, 140, 141, 142, 143, 144, 145, 146, 147, 148, 149, 150, 137, 151, 152, 17] 15 (by kernel_rfl) (fun rI rV rW => match rI with | 0 => rV = .pointer (some ⟨HB, 0, none⟩) | 1 => rV = .slice (some ⟨g, 0, none⟩) (n + 1) lc | 2 => rV = .int .i64 i | 3 => rV = .pointer (some ⟨g, i * 6, none⟩) | 4 => rV = .pointer (some ⟨g, i * 6, none⟩) | 5 => rV = .int .i64 r | 6 => rV = .slice (some ⟨g, 0, none⟩) (n + 1) lc | 7 => rV = .int .i64 i | 8 => rV = .pointer (some ⟨g, i * 6, none⟩) | 9 => rV = .pointer (some ⟨g, i * 6 + 1, none⟩) | 10 => rV = .int .i64 p | 11 => rV = .int .i64 k | 12 => ∃ a150 c150, rV = .tuple #[.agg #[.int .i64 EE, .int .i64 LL, .slice a150 tn c150], .int .i64 no] ∧ rW.ownsRow wz.heap.size 33 5 (.slice a150 tn c150) tn (twCells TT) | 13 => ∃ a137 c137, rV = .tuple #[.agg #[.int .i64 EE, .int .i64 LL, .slice a137 tn c137], .int .i64 no] ∧ rW.ownsRow wz.heap.size 33 5 (.slice a137 tn c137) tn (twCells TT) | 14 => ∃ a151 c151, rV = .agg #[.int .i64 EE, .int .i64 LL, .slice a151 tn c151] ∧ rW.ownsRow wz.heap.size 33 5 (.slice a151 tn c151) tn (twCells TT) | 15 => rV = .int .i64 no | 16 => ∃ X, rV = .pointer (some ⟨X, 0, none⟩) ∧ wz.heap.size ≤ X ∧ rW.heap[X]? = some (.cells #[.int .i64 0, .int .i64 0, .slice none 0 0] 36 (0, 0)) | _ => True) (fun rv => rv = .int .i64 no) (StX EE LL tn) ?hS0 (fun _ _ h => h) (fun _ _ _ _ h => StX_upd h) ?hstep0 ?hst0 ?hlate0 ?hdone0
              case hS0 =>
                intro rI rV rW rW' hc rP
                match rI, rP with
                | 0, rP => exact rP
                | 1, rP => exact rP
                | 2, rP => exact rP
                | 3, rP => exact rP
                | 4, rP => exact rP
                | 5, rP => exact rP
                | 6, rP => exact rP
                | 7, rP => exact rP
                | 8, rP => exact rP
                | 9, rP => exact rP
                | 10, rP => exact rP
                | 11, rP => exact rP
                | 12, rP => exact (by obtain ⟨a150, c150, e9, hp⟩ := rP; exact ⟨a150, c150, e9, hc.row hp (fun _ _ => by simp)⟩)
                | 13, rP => exact (by obtain ⟨a137, c137, e9, hp⟩ := rP; exact ⟨a137, c137, e9, hc.row hp (fun _ _ => by simp)⟩)
                | 14, rP => exact (by obtain ⟨a151, c151, e9, hp⟩ := rP; exact ⟨a151, c151, e9, hc.row hp (fun _ _ => by simp)⟩)
                | 15, rP => exact rP
                | 16, rP => exact (by obtain ⟨X, e9, hp⟩ := rP; exact ⟨X, e9, ⟨hp.1, hc.heap hp.2 (by simp)⟩⟩)
                | _ + 17, _ => trivial
              case hstep0 =>
                intro rI rH us W hC hdep K hK
                have hiN : rI < 17 := rH
                simp only [actU, Act.put, List.setIfInBounds_toArray, List.set_cons_succ, List.set_cons_zero, Nat.reduceAdd] at hK ⊢
                have kA := hC.cell HG.out.1 (by simp)
                have kB := hC.cell HG.out.2 (by simp)
                have hin1 := hin9
                rcases (show rI = 0 ∨ rI = 1 ∨ rI = 2 ∨ rI = 3 ∨ rI = 4 ∨ rI = 5 ∨ rI = 6 ∨ rI = 7 ∨ rI = 8 ∨ rI = 9 ∨ rI = 10 ∨ rI = 11 ∨ rI = 12 ∨ rI = 13 ∨ rI = 14 ∨ rI = 15 ∨ rI = 16 by omega) with rfl | rfl | rfl | rfl | rfl | rfl | rfl | rfl | rfl | rfl | rfl | rfl | rfl | rfl | rfl | rfl | rfl
                · simp only [List.getD_cons_succ, List.getD_cons_zero, List.setIfInBounds_toArray, List.set_cons_succ, List.set_cons_zero] at hK ⊢
                  refine wpOp_at rfl rfl ?_
                  go_simp
                  exact hK _ _ _ rfl (Chg.refl _ _) rfl
                · simp only [List.getD_cons_succ, List.getD_cons_zero, List.setIfInBounds_toArray, List.set_cons_succ, List.set_cons_zero] at hK ⊢
                  refine wpOp_at rfl rfl ?_
                  go_simp
                  exact hK _ _ _ rfl (Chg.refl _ _) rfl
                · simp only [List.getD_cons_succ, List.getD_cons_zero, List.setIfInBounds_toArray, List.set_cons_succ, List.set_cons_zero] at hK ⊢
                  refine wpOp_at rfl rfl ?_
                  go_simp
                  exact hK _ _ _ rfl (Chg.refl _ _) rfl
                · have l1 := hdep 1 (by kernel_rfl)
                  replace l1 : us 1 = .slice (some ⟨g, 0, none⟩) (n + 1) lc := l1
                  have l2 := hdep 2 (by kernel_rfl)
                  replace l2 : us 2 = .int .i64 i := l2
                  simp only [List.getD_cons_succ, List.getD_cons_zero, List.setIfInBounds_toArray, List.set_cons_succ, List.set_cons_zero, l1, l2] at hK ⊢
                  refine wpOp_at rfl rfl ?_
                  go_simp
                  exact hK _ _ _ rfl (Chg.refl _ _) rfl
                · have l3 := hdep 3 (by kernel_rfl)
                  replace l3 : us 3 = .pointer (some ⟨g, i * 6, none⟩) := l3
                  simp only [List.getD_cons_succ, List.getD_cons_zero, List.setIfInBounds_toArray, List.set_cons_succ, List.set_cons_zero, l3] at hK ⊢
                  refine wpOp_at rfl rfl ?_
                  go_simp
                  exact hK _ _ _ rfl (Chg.refl _ _) rfl
                · have l4 := hdep 4 (by kernel_rfl)
                  replace l4 : us 4 = .pointer (some ⟨g, i * 6, none⟩) := l4
                  simp only [List.getD_cons_succ, List.getD_cons_zero, List.setIfInBounds_toArray, List.set_cons_succ, List.set_cons_zero, l4] at hK ⊢
                  refine wpOp_at rfl rfl ?_
                  go_simp
                  exact hK _ _ _ rfl (Chg.refl _ _) rfl
                · simp only [List.getD_cons_succ, List.getD_cons_zero, List.setIfInBounds_toArray, List.set_cons_succ, List.set_cons_zero] at hK ⊢
                  refine wpOp_at rfl rfl ?_
                  go_simp
                  exact hK _ _ _ rfl (Chg.refl _ _) rfl
                · simp only [List.getD_cons_succ, List.getD_cons_zero, List.setIfInBounds_toArray, List.set_cons_succ, List.set_cons_zero] at hK ⊢
                  refine wpOp_at rfl rfl ?_
                  go_simp
                  exact hK _ _ _ rfl (Chg.refl _ _) rfl
                · have l6 := hdep 6 (by kernel_rfl)
                  replace l6 : us 6 = .slice (some ⟨g, 0, none⟩) (n + 1) lc := l6
                  have l7 := hdep 7 (by kernel_rfl)
                  replace l7 : us 7 = .int .i64 i := l7
                  simp only [List.getD_cons_succ, List.getD_cons_zero, List.setIfInBounds_toArray, List.set_cons_succ, List.set_cons_zero, l6, l7] at hK ⊢
                  refine wpOp_at rfl rfl ?_
                  go_simp
                  exact hK _ _ _ rfl (Chg.refl _ _) rfl
                · have l8 := hdep 8 (by kernel_rfl)
                  replace l8 : us 8 = .pointer (some ⟨g, i * 6, none⟩) := l8
                  simp only [List.getD_cons_succ, List.getD_cons_zero, List.setIfInBounds_toArray, List.set_cons_succ, List.set_cons_zero, l8] at hK ⊢
                  refine wpOp_at rfl rfl ?_
                  go_simp
                  exact hK _ _ _ rfl (Chg.refl _ _) rfl
                · have l9 := hdep 9 (by kernel_rfl)
                  replace l9 : us 9 = .pointer (some ⟨g, i * 6 + 1, none⟩) := l9
                  simp only [List.getD_cons_succ, List.getD_cons_zero, List.setIfInBounds_toArray, List.set_cons_succ, List.set_cons_zero, l9] at hK ⊢
                  refine wpOp_at rfl rfl ?_
                  go_simp
                  exact hK _ _ _ rfl (Chg.refl _ _) rfl
                · simp only [List.getD_cons_succ, List.getD_cons_zero, List.setIfInBounds_toArray, List.set_cons_succ, List.set_cons_zero] at hK ⊢
                  refine wpOp_at rfl rfl ?_
                  go_simp
                  exact hK _ _ _ rfl (Chg.refl _ _) rfl
                · have l0 := hdep 0 (by kernel_rfl)
                  replace l0 : us 0 = .pointer (some ⟨HB, 0, none⟩) := l0
                  have l5 := hdep 5 (by kernel_rfl)
                  replace l5 : us 5 = .int .i64 r := l5
                  have l10 := hdep 10 (by kernel_rfl)
                  replace l10 : us 10 = .int .i64 p := l10
                  have l11 := hdep 11 (by kernel_rfl)
                  replace l11 : us 11 = .int .i64 k := l11
                  simp only [List.getD_cons_succ, List.getD_cons_zero, List.setIfInBounds_toArray, List.set_cons_succ, List.set_cons_zero, l0, l5, l10, l11] at hK ⊢
                  refine wpOp_at rfl rfl ?_
                  go_simp
                  refine (HR.out.1 W hC).mono ?_
                  rintro e wz ⟨a150, c150, rfl, f150, hz⟩
                  exact hK _ _ _ rfl hz ⟨a150, c150, rfl, row_base f150 hC.size⟩
                · have l12 := hdep 12 (by kernel_rfl)
                  obtain ⟨a150, c150, l12, p12⟩ := l12
                  simp only [List.getD_cons_succ, List.getD_cons_zero, List.setIfInBounds_toArray, List.set_cons_succ, List.set_cons_zero, l12] at hK ⊢
                  refine wpOp_at rfl rfl ?_
                  go_simp
                  exact hK _ _ _ rfl (Chg.refl _ _) ⟨a150, c150, rfl, p12⟩
                · have l13 := hdep 13 (by kernel_rfl)
                  obtain ⟨a137, c137, l13, p13⟩ := l13
                  simp only [List.getD_cons_succ, List.getD_cons_zero, List.setIfInBounds_toArray, List.set_cons_succ, List.set_cons_zero, l13] at hK ⊢
                  refine wpOp_at rfl rfl ?_
                  go_simp
                  exact hK _ _ _ rfl (Chg.refl _ _) ⟨a137, c137, rfl, p13⟩
                · have l13 := hdep 13 (by kernel_rfl)
                  obtain ⟨a137, c137, l13, p13⟩ := l13
                  simp only [List.getD_cons_succ, List.getD_cons_zero, List.setIfInBounds_toArray, List.set_cons_succ, List.set_cons_zero, l13] at hK ⊢
                  refine wpOp_at rfl rfl ?_
                  go_simp
                  exact hK _ _ _ rfl (Chg.refl _ _) rfl
                · simp only [List.getD_cons_succ, List.getD_cons_zero, List.setIfInBounds_toArray, List.set_cons_succ, List.set_cons_zero] at hK ⊢
                  refine wpOp_at rfl rfl ?_
                  go_simp
                  exact hK _ _ _ rfl ((Chg.refl _ _).alloc _) ⟨W.heap.size, rfl, ⟨hC.size, heap_alloc_same _ _⟩⟩
              case hst0 =>
                intro us W hC hall K hK
                have l14 := hall 14 (by decide) (by decide)
                obtain ⟨a151, c151, l14, p14⟩ := l14
                have l16 := hall 16 (by decide) (by decide)
                obtain ⟨X, l16, p16⟩ := l16
                have hb := p16.2
                have f0 := free_of_cells hb 0
                have f1 := free_of_cells hb 1
                have f2 := free_of_cells hb 2
                obtain ⟨r0, r1, r2⟩ := cells3 hb
                have hK := fun W2 (e9 : W2 = (((W.setCell ⟨X, 0, none⟩ (.int .i64 EE)).setCell ⟨X, 1, none⟩ (.int .i64 LL)).setCell ⟨X, 2, none⟩ (.slice a151 tn c151))) => hK W2 (StX_mk l16 l14 e9)
                simp only [actU, Act.put, List.setIfInBounds_toArray, List.set_cons_succ, List.set_cons_zero, List.getD_cons_succ, List.getD_cons_zero, Nat.reduceAdd, l14, l16] at hK ⊢
                refine wpOp_at rfl rfl ?_
                go_simp
                exact hK _ rfl
              case hlate0 =>
                intro us W W2 hC hall hst9 K hK
                have l13 := hall 13 (by decide) (by decide)
                obtain ⟨a137, c137, l13, p13⟩ := l13
                simp only [actU, Act.put, List.setIfInBounds_toArray, List.set_cons_succ, List.set_cons_zero, List.getD_cons_succ, List.getD_cons_zero, Nat.reduceAdd, l13] at hK ⊢
                refine wpOp_at rfl rfl ?_
                go_simp
                exact hK _ rfl
              case hdone0 =>
                intro us W W9 hC hall hV9 hst9
                have l0 := hall 0 (by decide) (by decide)
                replace l0 : us 0 = .pointer (some ⟨HB, 0, none⟩) := l0
                have l1 := hall 1 (by decide) (by decide)
                replace l1 : us 1 = .slice (some ⟨g, 0, none⟩) (n + 1) lc := l1
                have l2 := hall 2 (by decide) (by decide)
                replace l2 : us 2 = .int .i64 i := l2
                have l3 := hall 3 (by decide) (by decide)
                replace l3 : us 3 = .pointer (some ⟨g, i * 6, none⟩) := l3
                have l4 := hall 4 (by decide) (by decide)
                replace l4 : us 4 = .pointer (some ⟨g, i * 6, none⟩) := l4
                have l5 := hall 5 (by decide) (by decide)
                replace l5 : us 5 = .int .i64 r := l5
                have l6 := hall 6 (by decide) (by decide)
                replace l6 : us 6 = .slice (some ⟨g, 0, none⟩) (n + 1) lc := l6
                have l7 := hall 7 (by decide) (by decide)
                replace l7 : us 7 = .int .i64 i := l7
                have l8 := hall 8 (by decide) (by decide)
                replace l8 : us 8 = .pointer (some ⟨g, i * 6, none⟩) := l8
                have l9 := hall 9 (by decide) (by decide)
                replace l9 : us 9 = .pointer (some ⟨g, i * 6 + 1, none⟩) := l9
                have l10 := hall 10 (by decide) (by decide)
                replace l10 : us 10 = .int .i64 p := l10
                have l11 := hall 11 (by decide) (by decide)
                replace l11 : us 11 = .int .i64 k := l11
                have l12 := hall 12 (by decide) (by decide)
                obtain ⟨a150, c150, l12, p12⟩ := l12
                have l13 := hall 13 (by decide) (by decide)
                obtain ⟨a137, c137, l13, p13⟩ := l13
                have l14 := hall 14 (by decide) (by decide)
                obtain ⟨a151, c151, l14, p14⟩ := l14
                have l15 : us 15 = .int .i64 no := hV9
                have l16 := hall 16 (by decide) (by decide)
                obtain ⟨X, l16, p16⟩ := l16
                obtain rfl := StX_at hst9 l16 l14
                simp only [actU, Act.put, List.setIfInBounds_toArray, List.set_cons_succ, List.set_cons_zero, Nat.reduceAdd, l0, l1, l2, l3, l4, l5, l6, l7, l8, l9, l10, l11, l12, l13, l14, l15, l16]
                clear hall l0 l1 l2 l3 l4 l5 l6 l7 l8 l9 l10 l11 l12 l13 l14 l15 l16
                have hb := p16.2
                have f0 := free_of_cells hb 0
                have f1 := free_of_cells hb 1
                have f2 := free_of_cells hb 2
                obtain ⟨r0, r1, r2⟩ := cells3 hb
                obtain ⟨h4, hc4⟩ := set3 hb (.int .i64 EE) (.int .i64 LL) (.slice a151 tn c151)
                have hXw := p16.1
                have HXb := hb
                have HW := Lib.hid (And.intro h4 (And.intro hc4 (And.intro p14 hC)))
                clear hb h4 hc4 hC p12 p13 p14 p16
                refine wpOp_at rfl rfl ?_
                go_simp
                go_upto_region 15 with fail
                obtain ⟨w5, e5⟩ : ∃ z, z = (((W.setCell ⟨X, 0, none⟩ (.int .i64 EE)).setCell ⟨X, 1, none⟩ (.int .i64 LL)).setCell ⟨X, 2, none⟩ (.slice a151 tn c151)) := ⟨_, rfl⟩
                have h5 := HW.out.1
                have hc5 := HW.out.2.1
                rw [← e5] at h5 hc5 ⊢
                have hc05 : Chg [] wz w5 := HW.out.2.2.2.trans hc5 (fun j hj => .inr (by simp only [List.mem_singleton] at hj; omega))
                have hx5 : w5.ownsRow wz.heap.size 33 5 (.slice a151 tn c151) tn (twCells TT) := hc5.rowOf HW.out.2.2.1 (fun k hk => by
                  simp only [List.mem_singleton] at hk
                  subst hk
                  exact .of_cells HXb (by decide))
                have HX5 := Lib.hid (And.intro h5 hx5)
                have HG5 := Lib.hid (And.intro (hc05.cell HG.out.1 (by simp)) (hc05.cell HG.out.2 (by simp)))
                have HC5 := Lib.hid hc05
                clear e5 h5 hc5 hc05 hx5 f0 f1 f2 r0 r1 r2 HXb
                refine wp_region_late (by kernel_rfl) (by kernel_rfl) [154, 155, 156, 157, 158, 159, 160, 161, 162, 163, 164, 165, 166, 153, 167, 168, 19] 15 (by kernel_rfl) (fun rI rV rW => match rI with | 0 => rV = .pointer (some ⟨RB, 0, none⟩) | 1 => rV = .slice (some ⟨g, 0, none⟩) (n + 1) lc | 2 => rV = .int .i64 i | 3 => rV = .pointer (some ⟨g, i * 6, none⟩) | 4 => rV = .pointer (some ⟨g, i * 6, none⟩) | 5 => rV = .int .i64 r | 6 => rV = .slice (some ⟨g, 0, none⟩) (n + 1) lc | 7 => rV = .int .i64 i | 8 => rV = .pointer (some ⟨g, i * 6, none⟩) | 9 => rV = .pointer (some ⟨g, i * 6 + 1, none⟩) | 10 => rV = .int .i64 p | 11 => rV = .int .i64 k | 12 => ∃ r166 q166 b166 a166 c166, rV = .tuple #[.agg #[.int .i64 r166, .int .i64 q166, .bool b166, .int .i64 EE, .int .i64 LL, .slice a166 tn c166], .int .i64 no] ∧ rW.ownsRow 0 33 5 (.slice a166 tn c166) tn (twCells TT) | 13 => ∃ r153 q153 b153 a153 c153, rV = .tuple #[.agg #[.int .i64 r153, .int .i64 q153, .bool b153, .int .i64 EE, .int .i64 LL, .slice a153 tn c153], .int .i64 no] ∧ rW.ownsRow 0 33 5 (.slice a153 tn c153) tn (twCells TT) | 14 => ∃ r167 q167 b167 a167 c167, rV = .agg #[.int .i64 r167, .int .i64 q167, .bool b167, .int .i64 EE, .int .i64 LL, .slice a167 tn c167] ∧ rW.ownsRow 0 33 5 (.slice a167 tn c167) tn (twCells TT) | 15 => rV = .int .i64 no | 16 => ∃ Y, rV = .pointer (some ⟨Y, 0, none⟩) ∧ w5.heap.size ≤ Y ∧ rW.heap[Y]? = some (.cells #[.int .i64 0, .int .i64 0, .bool false, .int .i64 0, .int .i64 0, .slice none 0 0] 56 (0, 0)) | _ => True) (fun rv => rv = .int .i64 no) (StY EE LL tn) ?hS0 (fun _ _ h => h) (fun _ _ _ _ h => StY_upd h) ?hstep0 ?hst0 ?hlate0 ?hdone0
                case hS0 =>
                  intro rI rV rW rW' hc rP
                  match rI, rP with
                  | 0, rP => exact rP
                  | 1, rP => exact rP
                  | 2, rP => exact rP
                  | 3, rP => exact rP
                  | 4, rP => exact rP
                  | 5, rP => exact rP
                  | 6, rP => exact rP
                  | 7, rP => exact rP
                  | 8, rP => exact rP
                  | 9, rP => exact rP
                  | 10, rP => exact rP
                  | 11, rP => exact rP
                  | 12, rP => exact (by obtain ⟨r166, q166, b166, a166, c166, e9, hp⟩ := rP; exact ⟨r166, q166, b166, a166, c166, e9, hc.row hp (fun _ _ => by simp)⟩)
                  | 13, rP => exact (by obtain ⟨r153, q153, b153, a153, c153, e9, hp⟩ := rP; exact ⟨r153, q153, b153, a153, c153, e9, hc.row hp (fun _ _ => by simp)⟩)
                  | 14, rP => exact (by obtain ⟨r167, q167, b167, a167, c167, e9, hp⟩ := rP; exact ⟨r167, q167, b167, a167, c167, e9, hc.row hp (fun _ _ => by simp)⟩)
                  | 15, rP => exact rP
                  | 16, rP => exact (by obtain ⟨Y, e9, hp⟩ := rP; exact ⟨Y, e9, ⟨hp.1, hc.heap hp.2 (by simp)⟩⟩)
                  | _ + 17, _ => trivial
                case hstep0 =>
                  intro rI rH us W hC hdep K hK
                  have hiN : rI < 17 := rH
                  simp only [actU, Act.put, List.setIfInBounds_toArray, List.set_cons_succ, List.set_cons_zero, Nat.reduceAdd] at hK ⊢
                  have kA := hC.cell HG5.out.1 (by simp)
                  have kB := hC.cell HG5.out.2 (by simp)
                  have hin1 := hin9
                  rcases (show rI = 0 ∨ rI = 1 ∨ rI = 2 ∨ rI = 3 ∨ rI = 4 ∨ rI = 5 ∨ rI = 6 ∨ rI = 7 ∨ rI = 8 ∨ rI = 9 ∨ rI = 10 ∨ rI = 11 ∨ rI = 12 ∨ rI = 13 ∨ rI = 14 ∨ rI = 15 ∨ rI = 16 by omega) with rfl | rfl | rfl | rfl | rfl | rfl | rfl | rfl | rfl | rfl | rfl | rfl | rfl | rfl | rfl | rfl | rfl
                  · simp only [List.getD_cons_succ, List.getD_cons_zero, List.setIfInBounds_toArray, List.set_cons_succ, List.set_cons_zero] at hK ⊢
                    refine wpOp_at rfl rfl ?_
                    go_simp
                    exact hK _ _ _ rfl (Chg.refl _ _) rfl
                  · simp only [List.getD_cons_succ, List.getD_cons_zero, List.setIfInBounds_toArray, List.set_cons_succ, List.set_cons_zero] at hK ⊢
                    refine wpOp_at rfl rfl ?_
                    go_simp
                    exact hK _ _ _ rfl (Chg.refl _ _) rfl
                  · simp only [List.getD_cons_succ, List.getD_cons_zero, List.setIfInBounds_toArray, List.set_cons_succ, List.set_cons_zero] at hK ⊢
                    refine wpOp_at rfl rfl ?_
                    go_simp
                    exact hK _ _ _ rfl (Chg.refl _ _) rfl
                  · have l1 := hdep 1 (by kernel_rfl)
                    replace l1 : us 1 = .slice (some ⟨g, 0, none⟩) (n + 1) lc := l1
                    have l2 := hdep 2 (by kernel_rfl)
                    replace l2 : us 2 = .int .i64 i := l2
                    simp only [List.getD_cons_succ, List.getD_cons_zero, List.setIfInBounds_toArray, List.set_cons_succ, List.set_cons_zero, l1, l2] at hK ⊢
                    refine wpOp_at rfl rfl ?_
                    go_simp
                    exact hK _ _ _ rfl (Chg.refl _ _) rfl
                  · have l3 := hdep 3 (by kernel_rfl)
                    replace l3 : us 3 = .pointer (some ⟨g, i * 6, none⟩) := l3
                    simp only [List.getD_cons_succ, List.getD_cons_zero, List.setIfInBounds_toArray, List.set_cons_succ, List.set_cons_zero, l3] at hK ⊢
                    refine wpOp_at rfl rfl ?_
                    go_simp
                    exact hK _ _ _ rfl (Chg.refl _ _) rfl
                  · have l4 := hdep 4 (by kernel_rfl)
                    replace l4 : us 4 = .pointer (some ⟨g, i * 6, none⟩) := l4
                    simp only [List.getD_cons_succ, List.getD_cons_zero, List.setIfInBounds_toArray, List.set_cons_succ, List.set_cons_zero, l4] at hK ⊢
                    refine wpOp_at rfl rfl ?_
                    go_simp
                    exact hK _ _ _ rfl (Chg.refl _ _) rfl
                  · simp only [List.getD_cons_succ, List.getD_cons_zero, List.setIfInBounds_toArray, List.set_cons_succ, List.set_cons_zero] at hK ⊢
                    refine wpOp_at rfl rfl ?_
                    go_simp
                    exact hK _ _ _ rfl (Chg.refl _ _) rfl
                  · simp only [List.getD_cons_succ, List.getD_cons_zero, List.setIfInBounds_toArray, List.set_cons_succ, List.set_cons_zero] at hK ⊢
                    refine wpOp_at rfl rfl ?_
                    go_simp
                    exact hK _ _ _ rfl (Chg.refl _ _) rfl
                  · have l6 := hdep 6 (by kernel_rfl)
                    replace l6 : us 6 = .slice (some ⟨g, 0, none⟩) (n + 1) lc := l6
                    have l7 := hdep 7 (by kernel_rfl)
                    replace l7 : us 7 = .int .i64 i := l7
                    simp only [List.getD_cons_succ, List.getD_cons_zero, List.setIfInBounds_toArray, List.set_cons_succ, List.set_cons_zero, l6, l7] at hK ⊢
                    refine wpOp_at rfl rfl ?_
                    go_simp
                    exact hK _ _ _ rfl (Chg.refl _ _) rfl
                  · have l8 := hdep 8 (by kernel_rfl)
                    replace l8 : us 8 = .pointer (some ⟨g, i * 6, none⟩) := l8
                    simp only [List.getD_cons_succ, List.getD_cons_zero, List.setIfInBounds_toArray, List.set_cons_succ, List.set_cons_zero, l8] at hK ⊢
                    refine wpOp_at rfl rfl ?_
                    go_simp
                    exact hK _ _ _ rfl (Chg.refl _ _) rfl
                  · have l9 := hdep 9 (by kernel_rfl)
                    replace l9 : us 9 = .pointer (some ⟨g, i * 6 + 1, none⟩) := l9
                    simp only [List.getD_cons_succ, List.getD_cons_zero, List.setIfInBounds_toArray, List.set_cons_succ, List.set_cons_zero, l9] at hK ⊢
                    refine wpOp_at rfl rfl ?_
                    go_simp
                    exact hK _ _ _ rfl (Chg.refl _ _) rfl
                  · simp only [List.getD_cons_succ, List.getD_cons_zero, List.setIfInBounds_toArray, List.set_cons_succ, List.set_cons_zero] at hK ⊢
                    refine wpOp_at rfl rfl ?_
                    go_simp
                    exact hK _ _ _ rfl (Chg.refl _ _) rfl
                  · have l0 := hdep 0 (by kernel_rfl)
                    replace l0 : us 0 = .pointer (some ⟨RB, 0, none⟩) := l0
                    have l5 := hdep 5 (by kernel_rfl)
                    replace l5 : us 5 = .int .i64 r := l5
                    have l10 := hdep 10 (by kernel_rfl)
                    replace l10 : us 10 = .int .i64 p := l10
                    have l11 := hdep 11 (by kernel_rfl)
                    replace l11 : us 11 = .int .i64 k := l11
                    simp only [List.getD_cons_succ, List.getD_cons_zero, List.setIfInBounds_toArray, List.set_cons_succ, List.set_cons_zero, l0, l5, l10, l11] at hK ⊢
                    refine wpOp_at rfl rfl ?_
                    go_simp
                    refine (HR.out.2 W (HC5.out.tr hC)).mono ?_
                    rintro e wz ⟨r166, q166, b166, a166, c166, rfl, f166, hz⟩
                    exact hK _ _ _ rfl hz ⟨r166, q166, b166, a166, c166, rfl, f166⟩
                  · have l12 := hdep 12 (by kernel_rfl)
                    obtain ⟨r166, q166, b166, a166, c166, l12, p12⟩ := l12
                    simp only [List.getD_cons_succ, List.getD_cons_zero, List.setIfInBounds_toArray, List.set_cons_succ, List.set_cons_zero, l12] at hK ⊢
                    refine wpOp_at rfl rfl ?_
                    go_simp
                    exact hK _ _ _ rfl (Chg.refl _ _) ⟨r166, q166, b166, a166, c166, rfl, p12⟩
                  · have l13 := hdep 13 (by kernel_rfl)
                    obtain ⟨r153, q153, b153, a153, c153, l13, p13⟩ := l13
                    simp only [List.getD_cons_succ, List.getD_cons_zero, List.setIfInBounds_toArray, List.set_cons_succ, List.set_cons_zero, l13] at hK ⊢
                    refine wpOp_at rfl rfl ?_
                    go_simp
                    exact hK _ _ _ rfl (Chg.refl _ _) ⟨r153, q153, b153, a153, c153, rfl, p13⟩
                  · have l13 := hdep 13 (by kernel_rfl)
                    obtain ⟨r153, q153, b153, a153, c153, l13, p13⟩ := l13
                    simp only [List.getD_cons_succ, List.getD_cons_zero, List.setIfInBounds_toArray, List.set_cons_succ, List.set_cons_zero, l13] at hK ⊢
                    refine wpOp_at rfl rfl ?_
                    go_simp
                    exact hK _ _ _ rfl (Chg.refl _ _) rfl
                  · simp only [List.getD_cons_succ, List.getD_cons_zero, List.setIfInBounds_toArray, List.set_cons_succ, List.set_cons_zero] at hK ⊢
                    refine wpOp_at rfl rfl ?_
                    go_simp
                    exact hK _ _ _ rfl ((Chg.refl _ _).alloc _) ⟨W.heap.size, rfl, ⟨hC.size, heap_alloc_same _ _⟩⟩
                case hst0 =>
                  intro us W hC hall K hK
                  have l14 := hall 14 (by decide) (by decide)
                  obtain ⟨r167, q167, b167, a167, c167, l14, p14⟩ := l14
                  have l16 := hall 16 (by decide) (by decide)
                  obtain ⟨Y, l16, p16⟩ := l16
                  have hb := p16.2
                  have f0 := free_of_cells hb 0
                  have f1 := free_of_cells hb 1
                  have f2 := free_of_cells hb 2
                  have f3 := free_of_cells hb 3
                  have f4 := free_of_cells hb 4
                  have f5 := free_of_cells hb 5
                  obtain ⟨r0, r1, r2, r3, r4, r5⟩ := cells6 hb
                  have hK := fun W2 (e9 : W2 = ((((((W.setCell ⟨Y, 0, none⟩ (.int .i64 r167)).setCell ⟨Y, 1, none⟩ (.int .i64 q167)).setCell ⟨Y, 2, none⟩ (.bool b167)).setCell ⟨Y, 3, none⟩ (.int .i64 EE)).setCell ⟨Y, 4, none⟩ (.int .i64 LL)).setCell ⟨Y, 5, none⟩ (.slice a167 tn c167))) => hK W2 (StY_mk l16 l14 e9)
                  simp only [actU, Act.put, List.setIfInBounds_toArray, List.set_cons_succ, List.set_cons_zero, List.getD_cons_succ, List.getD_cons_zero, Nat.reduceAdd, l14, l16] at hK ⊢
                  refine wpOp_at rfl rfl ?_
                  go_simp
                  exact hK _ rfl
                case hlate0 =>
                  intro us W W2 hC hall hst9 K hK
                  have l13 := hall 13 (by decide) (by decide)
                  obtain ⟨r153, q153, b153, a153, c153, l13, p13⟩ := l13
                  simp only [actU, Act.put, List.setIfInBounds_toArray, List.set_cons_succ, List.set_cons_zero, List.getD_cons_succ, List.getD_cons_zero, Nat.reduceAdd, l13] at hK ⊢
                  refine wpOp_at rfl rfl ?_
                  go_simp
                  exact hK _ rfl
                case hdone0 =>
                  intro us W W9 hC hall hV9 hst9
                  have l0 := hall 0 (by decide) (by decide)
                  replace l0 : us 0 = .pointer (some ⟨RB, 0, none⟩) := l0
                  have l1 := hall 1 (by decide) (by decide)
                  replace l1 : us 1 = .slice (some ⟨g, 0, none⟩) (n + 1) lc := l1
                  have l2 := hall 2 (by decide) (by decide)
                  replace l2 : us 2 = .int .i64 i := l2
                  have l3 := hall 3 (by decide) (by decide)
                  replace l3 : us 3 = .pointer (some ⟨g, i * 6, none⟩) := l3
                  have l4 := hall 4 (by decide) (by decide)
                  replace l4 : us 4 = .pointer (some ⟨g, i * 6, none⟩) := l4
                  have l5 := hall 5 (by decide) (by decide)
                  replace l5 : us 5 = .int .i64 r := l5
                  have l6 := hall 6 (by decide) (by decide)
                  replace l6 : us 6 = .slice (some ⟨g, 0, none⟩) (n + 1) lc := l6
                  have l7 := hall 7 (by decide) (by decide)
                  replace l7 : us 7 = .int .i64 i := l7
                  have l8 := hall 8 (by decide) (by decide)
                  replace l8 : us 8 = .pointer (some ⟨g, i * 6, none⟩) := l8
                  have l9 := hall 9 (by decide) (by decide)
                  replace l9 : us 9 = .pointer (some ⟨g, i * 6 + 1, none⟩) := l9
                  have l10 := hall 10 (by decide) (by decide)
                  replace l10 : us 10 = .int .i64 p := l10
                  have l11 := hall 11 (by decide) (by decide)
                  replace l11 : us 11 = .int .i64 k := l11
                  have l12 := hall 12 (by decide) (by decide)
                  obtain ⟨r166, q166, b166, a166, c166, l12, p12⟩ := l12
                  have l13 := hall 13 (by decide) (by decide)
                  obtain ⟨r153, q153, b153, a153, c153, l13, p13⟩ := l13
                  have l14 := hall 14 (by decide) (by decide)
                  obtain ⟨r167, q167, b167, a167, c167, l14, p14⟩ := l14
                  have l15 : us 15 = .int .i64 no := hV9
                  have l16 := hall 16 (by decide) (by decide)
                  obtain ⟨Y, l16, p16⟩ := l16
                  obtain rfl := StY_at hst9 l16 l14
                  simp only [actU, Act.put, List.setIfInBounds_toArray, List.set_cons_succ, List.set_cons_zero, Nat.reduceAdd, l0, l1, l2, l3, l4, l5, l6, l7, l8, l9, l10, l11, l12, l13, l14, l15, l16]
                  clear hall l0 l1 l2 l3 l4 l5 l6 l7 l8 l9 l10 l11 l12 l13 l14 l15 l16
                  have hb := p16.2
                  have f0 := free_of_cells hb 0
                  have f1 := free_of_cells hb 1
                  have f2 := free_of_cells hb 2
                  have f3 := free_of_cells hb 3
                  have f4 := free_of_cells hb 4
                  have f5 := free_of_cells hb 5
                  obtain ⟨r0, r1, r2, r3, r4, r5⟩ := cells6 hb
                  obtain ⟨h6, hc6⟩ := set6 hb (.int .i64 r167) (.int .i64 q167) (.bool b167) (.int .i64 EE) (.int .i64 LL) (.slice a167 tn c167)
                  have hxY : X ≠ Y := fun e => by have h1 := hC.heap HX5.out.1 (by simp); rw [e, hb] at h1; simp only [Option.some.injEq, Obj.cells.injEq] at h1; exact absurd h1.2.1 (by decide)
                  have hYw := p16.1
                  have HW := Lib.hid (And.intro h6 (And.intro hc6 (And.intro p14 hC)))
                  have HYb := hb
                  clear hb h6 hc6 hC p12 p13 p14 p16
                  refine wpOp_at rfl rfl ?_
                  go_simp
                  go_upto_region 16 with fail
                  obtain ⟨w6, e6⟩ : ∃ z, z = ((((((W.setCell ⟨Y, 0, none⟩ (.int .i64 r167)).setCell ⟨Y, 1, none⟩ (.int .i64 q167)).setCell ⟨Y, 2, none⟩ (.bool b167)).setCell ⟨Y, 3, none⟩ (.int .i64 EE)).setCell ⟨Y, 4, none⟩ (.int .i64 LL)).setCell ⟨Y, 5, none⟩ (.slice a167 tn c167)) := ⟨_, rfl⟩
                  have h6 := HW.out.1
                  have hc6 := HW.out.2.1
                  rw [← e6] at h6 hc6 ⊢
                  have hc56 : Chg [] w5 w6 := HW.out.2.2.2.trans hc6 (fun j hj => .inr (by simp only [List.mem_singleton] at hj; omega))
                  have hX6 := hc56.heap HX5.out.1 (by simp)
                  have hxr : w6.ownsRow wz.heap.size 33 5 (.slice a151 tn c151) tn (twCells TT) := hc56.row HX5.out.2 (fun _ _ => by simp)
                  have hyr : w6.ownsRow 0 33 5 (.slice a167 tn c167) tn (twCells TT) := hc6.rowOf HW.out.2.2.1 (fun k hk => by
                    simp only [List.mem_singleton] at hk
                    subst hk
                    exact .of_cells HYb (by decide))
                  have hsame := SameTwigs_any w6 a151 a167 tn c151 tn c167 TT HTT.out.1 HTT.out.1 (by have := HTT.out.2; omega) (twigs_row (by rw [← HTT.out.1]; exact hxr)) (twigs_row (by rw [← HTT.out.1]; exact hyr))
                  obtain ⟨x0, x1, x2⟩ := cells3 hX6
                  obtain ⟨y0, y1, y2, y3, y4, y5⟩ := cells6 h6
                  have H6 := Lib.hid (And.intro hxr (And.intro hX6 (HC5.out.tr hc56)))
                  clear e6 h6 hc6 hc56 hX6 hxr hyr f0 f1 f2 f3 f4 f5 r0 r1 r2 r3 r4 r5
                  go_wp2_with fail
                  refine hsame.mono ?_
                  clear hsame y0 y1 y2 y3 y4 y5 x0 x1 x2
                  rintro e w7 ⟨rfl, hc7⟩
                  have hxr7 := hc7.row H6.out.1 (fun _ _ => by simp)
                  have hover := OverTwigs_any w7 wz.heap.size a151 tn c151 TT HTT.out.1 (by have := HTT.out.2; omega) hxr7
                  obtain ⟨x0, x1, x2⟩ := cells3 (hc7.heap H6.out.2.1 (by simp))
                  have H7 := Lib.hid (And.intro hxr7 (H6.out.2.2.tr hc7))
                  clear hxr7 hc7
                  go_wp2_with fail
                  refine hover.mono ?_
                  clear hover
                  rintro e w8 ⟨rfl, hc8⟩
                  have H8 := Lib.hid (H7.out.2.trans hc8 (fun j hj => .inr (row_beyond H7.out.1 (by simpa using hj)).1))
                  clear hc8 x0 x1 x2
                  go_wp2_with fail
                  go_roundg (3 - (d + 1))
                  case measure => omega
                  case rel => exact ⟨d + 1, rfl, by omega, by rw [hkd9.out]; go_num, Lib.hid (hK.out.tr H8.out)⟩
            · obtain rfl : d = 3 := by omega
              have hdk : decide (k < lv + 2) = false := decide_eq_false (by omega)
              clear hk
              go_wp2_with fail
              go_roundg (n + 1 - (i + 1))
              case measure => omega
              case rel => exact ⟨i + 1, rfl, by omega, by go_num, Lib.hid (hI.out.tr hK.out)⟩
        · obtain rfl : i = n + 1 := by omega
          go_wp2_with fail
          go_ret
          exact ⟨rfl, HX.out.2.tr hI.out⟩
end Go.Proofs.Ytffjfkjlahdedaa

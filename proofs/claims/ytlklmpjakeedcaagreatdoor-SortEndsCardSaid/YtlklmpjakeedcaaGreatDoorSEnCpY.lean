/-
 A right graph is searched, by the package.
 Conditions: the rows read as data.
-/
import Derived.Test.YtlklmpjakeedcaaGreatDoorSEnCpO1
import Derived.Test.YtlklmpjakeedcaaGreatDoorSEnCpE
set_option linter.unusedVariables false
set_option linter.unusedSimpArgs false
set_option linter.unnecessarySimpa false
namespace Go.Proofs.YtlklmpjakeedcaaGreatDoor
open Go.RowKit Go.MapKept Go.Shelf

/-- What is told of a graph: a search whose parts are those of the document; none if the graph is not right. -/
def OfP (w : World) (ga : Option Addr) (n gc : Nat) (x : List (List Int)) (e : Ending) (w' : World) : Prop :=
 (Cp.rightI x = false ∧ e = .returned (.tuple #[.pointer none, .bool false]) ∧ Chg [] w w') ∨
 (Cp.rightI x = true ∧ ∃ (sb : Nat) (s : Cp.TS), e = .returned (.tuple #[.pointer (some ⟨sb, 0, none⟩), .bool true]) ∧ Chg [] w w' ∧ SearchAt w.heap.size w' sb ga n gc n { s with part := Cp.placeR (Cp.partsR (Cp.toG x)), parts := Cp.partsR (Cp.toG x) })

set_option maxRecDepth 100000 in
set_option maxHeartbeats 8000000 in
theorem compOf_any (w : World) (ga : Option Addr) (n gc : Nat) (VG : List Is) (hn : n = VG.length) (hgc : n ≤ gc ∧ gc ≤ 9223372036854775807) (hx : IntRows w ga VG) :
  Calls Tryz.prog 102 #[.slice ga n gc] w (OfP w ga n gc (VG.map (·.2.2))) := by
 obtain ⟨X, hX⟩ : ∃ X, X = VG.map (·.2.2) := ⟨_, rfl⟩
 obtain ⟨r1, hr1⟩ : ∃ r1, r1 = Cp.rightI X := ⟨_, rfl⟩
 rw [← hX]
 have H := Lib.hid (And.intro hn (And.intro hx (And.intro hX hr1)))
 clear hn hx hX hr1
 go_enter Tryz.func102, Tryz.ntmps102
 go_wp2_with fail
 refine (rightC_any _ ga n gc VG H.out.1 (by omega) H.out.2.1).mono ?_
 rintro e w1 ⟨rfl, hc1⟩
 rw [← H.out.2.2.1, ← H.out.2.2.2]
 have H1 := Lib.hid hc1
 clear hc1
 cases r1 with
 | false =>
  go_wp2_with fail
  refine bodyPost_ret (v := .tuple #[.pointer none, .bool false]) (by simp [results, Tryz.results102, go_sem]) rfl ?_
  exact .inl ⟨H.out.2.2.2.symm, rfl, H1.out⟩
 | true =>
  have hr := H.out.2.2.2.symm
  have hG := Cp.right_RG hr
  have hnX : n = X.length := by rw [H.out.1, H.out.2.2.1, List.length_map]
  have hn64 : n ≤ 64 := by have := hG.few; rw [Cp.toG_len] at this; omega
  have HG := Lib.hid (And.intro hr (And.intro hG hnX))
  clear hr hG hnX
  have hmk := fun W => run_ints n (by omega) W
  go_wp2_with fail
  refine wp_region_fresh3 (by kernel_rfl) (by kernel_rfl) [7, 8, 9, 10, 11, 12, 13, 14, 15, 16, 17] (by kernel_rfl) (fun rI rV rW => match rI with | 0 => rV = .slice ga n gc | 1 => rV = .slice ga n gc | 2 => rV = .int .i64 n | 3 => ∃ a c, rV = .slice a n c ∧ FreshInts w1.heap.size rW a c (List.replicate n (0 : Int)) | 4 => rV = .slice ga n gc | 5 => rV = .int .i64 n | 6 => ∃ a c, rV = .slice a n c ∧ FreshInts w1.heap.size rW a c (List.replicate n (0 : Int)) | 7 => ∃ g, rV = .slice (some ⟨g, 0, none⟩) 1 1 ∧ rW.heap[g]? = some (.cells #[.int .i64 (-1)] 3 (0, 0)) | 8 => rV = .slice ga n gc | 9 => rV = .int .i64 n | 10 => ∃ a c, rV = .slice a n c ∧ FreshInts w1.heap.size rW a c (List.replicate n (-1 : Int)) | _ => True) ?hS4 (fun j => decide (j ∈ [3, 6, 10])) ?hM4 ?hstep4 ?hdone4
  case hS4 =>
   intro rI rV rW rW' hc rP
   match rI, rP with
   | 0, rP => exact rP
   | 1, rP => exact rP
   | 2, rP => exact rP
   | 3, rP => exact (by obtain ⟨a, c, e9, hp⟩ := rP; exact ⟨a, c, e9, hc.row hp (fun _ _ => by simp)⟩)
   | 4, rP => exact rP
   | 5, rP => exact rP
   | 6, rP => exact (by obtain ⟨a, c, e9, hp⟩ := rP; exact ⟨a, c, e9, hc.row hp (fun _ _ => by simp)⟩)
   | 7, rP => exact (by obtain ⟨g, e9, hp⟩ := rP; exact ⟨g, e9, hc.heap hp (by simp)⟩)
   | 8, rP => exact rP
   | 9, rP => exact rP
   | 10, rP => exact (by obtain ⟨a, c, e9, hp⟩ := rP; exact ⟨a, c, e9, hc.row hp (fun _ _ => by simp)⟩)
   | _ + 11, _ => trivial
  case hM4 =>
   intro j v W hj hp x hx
   have hj' := of_decide_eq_true hj
   simp only [List.mem_cons, List.not_mem_nil, or_false] at hj'
   rcases hj' with rfl | rfl | rfl
   ·obtain ⟨a, c, e9, hp⟩ := hp
    subst e9
    exact (row_beyond hp (by rw [List.length_replicate]; exact hx)).2.1
   ·obtain ⟨a, c, e9, hp⟩ := hp
    subst e9
    exact (row_beyond hp (by rw [List.length_replicate]; exact hx)).2.1
   ·obtain ⟨a, c, e9, hp⟩ := hp
    subst e9
    exact (row_beyond hp (by rw [List.length_replicate]; exact hx)).2.1
  case hstep4 =>
   intro rI rH us W hC hdep K hK
   have hiN : rI < 11 := rH
   simp only [actU, Act.put, List.setIfInBounds_toArray, List.set_cons_succ, List.set_cons_zero, Nat.reduceAdd] at hK ⊢
   have hmkW := hmk W
   rcases (show rI = 0 ∨ rI = 1 ∨ rI = 2 ∨ rI = 3 ∨ rI = 4 ∨ rI = 5 ∨ rI = 6 ∨ rI = 7 ∨ rI = 8 ∨ rI = 9 ∨ rI = 10 by omega) with rfl | rfl | rfl | rfl | rfl | rfl | rfl | rfl | rfl | rfl | rfl
   ·simp only [List.getD_cons_succ, List.getD_cons_zero, List.setIfInBounds_toArray, List.set_cons_succ, List.set_cons_zero] at hK ⊢
    refine wpOp_at rfl rfl ?_
    go_simp
    exact hK _ _ _ rfl (Chg.refl _ _) rfl (fun h9 => absurd h9 (by decide))
   ·simp only [List.getD_cons_succ, List.getD_cons_zero, List.setIfInBounds_toArray, List.set_cons_succ, List.set_cons_zero] at hK ⊢
    refine wpOp_at rfl rfl ?_
    go_simp
    exact hK _ _ _ rfl (Chg.refl _ _) rfl (fun h9 => absurd h9 (by decide))
   ·have l1 := hdep 1 (by kernel_rfl)
    replace l1 : us 1 = .slice ga n gc := l1
    simp only [List.getD_cons_succ, List.getD_cons_zero, List.setIfInBounds_toArray, List.set_cons_succ, List.set_cons_zero, l1] at hK ⊢
    refine wpOp_at rfl rfl ?_
    go_simp
    exact hK _ _ _ rfl (Chg.refl _ _) rfl (fun h9 => absurd h9 (by decide))
   ·have l2 := hdep 2 (by kernel_rfl)
    replace l2 : us 2 = .int .i64 n := l2
    simp only [List.getD_cons_succ, List.getD_cons_zero, List.setIfInBounds_toArray, List.set_cons_succ, List.set_cons_zero, l2] at hK ⊢
    refine wpOp_at rfl rfl ?_
    have hf := rowI_fresh (heap_alloc_same W (rowI (List.replicate n (0 : Int)))) (Nat.le_refl _) (List.length_replicate).symm (by simp only [maxLen]; omega)
    go_simp
    exact hK _ _ _ rfl ((Chg.refl _ _).alloc _) ⟨_, _, rfl, row_base hf hC.size⟩ (fun _ x hx => by simp [Value.ownBlock] at hx; omega)
   ·simp only [List.getD_cons_succ, List.getD_cons_zero, List.setIfInBounds_toArray, List.set_cons_succ, List.set_cons_zero] at hK ⊢
    refine wpOp_at rfl rfl ?_
    go_simp
    exact hK _ _ _ rfl (Chg.refl _ _) rfl (fun h9 => absurd h9 (by decide))
   ·have l4 := hdep 4 (by kernel_rfl)
    replace l4 : us 4 = .slice ga n gc := l4
    simp only [List.getD_cons_succ, List.getD_cons_zero, List.setIfInBounds_toArray, List.set_cons_succ, List.set_cons_zero, l4] at hK ⊢
    refine wpOp_at rfl rfl ?_
    go_simp
    exact hK _ _ _ rfl (Chg.refl _ _) rfl (fun h9 => absurd h9 (by decide))
   ·have l5 := hdep 5 (by kernel_rfl)
    replace l5 : us 5 = .int .i64 n := l5
    simp only [List.getD_cons_succ, List.getD_cons_zero, List.setIfInBounds_toArray, List.set_cons_succ, List.set_cons_zero, l5] at hK ⊢
    refine wpOp_at rfl rfl ?_
    have hf := rowI_fresh (heap_alloc_same W (rowI (List.replicate n (0 : Int)))) (Nat.le_refl _) (List.length_replicate).symm (by simp only [maxLen]; omega)
    go_simp
    exact hK _ _ _ rfl ((Chg.refl _ _).alloc _) ⟨_, _, rfl, row_base hf hC.size⟩ (fun _ x hx => by simp [Value.ownBlock] at hx; omega)
   ·simp only [List.getD_cons_succ, List.getD_cons_zero, List.setIfInBounds_toArray, List.set_cons_succ, List.set_cons_zero] at hK ⊢
    refine wpOp_at rfl rfl ?_
    go_simp
    exact hK _ _ _ rfl ((Chg.refl _ _).alloc _) ⟨_, rfl, heap_alloc_same _ _⟩ (fun h9 => absurd h9 (by decide))
   ·simp only [List.getD_cons_succ, List.getD_cons_zero, List.setIfInBounds_toArray, List.set_cons_succ, List.set_cons_zero] at hK ⊢
    refine wpOp_at rfl rfl ?_
    go_simp
    exact hK _ _ _ rfl (Chg.refl _ _) rfl (fun h9 => absurd h9 (by decide))
   ·have l8 := hdep 8 (by kernel_rfl)
    replace l8 : us 8 = .slice ga n gc := l8
    simp only [List.getD_cons_succ, List.getD_cons_zero, List.setIfInBounds_toArray, List.set_cons_succ, List.set_cons_zero, l8] at hK ⊢
    refine wpOp_at rfl rfl ?_
    go_simp
    exact hK _ _ _ rfl (Chg.refl _ _) rfl (fun h9 => absurd h9 (by decide))
   ·have l7 := hdep 7 (by kernel_rfl)
    obtain ⟨g, l7, p7⟩ := l7
    have l9 := hdep 9 (by kernel_rfl)
    replace l9 : us 9 = .int .i64 n := l9
    simp only [List.getD_cons_succ, List.getD_cons_zero, List.setIfInBounds_toArray, List.set_cons_succ, List.set_cons_zero, l7, l9] at hK ⊢
    refine wpOp_at rfl rfl ?_
    go_simp
    refine (repeat_any W ⟨g, 0, none⟩ 1 (-1) n hn64 (cells1 p7)).mono ?_
    rintro e wz ⟨g9, rfl, hg9, hr9, hz⟩
    have hf := rowI_fresh hr9 hg9 (List.length_replicate).symm (by simp only [maxLen]; omega)
    exact hK _ _ _ rfl hz ⟨_, _, rfl, row_base hf hC.size⟩ (fun _ x hx => by simp [Value.ownBlock] at hx; omega)
  case hdone4 =>
   intro us W hC hall hapt
   have qp3_6 := hapt 3 6 (by decide) (by decide) (by decide) (by decide) (by decide)
   have qp3_10 := hapt 3 10 (by decide) (by decide) (by decide) (by decide) (by decide)
   have qp6_10 := hapt 6 10 (by decide) (by decide) (by decide) (by decide) (by decide)
   have l0 := hall 0 (by decide)
   replace l0 : us 0 = .slice ga n gc := l0
   have l1 := hall 1 (by decide)
   replace l1 : us 1 = .slice ga n gc := l1
   have l2 := hall 2 (by decide)
   replace l2 : us 2 = .int .i64 n := l2
   have l3 := hall 3 (by decide)
   obtain ⟨a_3, c_3, l3, p3⟩ := l3
   have l4 := hall 4 (by decide)
   replace l4 : us 4 = .slice ga n gc := l4
   have l5 := hall 5 (by decide)
   replace l5 : us 5 = .int .i64 n := l5
   have l6 := hall 6 (by decide)
   obtain ⟨a_6, c_6, l6, p6⟩ := l6
   have l7 := hall 7 (by decide)
   obtain ⟨g_7, l7, p7⟩ := l7
   have l8 := hall 8 (by decide)
   replace l8 : us 8 = .slice ga n gc := l8
   have l9 := hall 9 (by decide)
   replace l9 : us 9 = .int .i64 n := l9
   have l10 := hall 10 (by decide)
   obtain ⟨a_10, c_10, l10, p10⟩ := l10
   rw [l3, l6] at qp3_6
   rw [l3, l10] at qp3_10
   rw [l6, l10] at qp6_10
   clear hapt
   simp only [actU, Act.put, List.setIfInBounds_toArray, List.set_cons_succ, List.set_cons_zero, Nat.reduceAdd, l0, l1, l2, l3, l4, l5, l6, l7, l8, l9, l10]
   clear hall l0 l1 l2 l3 l4 l5 l6 l7 l8 l9 l10
   refine wpOp_at rfl rfl ?_
   go_simp
   refine wpOp_at rfl rfl ?_
   go_simp
   refine wpOp_at rfl rfl ?_
   go_simp
   have hsz1 := hC.size
   have hsz0 := H1.out.size
   obtain ⟨sb, hsb⟩ : ∃ sb, sb = W.heap.size := ⟨_, rfl⟩
   rw [← hsb]
   obtain ⟨w4, e4⟩ : ∃ w4, w4 = W.alloc (Obj.cells #[.slice ga n gc, .slice none 0 0, .slice a_3 n c_3, .slice a_6 n c_6, .slice a_10 n c_10, .slice none 0 0, .int .i64 0] 161) := ⟨_, rfl⟩
   rw [← e4]
   have hc4 : Chg [] W w4 := by rw [e4]; exact (Chg.refl _ _).alloc _
   have hh4 : w4.heap[sb]? = some (.cells #[.slice ga n gc, .slice none 0 0, .slice a_3 n c_3, .slice a_6 n c_6, .slice a_10 n c_10, .slice none 0 0, .int .i64 0] 161 (0, 0)) := by rw [e4, hsb]; exact heap_alloc_same _ _
   have hS4 : SearchIs w.heap.size w4 sb ga n gc n (none, 0, []) (a_3, c_3, List.replicate n 0) (a_6, c_6, List.replicate n 0) (a_10, c_10, List.replicate n (-1)) none 0 [] Cp.startT := by
    have el : ∀ z : Int, (List.replicate n z).length = n := fun z => List.length_replicate
    have eo : ∀ (a : Option Addr) (c : Nat) (z : Int), Is.own (a, c, List.replicate n z) = (Value.slice a n c).ownBlock := fun a c z => by show (Value.slice a (List.replicate n z).length c).ownBlock = _; rw [el]
    refine ⟨by omega, ?_, World.ownsRow_nil _ _ _ _, row_base (hc4.row p3 (fun _ _ => by simp)) hsz0, row_base (hc4.row p6 (fun _ _ => by simp)) hsz0, row_base (hc4.row p10 (fun _ _ => by simp)) hsz0, OwnIs.nil _ _, (apt_none rfl).symm, (apt_none rfl).symm, (apt_none rfl).symm, ?_, ?_, ?_, (fun q hq => by cases hq), (fun q hq => by cases hq), (fun q hq => by cases hq), (fun q hq => by cases hq), rfl, ?_, ?_, ?_, rfl⟩
    ·rw [hh4]; simp [Is.cell, Cp.startT]
    ·intro k hk; rw [eo] at hk ⊢; exact qp3_6 k hk
    ·intro k hk; rw [eo] at hk ⊢; exact qp3_10 k hk
    ·intro k hk; rw [eo] at hk ⊢; exact qp6_10 k hk
    ·show List.replicate n (0 : Int) = natI ((List.range n).map (fun _ => 0)); simp [natI, List.map_const', List.length_range]
    ·show List.replicate n (0 : Int) = natI ((List.range n).map (fun _ => 0)); simp [natI, List.map_const', List.length_range]
    ·show List.replicate n (-1 : Int) = (List.range n).map (fun _ => -1); simp [List.map_const', List.length_range]
   have H4 := Lib.hid (And.intro hS4 ((H1.out.tr hC).tr hc4))
   clear hS4 hc4 hh4 e4 hsb p3 p6 p7 p10 qp3_6 qp3_10 qp6_10 hC hmk hsz1 hsz0
   obtain ⟨G, hG⟩ : ∃ G, G = Cp.toG X := ⟨_, rfl⟩
   have hnG : n = G.length := by rw [hG, Cp.toG_len]; exact HG.out.2.2
   have hVG : VG.map (·.2.2) = Cp.intsG G := by rw [← H.out.2.2.1, hG, Cp.ints_toG HG.out.1]
   have hRG : Cp.RG G := by rw [hG]; exact HG.out.2.1
   have HV := Lib.hid (And.intro hG (And.intro hnG (And.intro hVG hRG)))
   clear hG hnG hVG hRG
   go_wp2_with fail
   refine (each_any w4 n (by omega) 151 #[.pointer (some ⟨sb, 0, none⟩)] #[] (enters_of Tryz.func151 (by kernel_rfl) rfl) (fun k W => SearchAt w.heap.size W sb ga n gc n (Cp.searchT G k) ∧ Chg [] w W) ⟨⟨_, _, _, _, _, _, _, H4.out.1⟩, H4.out.2⟩ (fun k hk W9 hI => ?_)).mono ?_
   ·obtain ⟨-, hnG, hVG, hRG⟩ := HV.out
    have hv := visit_any w sb ga n gc VG G hRG hnG hVG H.out.2.1 hgc G.length [] (Cp.searchT G k) k W9 (Cp.search_pre hRG k (by omega)) (by have := Cp.search_clk hRG k (by omega); rw [hnG]; exact this) hI.2 hI.1
    refine hv.mono ?_
    rintro e w5 ⟨rfl, hS5, hc5⟩
    exact ⟨rfl, by rw [Cp.searchT_succ]; exact hS5, hc5⟩
   rintro e w5 ⟨rfl, hS5, hc5⟩
   have H5 := Lib.hid (And.intro hS5 hc5)
   clear hS5 hc5
   go_wp2_with fail
   refine (order_any w w5 sb ga n gc VG G HV.out.2.2.2 HV.out.2.1 HV.out.2.2.1 H.out.2.1 hgc (Cp.searchT G n) (by rw [HV.out.2.1]; exact (Cp.search_parted HV.out.2.2.2).1) (by have := Cp.wf_parts_len (Cp.search_wf HV.out.2.2.2 n (by have := HV.out.2.1; omega)).1; have := HV.out.2.1; omega) H5.out.2 H5.out.1).mono ?_
   rintro e w6 ⟨rfl, hS6, hc6⟩
   have H6 := Lib.hid (And.intro hS6 hc6)
   clear hS6 hc6
   go_wp2_with fail
   refine bodyPost_ret (v := .tuple #[.pointer (some ⟨sb, 0, none⟩), .bool true]) (by simp [results, Tryz.results102, go_sem]) rfl ?_
   exact .inr ⟨HG.out.1, sb, Cp.searchT G n, rfl, H6.out.2, by rw [← HV.out.1]; exact H6.out.1⟩
end Go.Proofs.YtlklmpjakeedcaaGreatDoor
set_option linter.unusedVariables false
set_option linter.unusedSimpArgs false
set_option linter.unnecessarySimpa false
namespace Go.Proofs.YtlklmpjakeedcaaGreatDoor
open Go.RowKit Go.MapKept Go.Shelf

/-- Rows of numbers of one's own are told. -/
def TabP (w : World) (x : List (List Int)) (e : Ending) (w' : World) : Prop :=
 ∃ (la : Option Addr) (lc : Nat) (VS : List Is), e = .returned (.slice la VS.length lc) ∧ OwnIs w.heap.size w' la lc VS ∧ VS.map (·.2.2) = x ∧ Chg [] w w'

set_option maxRecDepth 100000 in
set_option maxHeartbeats 4000000 in
theorem parts_any (w : World) (ga : Option Addr) (n gc : Nat) (VG : List Is) (hn : n = VG.length) (hgc : n ≤ gc ∧ gc ≤ 9223372036854775807) (hx : IntRows w ga VG) :
  Calls Tryz.prog 72 #[.slice ga n gc] w (TabP w (Cp.partsI (VG.map (·.2.2)))) := by
 obtain ⟨X, hX⟩ : ∃ X, X = VG.map (·.2.2) := ⟨_, rfl⟩
 have hof := compOf_any w ga n gc VG hn hgc hx
 rw [← hX] at hof ⊢
 have H := Lib.hid hof
 clear hn hx hX hof
 go_enter Tryz.func72, Tryz.ntmps72
 go_wp2_with fail
 refine H.out.mono ?_
 rintro e w1 (⟨hr, rfl, hc⟩ | ⟨hr, sb, s, rfl, hc, hS⟩)
 ·have H1 := Lib.hid (And.intro hr hc)
  clear hr hc
  go_wp2_with fail
  go_ret
  exact ⟨none, 0, [], rfl, OwnIs.nil _ _, by unfold Cp.partsI; rw [H1.out.1]; rfl, H1.out.2⟩
 ·obtain ⟨A, M, K, P, la, lc, VS, hS⟩ := hS
  obtain ⟨-, -, -, -, -, x5, -⟩ := hS.cells
  have H1 := Lib.hid (And.intro hr (And.intro hc hS))
  obtain ⟨m, hm⟩ : ∃ m, m = VS.length := ⟨_, rfl⟩
  rw [← hm] at x5
  have HM := Lib.hid hm
  clear hr hc hS hm
  go_wp2_with fail
  go_ret
  refine ⟨la, lc, VS, by rw [← HM.out]; rfl, H1.out.2.2.own, ?_, H1.out.2.1⟩
  rw [H1.out.2.2.parts]
  unfold Cp.partsI
  rw [H1.out.1]; rfl

set_option maxRecDepth 100000 in
set_option maxHeartbeats 4000000 in
theorem index_any (w : World) (a : Option Addr) (n c : Nat) (zs : List Int) (hn : n = zs.length) (hs : n ≤ 9223372036854775807) (hz : Ints w a zs) (x : Int) :
  Calls Tryz.prog 110 #[.slice a n c, .int .i64 x] w fun e w' => ∃ k : Int, e = .returned (.int .i64 k) ∧ decide (0 ≤ k) = zs.contains x ∧ Chg [] w w' := by
 have H := Lib.hid (And.intro hn hz)
 clear hn hz
 go_enter Tryz.func110, Tryz.ntmps110
 go_wp2_with fail
 go_loopg [8] n (fun d iv wr => ∃ i : Nat, d = n - i ∧ i ≤ n ∧ iv = .int .i64 i ∧ Hid ((∀ j y, j < i → zs[j]? = some y → y ≠ x) ∧ Chg [] w wr))
 case atStart => exact ⟨0, rfl, Nat.zero_le _, rfl, Lib.hid ⟨fun j y h => absurd h (Nat.not_lt_zero _), Chg.refl _ _⟩⟩
 case round =>
  obtain ⟨i, rfl, hi, rfl, hin⟩ := hrel
  obtain ⟨wq, rfl⟩ : ∃ wz, wz = wr := ⟨_, rfl⟩
  by_cases hlt : i < n
  ·have hil : i < zs.length := by have := H.out.1; omega
   obtain ⟨b, o, rfl, hc⟩ := (H.out.2.keep hin.out.2.kp) i hil
   obtain ⟨z, hz⟩ : ∃ z, z = zs[i] := ⟨_, rfl⟩
   rw [← hz] at hc
   have hzz : zs[i]? = some z := by rw [List.getElem?_eq_getElem hil, hz]
   have HZ := Lib.hid hzz
   clear hz hzz
   by_cases hxz : x = z
   ·have hq : (x == z) = true := by simpa using hxz
    have HX := Lib.hid hxz
    clear hxz
    go_wp2_with fail
    go_ret
    refine ⟨i, rfl, ?_, hin.out.2⟩
    have hm : x ∈ zs := by rw [HX.out]; exact List.mem_of_getElem? HZ.out
    simp [hm]
   ·have hq : (x == z) = false := by simpa using hxz
    have HX := Lib.hid hxz
    clear hxz
    go_wp2_with fail
    go_roundg (n - (i + 1))
    case measure => omega
    case rel => exact ⟨i + 1, rfl, by omega, by go_num, Lib.hid ⟨fun j y hj hy => by
     rcases Nat.lt_or_ge j i with h | h
     ·exact hin.out.1 j y h hy
     ·obtain rfl : j = i := by omega
      rw [HZ.out] at hy
      simp only [Option.some.injEq] at hy
      exact fun e => HX.out (by rw [hy, e]), hin.out.2⟩⟩
  ·obtain rfl : i = n := by omega
   go_wp2_with fail
   go_ret
   refine ⟨-1, rfl, ?_, hin.out.2⟩
   have hm : x ∉ zs := fun hm => by
    obtain ⟨j, hj, hjx⟩ := List.getElem_of_mem hm
    exact hin.out.1 j x (by have := H.out.1; omega) (by rw [List.getElem?_eq_getElem hj, hjx]) rfl
   simp [hm]

set_option maxRecDepth 100000 in
set_option maxHeartbeats 4000000 in
theorem contains_any (w : World) (a : Option Addr) (n c : Nat) (zs : List Int) (hn : n = zs.length) (hs : n ≤ 9223372036854775807) (hz : Ints w a zs) (x : Int) :
  Calls Tryz.prog 80 #[.slice a n c, .int .i64 x] w fun e w' => e = .returned (.bool (zs.contains x)) ∧ Chg [] w w' := by
 have H := Lib.hid (index_any w a n c zs hn hs hz x)
 obtain ⟨R, hR⟩ : ∃ R, R = zs.contains x := ⟨_, rfl⟩
 rw [← hR] at H ⊢
 clear hn hz hR
 go_enter Tryz.func80, Tryz.ntmps80
 go_wp2_with fail
 refine H.out.mono ?_
 rintro e w1 ⟨k, rfl, hk, hc⟩
 have H1 := Lib.hid (And.intro hk hc)
 clear hk hc
 go_wp2_with fail
 go_ret
 exact ⟨ret_bool (by rw [← H1.out.1]), H1.out.2⟩

end Go.Proofs.YtlklmpjakeedcaaGreatDoor
set_option linter.unusedVariables false
set_option linter.unusedSimpArgs false
set_option linter.unnecessarySimpa false
namespace Go.Proofs.YtlklmpjakeedcaaGreatDoor
open Go.RowKit Go.MapKept Go.Shelf

theorem OwnIs.cap {B : Nat} {w : World} {a : Option Addr} {c : Nat} {VS : List Is} (h : OwnIs B w a c VS) : VS.length ≤ c ∧ c ≤ 9223372036854775807 := by
 rcases h.row.2 with ⟨h0, h1⟩ | ⟨g, cap, cur, h0, _, _, h3, h4, _⟩
 ·simp only [Value.slice.injEq] at h0; omega
 ·simp only [Value.slice.injEq] at h0
  simp only [maxLen] at h4
  omega
/-- A row of a table, opened. -/
theorem rows_at {w : World} {a : Option Addr} {VS : List Is} (h : IntRows w a VS) {X : List (List Int)} (hX : VS.map (·.2.2) = X) {i : Nat} (hi : i < VS.length) :
  ∃ b o ra rc, a = some ⟨b, o, none⟩ ∧ w.cell? ⟨b, o + i, none⟩ = some (.slice ra (X.getD i []).length rc) ∧ Ints w ra (X.getD i []) ∧ (X.getD i []).length ≤ 9223372036854775807 := by
 obtain ⟨b, o, e, hcl, hz, hl⟩ := h i hi
 obtain ⟨ra, rc, zs, hVi⟩ : ∃ ra rc zs, VS[i] = (ra, rc, zs) := ⟨_, _, _, rfl⟩
 have hzs : X.getD i [] = zs := by
  rw [← hX, List.getD, List.getElem?_map, List.getElem?_eq_getElem hi, hVi]; rfl
 rw [hVi] at hcl hz hl
 dsimp only at hz hl
 rw [Is.cell] at hcl
 dsimp only at hcl
 rw [hzs]
 exact ⟨b, o, ra, rc, e, hcl, hz, hl⟩
end Go.Proofs.YtlklmpjakeedcaaGreatDoor

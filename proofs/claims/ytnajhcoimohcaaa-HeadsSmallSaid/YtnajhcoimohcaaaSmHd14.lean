/-
  The document's heads: a rule touches a place.
  Conditions: none.
-/
import Derived.Test.YtnajhcoimohcaaaSmHd13
set_option linter.unusedVariables false
set_option linter.unusedSimpArgs false
set_option linter.unnecessarySimpa false
namespace Go.Proofs.Ytnajhcoimohcaaa
open Go.RowKit Go.MapKept

theorem rfCells_put {l : List Rf} {i r : Nat} (hi : i < l.length) (hr : r < 5) {y : Rf} {v : Value} (h : y.cells = l[i].cells.set r v) : (rfCells l).set (i * 5 + r) v = rfCells (l.set i y) := by
  apply List.ext_getElem?
  intro j
  have h1 := flat_get Rf.cells 5 (fun _ => rfl) l (j / 5) (j % 5) (Nat.mod_lt _ (by decide))
  have h2 := flat_get Rf.cells 5 (fun _ => rfl) (l.set i y) (j / 5) (j % 5) (Nat.mod_lt _ (by decide))
  rw [show j / 5 * 5 + j % 5 = j by omega] at h1 h2
  have h1' : (rfCells l)[j]? = (l[j / 5]?).bind fun a => a.cells[j % 5]? := h1
  have h2' : (rfCells (l.set i y))[j]? = ((l.set i y)[j / 5]?).bind fun a => a.cells[j % 5]? := h2
  rw [h2', List.getElem?_set, List.getElem?_set]
  by_cases e : i * 5 + r = j
  · rw [if_pos e, if_pos (show i * 5 + r < (rfCells l).length by rw [rfCells_len]; omega), if_pos (show i = j / 5 by omega), if_pos hi, Option.bind_some, h, show j % 5 = r by omega, List.getElem?_set_self (by show r < 5; exact hr)]
  · rw [if_neg e, h1']
    by_cases e2 : i = j / 5
    · rw [if_pos e2, if_pos hi, Option.bind_some, h, List.getElem?_set_ne (by omega), ← e2, List.getElem?_eq_getElem hi, Option.bind_some]
    · rw [if_neg e2]
/-- A cell of the i-th activation is written. -/
theorem RefAt.put {NB : Nat} {w : World} {B G : Nat} {c : Nat} {l : List Rf} (h : RefAt NB w B (some ⟨G, 0, none⟩) c l) {i r : Nat} (hi : i < l.length) (hr : r < 5) {y : Rf} {v : Value} (hy : y.cells = l[i].cells.set r v) (hrows : DocI NB w y.ta y.tc y.f.tch ∧ DocI NB w y.ia y.ic y.f.inv) :
    RefAt NB (w.setCell ⟨G, i * 5 + r, none⟩ v) B (some ⟨G, 0, none⟩) c (l.set i y) ∧ Chg [G] w (w.setCell ⟨G, i * 5 + r, none⟩ v) := by
  obtain ⟨_, _, _, ⟨cur, hcur⟩, hp⟩ := row_put h.row (i := i * 5 + r) (by omega)
  obtain ⟨p1, p2⟩ := hp v
  have keep : ∀ {b k : _} {z : List Int}, DocI NB w b k z → DocI NB (w.setCell ⟨G, i * 5 + r, none⟩ v) b k z := fun {b k z} hz =>
    ⟨p2.rowOf hz.1 (fun j hj => by simp only [List.mem_singleton] at hj; subst hj; exact .of_cells hcur (by decide)), hz.2⟩
  refine ⟨⟨?_, ?_, fun x hx => ?_, Nat.lt_of_lt_of_le h.ban p2.size⟩, p2⟩
  · rw [List.length_set]
    refine p2.heap h.top (fun hm => ?_)
    simp only [List.mem_singleton] at hm
    subst hm
    rw [h.top] at hcur
    simp at hcur
  · rw [List.length_set, ← rfCells_put hi hr hy]
    exact p1
  · rcases List.mem_or_eq_of_mem_set hx with hx | rfl
    · exact ⟨keep (h.rows x hx).1, keep (h.rows x hx).2⟩
    · exact ⟨keep hrows.1, keep hrows.2⟩
def tlF (p r : Int) (i : Nat) (l : List Fm) : List Fm := (l.take i).map (touchF p [r]) ++ l.drop i
theorem tlF_len (p r : Int) (i : Nat) (l : List Fm) : (tlF p r i l).length = l.length := by simp [tlF]; omega
theorem tlF_get (p r : Int) {i : Nat} {l : List Fm} (hi : i < l.length) : (tlF p r i l)[i]'(by rw [tlF_len]; exact hi) = l[i] := by
  unfold tlF
  rw [List.getElem_append_right (by simp; omega)]
  simp [Nat.min_eq_left (Nat.le_of_lt hi)]
theorem tlF_succ (p r : Int) {i : Nat} {l : List Fm} (hi : i < l.length) : tlF p r (i + 1) l = (tlF p r i l).set i (touchF p [r] l[i]) := by
  unfold tlF
  rw [List.take_succ_eq_append_getElem hi, List.map_append, List.set_append_right _ _ (by simp; omega), List.drop_eq_getElem_cons hi]
  simp only [List.length_map, List.length_take, Nat.min_eq_left (Nat.le_of_lt hi), Nat.sub_self, List.set_cons_zero, List.map_cons, List.map_nil, List.append_assoc, List.cons_append, List.nil_append]
theorem rfs_set (l : List Rf) (i : Nat) (y : Rf) : rfs (l.set i y) = (rfs l).set i y.f := by simp [rfs, List.map_set]
def fpR (a : Option Addr) (c : Nat) (n : Nat) : List Nat := (Value.slice a n c).ownBlock.toList
def TouchRP (NB : Nat) (w : World) (B : Nat) (a : Option Addr) (c : Nat) (l : List Rf) (res : List Fm) (e : Ending) (w' : World) : Prop :=
  e = .returned (.tuple #[]) ∧ ∃ l', l'.length = l.length ∧ RefAt NB w' B a c l' ∧ rfs l' = res ∧ Chg (fpR a c l.length) w w'

set_option maxRecDepth 100000 in
set_option maxHeartbeats 4000000 in
theorem touchR_any {NB : Nat} (w : World) (B : Nat) (a : Option Addr) (c : Nat) (l : List Rf) (h : RefAt NB w B a c l) (hsz : ∀ f ∈ rfs l, f.tch.length ≤ 1000000) (r p : Int) :
    Calls Try.prog 50 #[.pointer (some ⟨B, 0, none⟩), .int .i64 r, .int .i64 p] w (TouchRP NB w B a c l (touchS (rfs l) p [r])) := by
  obtain ⟨n, hn⟩ : ∃ n, n = l.length := ⟨_, rfl⟩
  have x0 := cells1 h.top
  rw [← hn] at x0
  have H := Lib.hid (And.intro h (And.intro hn hsz))
  clear h hn hsz
  go_enter Try.func50, Try.ntmps50
  go_wp2_with fail
  clear x0
  go_loopg [6] n (fun dd iv wr => ∃ i : Nat, dd = n - i ∧ i ≤ n ∧ iv = .int .i64 i ∧ Hid (∃ l', l'.length = l.length ∧ RefAt NB wr B a c l' ∧ rfs l' = tlF p r i (rfs l) ∧ Chg (fpR a c l.length) w wr))
  case atStart => exact ⟨0, rfl, Nat.zero_le _, rfl, Lib.hid ⟨l, rfl, H.out.1, by simp [tlF], Chg.refl _ _⟩⟩
  case round =>
    obtain ⟨i, rfl, hi, rfl, hin⟩ := hrel
    obtain ⟨wq, rfl⟩ : ∃ wq, wq = wr := ⟨_, rfl⟩
    obtain ⟨l', hll, hq, hl', hcq⟩ := hin.out
    have x0 := cells1 hq.top
    rw [hll, ← H.out.2.1] at x0
    by_cases hil : i < n
    · have hiL : i < l'.length := by have := H.out.2.1; omega
      obtain ⟨G, rfl, hc1, hc2, -, z1, z2, -, -, zf, -, cur, hcur⟩ := hq.at hiL
      rw [hll, ← H.out.2.1] at hc1
      have hrow := (hq.rows _ (List.getElem_mem hiL)).1
      have hiF : i < (rfs l).length := by rw [rfs_len]; omega
      have hfx : l'[i].f = (rfs l)[i] := by
        have e1 := rfs_get l' hiL
        rw [← e1]
        have : (rfs l')[i]'(by rw [rfs_len]; exact hiL) = (tlF p r i (rfs l))[i]'(by rw [tlF_len]; exact hiF) := by congr 1
        rw [this, tlF_get p r hiF]
      have hlen := H.out.2.2 _ (List.getElem_mem hiF)
      rw [← hfx] at hlen
      obtain ⟨x, hx⟩ : ∃ x, x = l'[i] := ⟨_, rfl⟩
      rw [← hx] at z1 z2 hrow hlen hfx
      have HX : Hid (∃ h : i < l'.length, ∃ h2 : i < (rfs l).length, x = l'[i] ∧ x.f = (rfs l)[i]) := Lib.hid ⟨hiL, hiF, hx, hfx⟩
      obtain ⟨⟨rule, place, tch, inv, tnt⟩, ta, tc, ia, ic⟩ := x
      simp only at z1 z2 hrow hlen
      have hi1 : (i : Int) < n := by omega
      have HQ := Lib.hid (And.intro hq (And.intro hll (And.intro hl' hcq)))
      by_cases hpl : place = p
      · have HS := Lib.hid (And.intro hrow (And.intro hlen (And.intro (cells1 hq.top) (And.intro z2 hpl))))
        have hs0 := HS.out.2.2.1
        rw [hll, ← H.out.2.1] at hs0
        have HT := Lib.hid (And.intro hs0 hc1)
        clear hs0 hq hll hl' hcq hx hiL hiF hfx hrow hlen zf hcur z2
        rw [hpl] at z1
        clear hpl
        go_wp2_with fail
        refine wp_region_tail1 (by kernel_rfl) (by kernel_rfl) [26, 27, 28, 29, 30, 31, 32, 33, 34, 35, 36, 37, 38, 39, 40, 41, 42] (by kernel_rfl) (fun rI rV rW => match rI with | 0 => rV = .pointer (some ⟨B, 0, none⟩) | 1 => rV = .pointer (some ⟨B, 0, none⟩) | 2 => rV = .pointer (some ⟨B, 0, none⟩) | 3 => rV = .slice (some ⟨G, 0, none⟩) n c | 4 => rV = .int .i64 i | 5 => rV = .pointer (some ⟨B, 0, none⟩) | 6 => rV = .pointer (some ⟨B, 0, none⟩) | 7 => rV = .pointer (some ⟨B, 0, none⟩) | 8 => rV = .slice (some ⟨G, 0, none⟩) n c | 9 => rV = .int .i64 i | 10 => rV = .pointer (some ⟨G, i * 5, none⟩) | 11 => rV = .pointer (some ⟨G, i * 5 + 2, none⟩) | 12 => rV = .slice ta tch.length tc | 13 => rV = .int .i64 r | 14 => ∃ a40 c40, rV = .slice a40 (addS tch r).length c40 ∧ DocI NB rW a40 c40 (addS tch r) | 15 => rV = .pointer (some ⟨G, i * 5, none⟩) | 16 => rV = .pointer (some ⟨G, i * 5 + 2, none⟩) | _ => True) ?hS8 ?hstep8 ?hdone8
        case hS8 =>
          intro rI rV rW rW' hc rP
          match rI, rP with
          | 0, rP => exact rP
          | 1, rP => exact rP
          | 2, rP => exact rP
          | 3, rP => exact rP
          | 4, rP => exact rP
          | 5, rP => exact rP
          | 6, rP => exact rP
          | 7, rP => exact rP
          | 8, rP => exact rP
          | 9, rP => exact rP
          | 10, rP => exact rP
          | 11, rP => exact rP
          | 12, rP => exact rP
          | 13, rP => exact rP
          | 14, rP => exact (by obtain ⟨a40, c40, e9, hp⟩ := rP; exact ⟨a40, c40, e9, hp.chg0 hc⟩)
          | 15, rP => exact rP
          | 16, rP => exact rP
          | _ + 17, _ => trivial
        case hstep8 =>
          intro rI rH us W hC hdep K hK
          have hiN : rI < 17 := rH
          simp only [actU, Act.put, List.setIfInBounds_toArray, List.set_cons_succ, List.set_cons_zero, Nat.reduceAdd] at hK ⊢
          have hcell0 := hC.cell HT.out.1 (by simp)
          have hcell2 := hC.cell HS.out.2.2.2.1 (by simp)
          have hnc := HT.out.2
          rcases (show rI = 0 ∨ rI = 1 ∨ rI = 2 ∨ rI = 3 ∨ rI = 4 ∨ rI = 5 ∨ rI = 6 ∨ rI = 7 ∨ rI = 8 ∨ rI = 9 ∨ rI = 10 ∨ rI = 11 ∨ rI = 12 ∨ rI = 13 ∨ rI = 14 ∨ rI = 15 ∨ rI = 16 by omega) with rfl | rfl | rfl | rfl | rfl | rfl | rfl | rfl | rfl | rfl | rfl | rfl | rfl | rfl | rfl | rfl | rfl
          · simp only [List.getD_cons_succ, List.getD_cons_zero, List.setIfInBounds_toArray, List.set_cons_succ, List.set_cons_zero] at hK ⊢
            refine wpOp_at rfl rfl ?_
            go_simp
            exact hK _ _ _ rfl (Chg.refl _ _) rfl
          · have l0 := hdep 0 (by kernel_rfl)
            replace l0 : us 0 = .pointer (some ⟨B, 0, none⟩) := l0
            simp only [List.getD_cons_succ, List.getD_cons_zero, List.setIfInBounds_toArray, List.set_cons_succ, List.set_cons_zero, l0] at hK ⊢
            refine wpOp_at rfl rfl ?_
            go_simp
            exact hK _ _ _ rfl (Chg.refl _ _) rfl
          · have l1 := hdep 1 (by kernel_rfl)
            replace l1 : us 1 = .pointer (some ⟨B, 0, none⟩) := l1
            simp only [List.getD_cons_succ, List.getD_cons_zero, List.setIfInBounds_toArray, List.set_cons_succ, List.set_cons_zero, l1] at hK ⊢
            refine wpOp_at rfl rfl ?_
            go_simp
            exact hK _ _ _ rfl (Chg.refl _ _) rfl
          · have l2 := hdep 2 (by kernel_rfl)
            replace l2 : us 2 = .pointer (some ⟨B, 0, none⟩) := l2
            simp only [List.getD_cons_succ, List.getD_cons_zero, List.setIfInBounds_toArray, List.set_cons_succ, List.set_cons_zero, l2] at hK ⊢
            refine wpOp_at rfl rfl ?_
            go_simp
            exact hK _ _ _ rfl (Chg.refl _ _) rfl
          · simp only [List.getD_cons_succ, List.getD_cons_zero, List.setIfInBounds_toArray, List.set_cons_succ, List.set_cons_zero] at hK ⊢
            refine wpOp_at rfl rfl ?_
            go_simp
            exact hK _ _ _ rfl (Chg.refl _ _) rfl
          · simp only [List.getD_cons_succ, List.getD_cons_zero, List.setIfInBounds_toArray, List.set_cons_succ, List.set_cons_zero] at hK ⊢
            refine wpOp_at rfl rfl ?_
            go_simp
            exact hK _ _ _ rfl (Chg.refl _ _) rfl
          · have l5 := hdep 5 (by kernel_rfl)
            replace l5 : us 5 = .pointer (some ⟨B, 0, none⟩) := l5
            simp only [List.getD_cons_succ, List.getD_cons_zero, List.setIfInBounds_toArray, List.set_cons_succ, List.set_cons_zero, l5] at hK ⊢
            refine wpOp_at rfl rfl ?_
            go_simp
            exact hK _ _ _ rfl (Chg.refl _ _) rfl
          · have l6 := hdep 6 (by kernel_rfl)
            replace l6 : us 6 = .pointer (some ⟨B, 0, none⟩) := l6
            simp only [List.getD_cons_succ, List.getD_cons_zero, List.setIfInBounds_toArray, List.set_cons_succ, List.set_cons_zero, l6] at hK ⊢
            refine wpOp_at rfl rfl ?_
            go_simp
            exact hK _ _ _ rfl (Chg.refl _ _) rfl
          · have l7 := hdep 7 (by kernel_rfl)
            replace l7 : us 7 = .pointer (some ⟨B, 0, none⟩) := l7
            simp only [List.getD_cons_succ, List.getD_cons_zero, List.setIfInBounds_toArray, List.set_cons_succ, List.set_cons_zero, l7] at hK ⊢
            refine wpOp_at rfl rfl ?_
            go_simp
            exact hK _ _ _ rfl (Chg.refl _ _) rfl
          · simp only [List.getD_cons_succ, List.getD_cons_zero, List.setIfInBounds_toArray, List.set_cons_succ, List.set_cons_zero] at hK ⊢
            refine wpOp_at rfl rfl ?_
            go_simp
            exact hK _ _ _ rfl (Chg.refl _ _) rfl
          · have l8 := hdep 8 (by kernel_rfl)
            replace l8 : us 8 = .slice (some ⟨G, 0, none⟩) n c := l8
            have l9 := hdep 9 (by kernel_rfl)
            replace l9 : us 9 = .int .i64 i := l9
            simp only [List.getD_cons_succ, List.getD_cons_zero, List.setIfInBounds_toArray, List.set_cons_succ, List.set_cons_zero, l8, l9] at hK ⊢
            refine wpOp_at rfl rfl ?_
            go_simp
            exact hK _ _ _ rfl (Chg.refl _ _) rfl
          · have l10 := hdep 10 (by kernel_rfl)
            replace l10 : us 10 = .pointer (some ⟨G, i * 5, none⟩) := l10
            simp only [List.getD_cons_succ, List.getD_cons_zero, List.setIfInBounds_toArray, List.set_cons_succ, List.set_cons_zero, l10] at hK ⊢
            refine wpOp_at rfl rfl ?_
            go_simp
            exact hK _ _ _ rfl (Chg.refl _ _) rfl
          · have l11 := hdep 11 (by kernel_rfl)
            replace l11 : us 11 = .pointer (some ⟨G, i * 5 + 2, none⟩) := l11
            simp only [List.getD_cons_succ, List.getD_cons_zero, List.setIfInBounds_toArray, List.set_cons_succ, List.set_cons_zero, l11] at hK ⊢
            refine wpOp_at rfl rfl ?_
            go_simp
            exact hK _ _ _ rfl (Chg.refl _ _) rfl
          · simp only [List.getD_cons_succ, List.getD_cons_zero, List.setIfInBounds_toArray, List.set_cons_succ, List.set_cons_zero] at hK ⊢
            refine wpOp_at rfl rfl ?_
            go_simp
            exact hK _ _ _ rfl (Chg.refl _ _) rfl
          · have l12 := hdep 12 (by kernel_rfl)
            replace l12 : us 12 = .slice ta tch.length tc := l12
            have l13 := hdep 13 (by kernel_rfl)
            replace l13 : us 13 = .int .i64 r := l13
            simp only [List.getD_cons_succ, List.getD_cons_zero, List.setIfInBounds_toArray, List.set_cons_succ, List.set_cons_zero, l12, l13] at hK ⊢
            refine wpOp_at rfl rfl ?_
            go_simp
            refine (addD_any W ta tc tch (HS.out.1.chg0 hC) (HQ.out.1.chg0 hC).ban HS.out.2.1 r).mono ?_
            rintro e wz ⟨a40, c40, rfl, f40, hz⟩
            exact hK _ _ _ rfl hz ⟨a40, c40, rfl, f40⟩
          · have l3 := hdep 3 (by kernel_rfl)
            replace l3 : us 3 = .slice (some ⟨G, 0, none⟩) n c := l3
            have l4 := hdep 4 (by kernel_rfl)
            replace l4 : us 4 = .int .i64 i := l4
            simp only [List.getD_cons_succ, List.getD_cons_zero, List.setIfInBounds_toArray, List.set_cons_succ, List.set_cons_zero, l3, l4] at hK ⊢
            refine wpOp_at rfl rfl ?_
            go_simp
            exact hK _ _ _ rfl (Chg.refl _ _) rfl
          · have l15 := hdep 15 (by kernel_rfl)
            replace l15 : us 15 = .pointer (some ⟨G, i * 5, none⟩) := l15
            simp only [List.getD_cons_succ, List.getD_cons_zero, List.setIfInBounds_toArray, List.set_cons_succ, List.set_cons_zero, l15] at hK ⊢
            refine wpOp_at rfl rfl ?_
            go_simp
            exact hK _ _ _ rfl (Chg.refl _ _) rfl
        case hdone8 =>
          intro us W hC hall
          have l0 := hall 0 (by decide)
          replace l0 : us 0 = .pointer (some ⟨B, 0, none⟩) := l0
          have l1 := hall 1 (by decide)
          replace l1 : us 1 = .pointer (some ⟨B, 0, none⟩) := l1
          have l2 := hall 2 (by decide)
          replace l2 : us 2 = .pointer (some ⟨B, 0, none⟩) := l2
          have l3 := hall 3 (by decide)
          replace l3 : us 3 = .slice (some ⟨G, 0, none⟩) n c := l3
          have l4 := hall 4 (by decide)
          replace l4 : us 4 = .int .i64 i := l4
          have l5 := hall 5 (by decide)
          replace l5 : us 5 = .pointer (some ⟨B, 0, none⟩) := l5
          have l6 := hall 6 (by decide)
          replace l6 : us 6 = .pointer (some ⟨B, 0, none⟩) := l6
          have l7 := hall 7 (by decide)
          replace l7 : us 7 = .pointer (some ⟨B, 0, none⟩) := l7
          have l8 := hall 8 (by decide)
          replace l8 : us 8 = .slice (some ⟨G, 0, none⟩) n c := l8
          have l9 := hall 9 (by decide)
          replace l9 : us 9 = .int .i64 i := l9
          have l10 := hall 10 (by decide)
          replace l10 : us 10 = .pointer (some ⟨G, i * 5, none⟩) := l10
          have l11 := hall 11 (by decide)
          replace l11 : us 11 = .pointer (some ⟨G, i * 5 + 2, none⟩) := l11
          have l12 := hall 12 (by decide)
          replace l12 : us 12 = .slice ta tch.length tc := l12
          have l13 := hall 13 (by decide)
          replace l13 : us 13 = .int .i64 r := l13
          have l14 := hall 14 (by decide)
          obtain ⟨a40, c40, l14, p14⟩ := l14
          have l15 := hall 15 (by decide)
          replace l15 : us 15 = .pointer (some ⟨G, i * 5, none⟩) := l15
          have l16 := hall 16 (by decide)
          replace l16 : us 16 = .pointer (some ⟨G, i * 5 + 2, none⟩) := l16
          simp only [actU, Act.put, List.setIfInBounds_toArray, List.set_cons_succ, List.set_cons_zero, Nat.reduceAdd, l0, l1, l2, l3, l4, l5, l6, l7, l8, l9, l10, l11, l12, l13, l14, l15, l16]
          clear hall l0 l1 l2 l3 l4 l5 l6 l7 l8 l9 l10 l11 l12 l13 l14 l15 l16
          obtain ⟨hiL, hiF, e1, e2⟩ := HX.out
          have hqW := HQ.out.1.chg0 hC
          obtain ⟨G', eG, -, -, -, -, y2, -, -, yf, -, -⟩ := hqW.at hiL
          cases eG
          have f2 := yf (i * 5 + 2)
          rw [← e1] at y2
          have hin2 := (hqW.rows _ (List.getElem_mem hiL)).2
          rw [← e1] at hin2
          have hput := hqW.put hiL (r := 2) (by decide) (y := ⟨⟨rule, place, addS tch r, inv, tnt⟩, a40, c40, ia, ic⟩) (v := .slice a40 (addS tch r).length c40) (by rw [← e1]; rfl) ⟨p14, hin2⟩
          have HP := Lib.hid (And.intro hput hC)
          simp only at y2
          clear hqW hin2 hput hC p14 e1 e2 hiL hiF yf
          refine wpOp_at rfl rfl ?_
          go_simp
          go_wp2_with fail
          go_roundg (n - (i + 1))
          case measure => omega
          case rel =>
            obtain ⟨hiL, hiF, e1, e2⟩ := HX.out
            refine ⟨i + 1, rfl, by omega, by go_num, Lib.hid ⟨_, ?_, HP.out.1.1, ?_, ?_⟩⟩
            · rw [List.length_set]; exact HQ.out.2.1
            · rw [rfs_set, HQ.out.2.2.1, tlF_succ p r hiF, ← e2]
              congr 1
              simp [touchF, HS.out.2.2.2.2, addL]
            · exact (HQ.out.2.2.2.tr HP.out.2.any).tr (HP.out.1.2.mono (fun j hj => .inl (by simp only [List.mem_singleton] at hj; subst hj; simp [fpR, Value.ownBlock])))
      · clear hq hll hl' hcq hx hiL hiF hfx hrow hlen zf hcur z2
        go_wp2_with fail
        go_roundg (n - (i + 1))
        case measure => omega
        case rel =>
          obtain ⟨hiL, hiF, e1, e2⟩ := HX.out
          refine ⟨i + 1, rfl, by omega, by go_num, Lib.hid ⟨l', HQ.out.2.1, HQ.out.1, ?_, HQ.out.2.2.2⟩⟩
          rw [HQ.out.2.2.1, tlF_succ p r hiF, ← e2]
          have e9 : touchF p [r] ⟨rule, place, tch, inv, tnt⟩ = (tlF p r i (rfs l))[i]'(by rw [tlF_len]; exact hiF) := by
            rw [tlF_get p r hiF, ← e2]
            simp [touchF, hpl]
          rw [e9, List.set_getElem_self]
    · obtain rfl : i = n := by omega
      have HF := Lib.hid (And.intro hll (And.intro hq (And.intro hl' hcq)))
      clear hll hq hl' hcq
      go_wp2_with fail
      refine bodyPost_ret (v := .tuple #[]) (by simp [results, Try.results50, go_sem]) rfl ?_
      refine ⟨rfl, l', HF.out.1, HF.out.2.1, ?_, HF.out.2.2.2⟩
      rw [HF.out.2.2.1]
      unfold tlF touchS
      rw [List.take_of_length_le (by rw [rfs_len]; have := H.out.2.1; omega), List.drop_eq_nil_of_le (by rw [rfs_len]; have := H.out.2.1; omega), List.append_nil]
end Go.Proofs.Ytnajhcoimohcaaa

/-
  Layer 14, plain: the rules in their order: each stands once; whom one calls stands ahead, or goes left with it; those of a part stand side by side.
  Conditions: none.
-/
import Derived.Test.YtlklmpjakeedcaaGreatDoorSOrSoG0
import Derived.Test.YtlklmpjakeedcaaGreatDoorSOrCpO2
set_option linter.unusedVariables false
set_option linter.unusedSimpArgs false
set_option linter.unnecessarySimpa false
namespace Go.Proofs.YtlklmpjakeedcaaGreatDoor
open Go.RowKit Go.MapKept Go.Shelf

/-! ### Lists laid end to end -/
def offL (P : List (List Nat)) (p : Nat) : Nat := ((P.take p).map List.length).sum
theorem offL_succ (P : List (List Nat)) {p : Nat} (h : p < P.length) : offL P (p + 1) = offL P p + P[p].length := by
  unfold offL
  rw [List.take_succ_eq_append_getElem h, List.map_append, List.sum_append]; rfl
theorem offL_le (P : List (List Nat)) {p q : Nat} (h : p ≤ q) : offL P p ≤ offL P q := by
  induction q with
  | zero => rw [show p = 0 by omega]; exact Nat.le_refl _
  | succ q ih =>
    rcases Nat.lt_or_ge p (q + 1) with h1 | h1
    · have h2 := ih (by omega)
      by_cases hq : q < P.length
      · rw [offL_succ P hq]; omega
      · have : offL P (q + 1) = offL P q := by
          unfold offL
          rw [List.take_of_length_le (by omega), List.take_of_length_le (by omega)]
        omega
    · rw [show p = q + 1 by omega]; exact Nat.le_refl _
theorem flat_at : ∀ (P : List (List Nat)) {p k : Nat} (hp : p < P.length) (hk : k < P[p].length), P.flatten[offL P p + k]? = some P[p][k]
  | [], p, k, hp, hk => absurd hp (Nat.not_lt_zero _)
  | l :: P, 0, k, hp, hk => by
    simp only [List.flatten_cons, offL, List.take_zero, List.map_nil, List.sum_nil, Nat.zero_add, List.getElem_cons_zero] at hk ⊢
    rw [List.getElem?_append_left hk, List.getElem?_eq_getElem hk]
  | l :: P, p + 1, k, hp, hk => by
    have h1 : p < P.length := by simpa using hp
    have ih := flat_at P h1 (k := k) (by simpa using hk)
    have h2 : offL (l :: P) (p + 1) = l.length + offL P p := by unfold offL; simp
    rw [List.flatten_cons, h2, List.getElem?_append_right (by omega), show l.length + offL P p + k - l.length = offL P p + k by omega, ih]
    simp

structure FlatOk (n : Nat) (P : List (List Nat)) : Prop where
  nodup : P.flatten.Nodup
  mem : ∀ a, a ∈ P.flatten ↔ a < n
  len : P.flatten.length = n
theorem flat_ok {G : List (List Nat)} {P : List (List Nat)} (h : Cp.Told G P) : FlatOk G.length P := by
  have hrow : ∀ l ∈ P, ∃ p, ∃ hp : p < P.length, l = P[p] := fun l hl => by
    obtain ⟨p, hp, e⟩ := List.getElem_of_mem hl
    exact ⟨p, hp, e.symm⟩
  have hnd : P.flatten.Nodup := by
    rw [List.Nodup, List.pairwise_flatten]
    refine ⟨fun l hl => ?_, ?_⟩
    · obtain ⟨p, hp, rfl⟩ := hrow l hl
      rw [h.rows p hp]
      exact List.nodup_range.sublist List.filter_sublist
    · rw [List.pairwise_iff_getElem]
      intro i j hi hj hij x hx y hy e
      subst e
      have h1 := (Cp.told_place h hi (a := x) (by simpa [hi] using hx)).1
      have h2 := (Cp.told_place h hj (a := x) (by simpa [hj] using hy)).1
      omega
  have hmem : ∀ a, a ∈ P.flatten ↔ a < G.length := fun a => by
    rw [List.mem_flatten]
    constructor
    · rintro ⟨l, hl, ha⟩
      obtain ⟨p, hp, rfl⟩ := hrow l hl
      exact (Cp.told_place h hp (a := a) (by simpa [hp] using ha)).2
    · intro ha
      obtain ⟨h0, h1⟩ := h.place a ha
      have hp : (Cp.placeR P a).toNat < P.length := by omega
      refine ⟨P[(Cp.placeR P a).toNat], List.getElem_mem hp, ?_⟩
      rw [h.rows _ hp, List.mem_filter]
      exact ⟨List.mem_range.2 ha, decide_eq_true (by omega)⟩
  refine ⟨hnd, hmem, ?_⟩
  have hp : P.flatten.Perm (List.range G.length) := (List.perm_ext_iff_of_nodup hnd List.nodup_range).2 (fun a => by rw [hmem, List.mem_range])
  rw [hp.length_eq, List.length_range]
/-- The place of a number in the order. -/
def posN (P : List (List Nat)) (a : Nat) : Nat := P.flatten.idxOf a
theorem pos_at {n : Nat} {P : List (List Nat)} (h : FlatOk n P) {j : Nat} (hj : j < P.flatten.length) : posN P P.flatten[j] = j := h.nodup.idxOf_getElem j hj
theorem pos_row {n : Nat} {P : List (List Nat)} (h : FlatOk n P) {p k : Nat} (hp : p < P.length) (hk : k < P[p].length) : posN P P[p][k] = offL P p + k := by
  have h1 := flat_at P hp hk
  obtain ⟨h2, h3⟩ := List.getElem?_eq_some_iff.1 h1
  rw [← h3]
  exact pos_at h h2

section
variable {X : List (List Int)}
def pX (X : List (List Int)) : List (List Nat) := Cp.partsR (Cp.toG X)
theorem order_nat (h : Cp.rightI X = true) : orderI X = natI (pX X).flatten := by
  unfold orderI Cp.partsI pX natI
  rw [h, if_pos rfl]
  unfold Cp.intsG
  rw [List.map_flatten]
theorem order_ok (h : Cp.rightI X = true) : FlatOk X.length (pX X) := by
  have := flat_ok (Cp.told (Cp.right_RG h))
  rw [Cp.toG_len] at this
  exact this
theorem edge_pos (h : Cp.rightI X = true) {i b : Nat} (hi : i < X.length) (hb : b ∈ Cp.row (Cp.toG X) i) : posN (pX X) b < posN (pX X) i ∨ (withOf X i).contains (b : Int) = true := by
  have hG := Cp.right_RG h
  have hT := Cp.told hG
  have hbn := hG.lt i b hb
  have hin : i < (Cp.toG X).length := by rw [Cp.toG_len]; exact hi
  obtain ⟨i0, i1⟩ := hT.place i hin
  obtain ⟨b0, b1⟩ := hT.place b hbn
  have hd := hT.down i hin b hb
  by_cases he : Cp.placeR (Cp.partsR (Cp.toG X)) b = Cp.placeR (Cp.partsR (Cp.toG X)) i
  · right
    have hrr := (hT.same b i hbn hin).1 he
    have hring : Cp.ringI X i = true := (Cp.ringI_nat h hi).2 ⟨b, hb, hrr.1⟩
    rw [with_of hi, sort_none h hi, hring, if_neg (by decide), List.contains_iff_mem]
    obtain ⟨p, _, _, _, _, hm⟩ := so_part h hi
    exact (hm b).2 ⟨b, rfl, by rw [Cp.toG_len] at hbn; exact hbn, hrr.2, hrr.1⟩
  · left
    have hF := order_ok h
    obtain ⟨pi, hpi⟩ : ∃ p, p = (Cp.placeR (Cp.partsR (Cp.toG X)) i).toNat := ⟨_, rfl⟩
    obtain ⟨pb, hpb⟩ : ∃ p, p = (Cp.placeR (Cp.partsR (Cp.toG X)) b).toNat := ⟨_, rfl⟩
    have hpil : pi < (pX X).length := by unfold pX; omega
    have hpbl : pb < (pX X).length := by unfold pX; omega
    have mi : i ∈ (pX X)[pi] := by
      show i ∈ (Cp.partsR (Cp.toG X))[pi]
      rw [hT.rows pi hpil, List.mem_filter]
      exact ⟨List.mem_range.2 hin, decide_eq_true (by omega)⟩
    have mb : b ∈ (pX X)[pb] := by
      show b ∈ (Cp.partsR (Cp.toG X))[pb]
      rw [hT.rows pb hpbl, List.mem_filter]
      exact ⟨List.mem_range.2 hbn, decide_eq_true (by omega)⟩
    obtain ⟨ki, hki, ei⟩ := List.getElem_of_mem mi
    obtain ⟨kb, hkb, eb⟩ := List.getElem_of_mem mb
    have e1 := pos_row hF hpil hki
    have e2 := pos_row hF hpbl hkb
    rw [ei] at e1
    rw [eb] at e2
    have h1 := offL_le (pX X) (p := pb + 1) (q := pi) (by omega)
    rw [offL_succ _ hpbl] at h1
    omega
/-- The rules that go left with one stand side by side, rising. -/
theorem with_pos (h : Cp.rightI X = true) {i : Nat} (hi : i < X.length) : ∃ W : List Nat, withOf X i = natI W ∧ (∀ a ∈ W, a < X.length) ∧ ∀ k (hk : k + 1 < W.length), posN (pX X) W[k + 1] = posN (pX X) W[k] + 1 ∧ W[k] < W[k + 1] := by
  have hG := Cp.right_RG h
  have hT := Cp.told hG
  have hF := order_ok h
  rw [with_of hi]
  cases hz : sortI X i == 0
  · obtain ⟨p, hpi, hpl, hw, _, _⟩ := so_part h hi
    have hp : p < (pX X).length := by unfold pX; unfold Cp.partsI at hpl; rwa [h, if_pos rfl, Cp.intsG_len] at hpl
    refine ⟨(pX X)[p], ?_, fun a ha => ?_, fun k hk => ?_⟩
    · rw [if_neg (by decide), hw]
      unfold Cp.partsI natI
      rw [h, if_pos rfl]
      unfold Cp.intsG
      have hp' : p < (Cp.partsR (Cp.toG X)).length := hp
      simp [List.getD, List.getElem?_map, hp', pX]
    · have := (Cp.told_place hT hp (a := a) (by
        have hp' : p < (Cp.partsR (Cp.toG X)).length := hp
        simpa [hp', pX] using ha)).2
      rwa [Cp.toG_len] at this
    · refine ⟨by rw [pos_row hF hp hk, pos_row hF hp (by omega)]; omega, ?_⟩
      have hr : ((pX X)[p]).Pairwise (· < ·) := by
        show ((Cp.partsR (Cp.toG X))[p]).Pairwise (· < ·)
        rw [hT.rows p hp]
        exact Cp.rise_filter _ _
      exact List.pairwise_iff_getElem.1 hr k (k + 1) (by omega) hk (by omega)
  · exact ⟨[], rfl, by simp, fun k hk => absurd hk (by simp)⟩
end
/-- What is told of the places, some of the order gone through. -/
def atF (P : List (List Nat)) (i : Nat) : Nat → Int := fun a => if posN P a < i then (posN P a : Int) + 1 else 0
theorem atF_zero (P : List (List Nat)) : atF P 0 = fun _ => 0 := by funext a; unfold atF; simp
theorem atF_succ {n : Nat} {P : List (List Nat)} (h : FlatOk n P) {i : Nat} (hi : i < P.flatten.length) : ∀ a, a < n → atF P (i + 1) a = Cp.upd (atF P i) P.flatten[i] ((i : Int) + 1) a := by
  intro a ha
  unfold atF Cp.upd
  by_cases he : a = P.flatten[i]
  · rw [if_pos he, he, pos_at h hi, if_pos (by omega)]
  · rw [if_neg he]
    have hne : posN P a ≠ i := fun e => he (by
      have hm := (h.mem a).2 ha
      have := List.getElem_idxOf (List.idxOf_lt_length_iff.2 hm)
      unfold posN at e
      simp only [e] at this
      exact this.symm)
    by_cases hl : posN P a < i
    · show _ = if posN P a < i then (posN P a : Int) + 1 else 0
      rw [if_pos (by omega), if_pos hl]
    · show _ = if posN P a < i then (posN P a : Int) + 1 else 0
      rw [if_neg (by omega), if_neg hl]
theorem atF_fresh {n : Nat} {P : List (List Nat)} (h : FlatOk n P) {i : Nat} (hi : i < P.flatten.length) : atF P i P.flatten[i] = 0 := by
  unfold atF
  rw [pos_at h hi, if_neg (by omega)]
theorem atF_all {n : Nat} {P : List (List Nat)} (h : FlatOk n P) {a : Nat} (ha : a < n) : atF P n a = (posN P a : Int) + 1 := by
  unfold atF
  rw [if_pos]
  have := List.idxOf_lt_length_iff.2 ((h.mem a).2 ha)
  rw [h.len] at this
  exact this
theorem rowZ_congr {w : World} {b n : Nat} {f g : Nat → Int} (h : w.heap[b]? = some (rowI ((List.range n).map f))) (hfg : ∀ j, j < n → f j = g j) : w.heap[b]? = some (rowI ((List.range n).map g)) := by
  rw [h]; congr 2; exact List.map_congr_left fun j hj => hfg j (List.mem_range.1 hj)
end Go.Proofs.YtlklmpjakeedcaaGreatDoor

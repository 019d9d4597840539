/-
  Layer 12: how many there are; whether a row has a number; the walk goes to just those that are led to.
  Conditions: none.
-/
import Derived.Test.YtlklmpjakeedcaaGreatDoorSOrLfJ
import Derived.Test.YtlklmpjakeedcaaGreatDoorSOrCpE
set_option linter.unusedVariables false
set_option linter.unusedSimpArgs false
set_option linter.unnecessarySimpa false
namespace Go.Proofs.YtlklmpjakeedcaaGreatDoor
open Go.RowKit Go.MapKept Go.Shelf

/-! ### Whom one leads to -/
inductive Tr (G : List (List Int)) : Nat → Nat → Prop
  | one {i k : Nat} (h : (k : Int) ∈ G.getD i []) : Tr G i k
  | step {i z k : Nat} (h : (z : Int) ∈ G.getD i []) (t : Tr G z k) : Tr G i k
theorem Tr.snoc {G : List (List Int)} {i z k : Nat} (t : Tr G i z) (h : (k : Int) ∈ G.getD z []) : Tr G i k := by
  induction t with
  | one h1 => exact .step h1 (.one h)
  | step h1 _ ih => exact .step h1 (ih h)
theorem Tr.last {G : List (List Int)} {i k : Nat} (t : Tr G i k) : (k : Int) ∈ G.getD i [] ∨ ∃ z, Tr G i z ∧ (k : Int) ∈ G.getD z [] := by
  induction t with
  | one h1 => exact .inl h1
  | step h1 _ ih =>
    rcases ih with h | ⟨z, h2, h3⟩
    · exact .inr ⟨_, .one h1, h⟩
    · exact .inr ⟨z, .step h1 h2, h3⟩
def rulesOf (st : Bst) : List Int := st.2.map (·.1)
theorem on1_rules {n : Nat} {st : Bst} (h : BstOk n st) (fr : Int) {z : Int} (h0 : 0 ≤ z) : ∀ x, x ∈ rulesOf (on1 fr z st) ↔ x ∈ rulesOf st ∨ x = z := by
  obtain ⟨q, rfl⟩ : ∃ q : Nat, z = q := ⟨z.toNat, by omega⟩
  intro x
  unfold on1
  rw [Int.toNat_natCast]
  by_cases hm : st.1.getD q false = true
  · rw [if_pos hm]
    have := (h.met q).1 hm
    constructor
    · exact fun h => .inl h
    · rintro (h | rfl)
      · exact h
      · exact this
  · rw [if_neg hm]
    simp [rulesOf]
theorem onL_rules {n : Nat} (fr : Int) : ∀ (zs : List Int) {st : Bst}, BstOk n st → (∀ z ∈ zs, 0 ≤ z ∧ z < n) → ∀ x, x ∈ rulesOf (onL fr zs st) ↔ x ∈ rulesOf st ∨ x ∈ zs := by
  intro zs
  induction zs with
  | nil => intro st h _ x; simp [onL]
  | cons z zs ih =>
    intro st h hz x
    have h1 := hz z (by simp)
    rw [onL, ih (on1_ok h fr h1.1 h1.2) (fun y hy => hz y (by simp [hy])) x, on1_rules h fr h1.1 x]
    simp only [List.mem_cons, or_assoc]
theorem on1_prefix (fr z : Int) (st : Bst) : st.2 <+: (on1 fr z st).2 := by
  unfold on1
  split
  · exact List.prefix_refl _
  · exact List.prefix_append _ _
theorem onL_prefix (fr : Int) : ∀ (zs : List Int) (st : Bst), st.2 <+: (onL fr zs st).2 := by
  intro zs
  induction zs with
  | nil => intro st; exact List.prefix_refl _
  | cons z zs ih => intro st; exact (on1_prefix fr z st).trans (ih _)
/-- The walk ends closed, and with those alone that are led to. -/
theorem walkF_closed {n : Nat} {G : List (List Int)} (hG : GraphOk n G) (i : Nat) : ∀ (d k : Nat) (st : Bst), n - k ≤ d → BstOk n st →
    (∀ x ∈ G.getD i [], x ∈ rulesOf st) → (∀ r : Nat, (r : Int) ∈ rulesOf st → Tr G i r) → (∀ j (h : j < st.2.length), j < k → ∀ x ∈ G.getD st.2[j].1.toNat [], x ∈ rulesOf st) →
    (∀ x ∈ G.getD i [], x ∈ rulesOf (walkF G 33 k st)) ∧ (∀ r : Nat, (r : Int) ∈ rulesOf (walkF G 33 k st) → Tr G i r) ∧ (∀ r : Nat, (r : Int) ∈ rulesOf (walkF G 33 k st) → ∀ x ∈ G.getD r [], x ∈ rulesOf (walkF G 33 k st)) := by
  intro d
  induction d with
  | zero =>
    intro k st hd hok h1 h2 h3
    have hle : st.2.length ≤ k := by have := hok.few_steps; omega
    rw [walkF_end hle]
    refine ⟨h1, h2, fun r hr => ?_⟩
    obtain ⟨s, hs, hsr⟩ := List.mem_map.1 hr
    obtain ⟨j, hj, rfl⟩ := List.mem_iff_getElem.1 hs
    have := h3 j hj (by omega)
    rw [hsr] at this
    exact this
  | succ d ih =>
    intro k st hd hok h1 h2 h3
    by_cases hk : k < st.2.length
    · rw [walkF_next hG hok hk]
      have hrow := hG.at (st.2[k]).1.toNat
      have hr := onL_rules (k : Int) _ hok hrow
      have hpre := onL_prefix (k : Int) (G.getD (st.2[k]).1.toNat []) st
      have hnr := hok.rules _ (List.getElem_mem hk)
      obtain ⟨rk, hrk⟩ : ∃ rk : Nat, (st.2[k]).1 = rk := ⟨(st.2[k]).1.toNat, by omega⟩
      refine ih (k + 1) _ (by have := hok.few_steps; omega) (onL_ok _ _ hok hrow) (fun x hx => (hr x).2 (.inl (h1 x hx))) (fun r hr2 => ?_) (fun j hj hjk x hx => ?_)
      · rcases (hr _).1 hr2 with h | h
        · exact h2 r h
        · refine (h2 rk ?_).snoc (by rw [hrk, Int.toNat_natCast] at h; exact h)
          rw [← hrk]
          exact List.mem_map_of_mem (List.getElem_mem hk)
      · by_cases hjl : j < st.2.length
        · have e : (onL (k : Int) (G.getD (st.2[k]).1.toNat []) st).2[j] = st.2[j] := (hpre.getElem hjl).symm
          rw [e] at hx
          by_cases e2 : j = k
          · subst e2
            exact (hr x).2 (.inr hx)
          · exact (hr x).2 (.inl (h3 j hjl (by omega) x hx))
        · omega
    · have hle : st.2.length ≤ k := by omega
      rw [walkF_end hle]
      refine ⟨h1, h2, fun r hr => ?_⟩
      obtain ⟨s, hs, hsr⟩ := List.mem_map.1 hr
      obtain ⟨j, hj, rfl⟩ := List.mem_iff_getElem.1 hs
      have := h3 j hj (by omega)
      rw [hsr] at this
      exact this
theorem walkL_iff {n : Nat} {G : List (List Int)} (hG : GraphOk n G) (i r : Nat) : (r : Int) ∈ rulesOf (walkL G i) ↔ Tr G i r := by
  have h0 := bst_start hG.few
  have hr := onL_rules (-1) _ h0 (hG.at i)
  have hs : ∀ x, x ∉ rulesOf start0 := fun x h => by simp [rulesOf, start0] at h
  obtain ⟨c1, c2, c3⟩ := walkF_closed hG i n 0 _ (by omega) (onL_ok (-1) _ h0 (hG.at i)) (fun x hx => (hr x).2 (.inr hx)) (fun r hr2 => by
    rcases (hr _).1 hr2 with h | h
    · exact absurd h (hs _)
    · exact .one h) (fun j hj hj0 => by omega)
  have key : ∀ z : Nat, (z : Int) ∈ rulesOf (walkL G i) → Tr G z r → (r : Int) ∈ rulesOf (walkL G i) := by
    intro z hz t
    induction t with
    | one h => exact c3 _ hz _ h
    | step h _ ih => exact ih (c3 _ hz _ h)
  refine ⟨c2 r, fun t => ?_⟩
  cases t with
  | one h => exact c1 _ h
  | step h t => exact key _ (c1 _ h) t
theorem walkL_met {n : Nat} {G : List (List Int)} (hG : GraphOk n G) (i r : Nat) : (walkL G i).1.getD r false = true ↔ Tr G i r := by
  rw [(walkL_ok hG i).met r]
  exact walkL_iff hG i r
/-! ### The told, by whom is led to -/
theorem pickB_mem {bs : List Bool} {m : Nat} : (m : Int) ∈ pickB bs ↔ bs.getD m false = true := by
  simp only [pickB, pickL, List.mem_map, List.mem_filter, List.mem_range]
  constructor
  · rintro ⟨q, ⟨h1, h2⟩, h3⟩
    obtain rfl : q = m := by omega
    exact h2
  · intro h
    by_cases hm : m < bs.length
    · exact ⟨m, ⟨hm, h⟩, rfl⟩
    · rw [List.getD, List.getElem?_eq_none (by omega)] at h
      cases h
theorem toL_mem {g : Gr} (hr : rightB g = true) {i : Nat} (hi : i < g.rules.length) (m : Nat) : (m : Int) ∈ toL g i ↔ Tr (graphG g) i m := by
  rw [toL, if_pos (show inR g i from ⟨by omega, by omega, hr⟩), pickB_mem, Int.toNat_natCast]
  exact walkL_met (graph_ok hr) i m
theorem goesB_iff {g : Gr} (hr : rightB g = true) {i : Nat} (hi : i < g.rules.length) : goesB g i = true ↔ Tr (graphG g) i i := by
  rw [goesB, decide_eq_true (show inR g i from ⟨by omega, by omega, hr⟩), Bool.true_and, Int.toNat_natCast]
  exact walkL_met (graph_ok hr) i i
theorem tr_lt {n : Nat} {G : List (List Int)} (hG : GraphOk n G) {i k : Nat} (t : Tr G i k) : k < n := by
  induction t with
  | one h => have := hG.at _ _ h; omega
  | step _ _ ih => exact ih
theorem toL_in {g : Gr} {i z : Int} (h : z ∈ toL g i) : ∃ q : Nat, z = q ∧ (rightB g = true → q < g.rules.length) := by
  by_cases hin : inR g i
  · rw [toL, if_pos hin] at h
    obtain ⟨q, rfl, h1, h2⟩ := pickL_in h
    refine ⟨q, rfl, fun hr => ?_⟩
    exact tr_lt (graph_ok hr) ((walkL_met (graph_ok hr) i.toNat q).1 h2)
  · rw [toL, if_neg hin] at h
    cases h
theorem toL_len (g : Gr) (i : Int) : (toL g i).length ≤ 32 := by
  unfold toL
  split
  · rename_i h
    have := pickL_le (walkL (graphG g) i.toNat).1.length (fun k => (walkL (graphG g) i.toNat).1.getD k false)
    have h2 := (walkL_ok (graph_ok h.2.2) i.toNat).len
    unfold pickB
    omega
  · simp
end Go.Proofs.YtlklmpjakeedcaaGreatDoor
set_option linter.unusedVariables false
set_option linter.unusedSimpArgs false
set_option linter.unnecessarySimpa false
namespace Go.Proofs.YtlklmpjakeedcaaGreatDoor
open Go.RowKit Go.MapKept Go.Shelf

/-- The graph of a grammar is right. -/
theorem graph_rise (g : Gr) : ∀ zs ∈ graphG g, zs.Pairwise (· < ·) := by
  unfold graphG
  split
  · intro zs hz
    obtain ⟨r, _, rfl⟩ := List.mem_map.1 hz
    exact pickL_sorted _ _
  · intro zs hz; cases hz
theorem graph_right (g : Gr) : Cp.rightI (graphG g) = true := by
  cases hr : rightB g with
  | false => unfold graphG; rw [hr]; rfl
  | true =>
    have h := graph_ok hr
    rw [Cp.right_iff]
    refine ⟨by have := h.len; have := h.few; omega, fun l hl => ?_⟩
    exact ⟨fun b hb => by have := h.ins l hl b hb; rw [h.len]; exact this, graph_rise g l hl⟩
theorem graph_length (g : Gr) : (graphG g).length = if rightB g then g.rules.length else 0 := by
  unfold graphG
  cases rightB g <;> simp

def withI (X : List (List Int)) (i : Int) : List Int := (Cp.partsI X).getD (Cp.partI X i).toNat []
def itI (X : List (List Int)) (i : Int) : Bool := (X.getD i.toNat []).contains i
def othI (X : List (List Int)) (i : Int) : Bool := decide (1 < (withI X i).length)
def sortI (X : List (List Int)) (i : Int) : Int := if itI X i then (if othI X i then 3 else 1) else (if othI X i then 2 else 0)
def inX (X : List (List Int)) (i : Int) : Bool := decide (0 ≤ i) && decide (i < X.length)
def sortOf (X : List (List Int)) (i : Int) : Int := if inX X i then sortI X i else 0
def withOf (X : List (List Int)) (i : Int) : List Int := if inX X i && !(sortI X i == 0) then withI X i else []
def allI (X : List (List Int)) : List Int := (List.range X.length).map (fun (i : Nat) => sortI X i)
def freeI (X : List (List Int)) : Bool := decide (0 < X.length) && (List.range X.length).all (fun (i : Nat) => sortI X i == 0)
def orderI (X : List (List Int)) : List Int := (Cp.partsI X).flatten

theorem so_part {X : List (List Int)} (h : Cp.rightI X = true) {i : Nat} (hi : i < X.length) :
    ∃ p : Nat, Cp.partI X i = (p : Int) ∧ p < (Cp.partsI X).length ∧ withI X i = (Cp.partsI X).getD p [] ∧ (withI X i).Pairwise (· < ·) ∧ ∀ y : Int, y ∈ withI X i ↔ ∃ k : Nat, y = (k : Int) ∧ k < X.length ∧ Cp.Reach (Cp.toG X) i k ∧ Cp.Reach (Cp.toG X) k i := by
  have hG := Cp.right_RG h
  have hT := Cp.told hG
  obtain ⟨p, hp, e, hrow, hsame⟩ := Cp.told_row hT (a := i) (by rw [Cp.toG_len]; exact hi)
  have hpi : Cp.partI X i = (p : Int) := by
    unfold Cp.partI
    rw [h, Cp.numI_nat hi]
    simpa using e
  have hpl : p < (Cp.partsI X).length := by unfold Cp.partsI; rw [h, if_pos rfl, Cp.intsG_len]; exact hp
  have hw : withI X i = ((List.range (Cp.toG X).length).filter (fun i => decide (Cp.placeR (Cp.partsR (Cp.toG X)) i = (p : Int)))).map (fun (x : Nat) => (x : Int)) := by
    unfold withI
    rw [hpi, show ((p : Int)).toNat = p by omega, ← hrow]
    unfold Cp.partsI
    rw [h, if_pos rfl]
    unfold Cp.intsG
    rw [List.getD, List.getD, List.getElem?_map]
    cases (Cp.partsR (Cp.toG X))[p]? <;> rfl
  refine ⟨p, hpi, hpl, by unfold withI; rw [hpi]; rfl, ?_, fun y => ?_⟩
  · rw [hw, List.pairwise_map]
    exact ((List.pairwise_lt_range).sublist List.filter_sublist).imp (fun h => by omega)
  · rw [hw]
    simp only [List.mem_map, List.mem_filter, List.mem_range, decide_eq_true_eq, Cp.toG_len]
    constructor
    · rintro ⟨k, ⟨hk, e2⟩, rfl⟩
      exact ⟨k, rfl, hk, (hsame k (by rw [Cp.toG_len]; exact hk)).1 e2⟩
    · rintro ⟨k, rfl, hk, hr⟩
      exact ⟨k, ⟨hk, (hsame k (by rw [Cp.toG_len]; exact hk)).2 hr⟩, rfl⟩
theorem with_self {X : List (List Int)} (h : Cp.rightI X = true) {i : Nat} (hi : i < X.length) : (i : Int) ∈ withI X i := by
  obtain ⟨p, _, _, _, _, hm⟩ := so_part h hi
  exact (hm i).2 ⟨i, rfl, hi, .refl _, .refl _⟩
theorem with_len {X : List (List Int)} (h : Cp.rightI X = true) {i : Nat} (hi : i < X.length) : 1 ≤ (withI X i).length := List.length_pos_of_mem (with_self h hi)
theorem ring_or {X : List (List Int)} (h : Cp.rightI X = true) {i : Nat} (hi : i < X.length) : Cp.ringI X i = (othI X i || itI X i) := by
  have hs := self_row h hi
  unfold Cp.ringI Cp.ringR
  rw [h, Cp.numI_nat hi]
  simp only [Bool.true_and, Int.toNat_natCast]
  congr 1
  · unfold othI withI Cp.partI Cp.partsI
    rw [h, Cp.numI_nat hi]
    simp only [Bool.true_and, Int.toNat_natCast, if_true]
    unfold Cp.intsG
    congr 1
    rw [List.getD, List.getD, List.getElem?_map]
    cases (Cp.partsR (Cp.toG X))[(Cp.placeR (Cp.partsR (Cp.toG X)) i).toNat]? <;> simp
  · unfold itI
    rw [Int.toNat_natCast]; exact hs.symm
/-- The document's sort. -/
def sortR (X : List (List Int)) (i : Int) : Int := if Cp.ringI X i then (if (withI X i).length = 1 then 1 else if itI X i then 3 else 2) else 0
theorem sort_ref {X : List (List Int)} (h : Cp.rightI X = true) {i : Nat} (hi : i < X.length) : sortR X i = sortI X i := by
  have hl := with_len h hi
  unfold sortR sortI
  rw [ring_or h hi]
  cases hit : itI X i <;> cases ho : othI X i <;> simp [othI] at ho ⊢ <;> omega
theorem sort_in (X : List (List Int)) (i : Int) : 0 ≤ sortI X i ∧ sortI X i ≤ 3 := by
  unfold sortI; split <;> split <;> omega
end Go.Proofs.YtlklmpjakeedcaaGreatDoor
set_option linter.unusedVariables false
set_option linter.unusedSimpArgs false
set_option linter.unnecessarySimpa false
namespace Go.Proofs.YtlklmpjakeedcaaGreatDoor
open Go.RowKit Go.MapKept Go.Shelf

theorem row_in {X : List (List Int)} (h : Cp.rightI X = true) (i m : Nat) : (m : Int) ∈ X.getD i [] ↔ m ∈ Cp.row (Cp.toG X) i := by
  by_cases hi : i < X.length
  · rw [row_int h hi]
    constructor
    · rintro ⟨q, e, h1, _⟩
      obtain rfl : m = q := by omega
      exact h1
    · intro h1
      refine ⟨m, rfl, h1, ?_⟩
      have := (Cp.right_RG h).lt i m h1
      rwa [Cp.toG_len] at this
  · constructor
    · intro h1
      rw [List.getD, List.getElem?_eq_none (by omega)] at h1
      cases h1
    · intro h1
      have := Cp.row_lt h1
      rw [Cp.toG_len] at this
      omega
theorem tr_reach {X : List (List Int)} (h : Cp.rightI X = true) {i k : Nat} : Tr X i k ↔ ∃ m, m ∈ Cp.row (Cp.toG X) i ∧ Cp.Reach (Cp.toG X) m k := by
  constructor
  · intro t
    induction t with
    | one h1 => exact ⟨_, (row_in h _ _).1 h1, .refl _⟩
    | step h1 _ ih =>
      obtain ⟨m, hm, hr⟩ := ih
      exact ⟨_, (row_in h _ _).1 h1, .step hm hr⟩
  · rintro ⟨m, hm, hr⟩
    induction hr generalizing i with
    | refl a => exact .one ((row_in h _ _).2 hm)
    | step hb _ ih => exact .step ((row_in h _ _).2 hm) (ih hb)
theorem reach_tr {X : List (List Int)} (h : Cp.rightI X = true) {i k : Nat} (hne : k ≠ i) : Cp.Reach (Cp.toG X) i k ↔ Tr X i k := by
  rw [tr_reach h]
  constructor
  · intro hr
    cases hr with
    | refl => exact absurd rfl hne
    | step hm ht => exact ⟨_, hm, ht⟩
  · rintro ⟨m, hm, ht⟩
    exact .step hm ht
theorem sort_none {X : List (List Int)} (h : Cp.rightI X = true) {i : Nat} (hi : i < X.length) : (sortI X i == 0) = !(Cp.ringI X i) := by
  rw [ring_or h hi]
  unfold sortI
  cases itI X i <;> cases othI X i <;> rfl
theorem len_graph {g : Gr} (hr : rightB g = true) : (graphG g).length = g.rules.length := by rw [graph_length, if_pos hr]
theorem goes_sort {g : Gr} (hr : rightB g = true) {i : Nat} (hi : i < g.rules.length) : goesB g i = !(sortI (graphG g) i == 0) := by
  have hX := graph_right g
  have hi2 : i < (graphG g).length := by rw [len_graph hr]; exact hi
  rw [sort_none hX hi2, Bool.not_not, Bool.eq_iff_iff, goesB_iff hr hi, Cp.ringI_nat hX hi2, tr_reach hX]
theorem sort_direct (X : List (List Int)) (i : Int) : ((sortI X i == 1) || (sortI X i == 3)) = itI X i := by
  unfold sortI
  cases itI X i <;> cases othI X i <;> rfl
theorem with_of {X : List (List Int)} {i : Nat} (hi : i < X.length) : withOf X i = if sortI X i == 0 then [] else withI X i := by
  unfold withOf inX
  have h1 : decide ((0 : Int) ≤ (i : Int)) = true := decide_eq_true (by omega)
  have h2 : decide ((i : Int) < (X.length : Int)) = true := decide_eq_true (by omega)
  rw [h1, h2]
  cases sortI X i == 0 <;> rfl
theorem with_one {X : List (List Int)} (h : Cp.rightI X = true) {i : Nat} (hi : i < X.length) : (sortI X i == 1) = decide ((withOf X i).length = 1) := by
  have hl := with_len h hi
  rw [with_of hi]
  have ho : othI X i = decide (1 < (withI X i).length) := rfl
  unfold sortI
  rw [ho]
  by_cases h1 : 1 < (withI X i).length
  · cases itI X i <;> simp [h1] <;> omega
  · have h2 : (withI X i).length = 1 := by omega
    cases itI X i <;> simp [h2]
theorem with_none {X : List (List Int)} (h : Cp.rightI X = true) {i : Nat} (hi : i < X.length) : (sortI X i == 0) = decide ((withOf X i).length = 0) := by
  have hl := with_len h hi
  rw [with_of hi]
  cases sortI X i == 0
  · rw [if_neg (by decide)]
    exact (decide_eq_false (by omega)).symm
  · rfl
theorem with_goes {g : Gr} (hr : rightB g = true) {i k : Nat} (hi : i < g.rules.length) (hk : k < g.rules.length) (hg : goesB g i = true) :
    (withOf (graphG g) i).contains (k : Int) = (((k : Int) == (i : Int)) || ((toL g i).contains (k : Int) && (toL g k).contains (i : Int))) := by
  have hX := graph_right g
  have hi2 : i < (graphG g).length := by rw [len_graph hr]; exact hi
  have hk2 : k < (graphG g).length := by rw [len_graph hr]; exact hk
  have hs := goes_sort hr hi
  rw [hg] at hs
  have hz : (sortI (graphG g) i == 0) = false := by cases h : sortI (graphG g) i == 0 <;> simp [h] at hs ⊢
  rw [with_of hi2, hz, if_neg (by decide)]
  obtain ⟨p, _, _, _, _, hm⟩ := so_part hX hi2
  rw [Bool.eq_iff_iff]
  simp only [List.contains_iff_mem, Bool.or_eq_true, Bool.and_eq_true, beq_iff_eq]
  rw [hm, toL_mem hr hi, toL_mem hr hk]
  constructor
  · rintro ⟨q, e, hq, h1, h2⟩
    obtain rfl : k = q := by omega
    by_cases hne : k = i
    · exact .inl (by omega)
    · exact .inr ⟨(reach_tr hX hne).1 h1, (reach_tr hX (fun e => hne e.symm)).1 h2⟩
  · rintro (e | ⟨h1, h2⟩)
    · obtain rfl : k = i := by omega
      exact ⟨k, rfl, hk2, .refl _, .refl _⟩
    · by_cases hne : k = i
      · subst hne
        exact ⟨k, rfl, hk2, .refl _, .refl _⟩
      · exact ⟨k, rfl, hk2, (reach_tr hX hne).2 h1, (reach_tr hX (fun e => hne e.symm)).2 h2⟩
theorem with_few {X : List (List Int)} (h : Cp.rightI X = true) {i : Nat} (hi : i < X.length) : (withOf X i).length ≤ 64 := by
  obtain ⟨p, _, hp, hw, _, _⟩ := so_part h hi
  rw [with_of hi]
  split
  · simp
  · rw [hw]
    have hm : (Cp.partsI X).getD p [] ∈ Cp.partsI X := by
      rw [List.getD, List.getElem?_eq_getElem hp]
      exact List.getElem_mem hp
    have hG := Cp.right_RG h
    have hT := Cp.told hG
    unfold Cp.partsI at hm ⊢
    rw [h, if_pos rfl] at hm ⊢
    unfold Cp.intsG at hm ⊢
    obtain ⟨m, hmm, e⟩ := List.mem_map.1 hm
    rw [← e, List.length_map]
    obtain ⟨q, hq, rfl⟩ := List.getElem_of_mem hmm
    rw [hT.rows q hq]
    have := List.length_filter_le (fun i => decide (Cp.placeR (Cp.partsR (Cp.toG X)) i = (q : Int))) (List.range (Cp.toG X).length)
    have := hG.few
    rw [List.length_range] at *
    omega
/-- No rule ahead of a place goes left. -/
def noGo (g : Gr) (i : Nat) : Bool := (List.range i).all (fun j => !goesB g j)
theorem noGo_succ (g : Gr) (i : Nat) : noGo g (i + 1) = (noGo g i && !goesB g i) := by unfold noGo; rw [List.range_succ, List.all_append]; simp
theorem free_goes {g : Gr} (hr : rightB g = true) : freeI (graphG g) = noGo g g.rules.length := by
  have h1 := (right_sizes hr).1
  unfold freeI noGo
  rw [len_graph hr, decide_eq_true (by omega : 0 < g.rules.length), Bool.true_and]
  rw [Bool.eq_iff_iff, List.all_eq_true, List.all_eq_true]
  constructor
  · intro h j hj
    rw [goes_sort hr (List.mem_range.1 hj), Bool.not_not]
    exact h j hj
  · intro h j hj
    have := h j hj
    rwa [goes_sort hr (List.mem_range.1 hj), Bool.not_not] at this
theorem none_right {g : Gr} (hr : rightB g = false) : graphG g = [] := by unfold graphG; rw [hr]; rfl
end Go.Proofs.YtlklmpjakeedcaaGreatDoor

/-
 Small bodies, sound grammars, told by a test.
 Conditions: none.
-/
import Derived.Test.YtlklmpjakeedcaaGreatDoorSEnKB3
import Derived.Test.YtlklmpjakeedcaaGreatDoorSEnNuB
import Derived.Test.YtlklmpjakeedcaaGreatDoorSEnLfD
import Derived.Test.YtlklmpjakeedcaaGreatDoorSEnRf1
import Derived.Test.YtlklmpjakeedcaaGreatDoorSEnWeR
import Derived.Test.YtlklmpjakeedcaaGreatDoorSEnGRule
import Derived.Test.YtlklmpjakeedcaaGreatDoorSEnCpE
import Derived.Test.YtlklmpjakeedcaaGreatDoorSEnCpO2
set_option linter.unusedVariables false
set_option linter.unusedSimpArgs false
namespace Go.Proofs.YtlklmpjakeedcaaGreatDoor
open Go.RowKit Go.MapKept Go.Shelf

def smallB (ns : List Nd) : Bool := decide (ns.length ≤ 3000) && !ns.isEmpty && ns.all fun x => decide (x.kids.length ≤ 3000) && x.kids.all fun z => decide (-100000 ≤ z) && decide (z ≤ 100000)
theorem small_of {ns : List Nd} (h : smallB ns = true) : Small ns := by
 simp only [smallB, Bool.and_eq_true, decide_eq_true_eq, Bool.not_eq_true', List.all_eq_true] at h
 exact ⟨h.1.1, fun e => by rw [e] at h; simp at h, fun x hx => ⟨(h.2 x hx).1, fun z hz => (h.2 x hx).2 z hz⟩⟩
def wfB (g : Gr) : Bool := (g.nodes.all fun x => decide (I64 x.k) && decide (I64 x.r) && decide (I64 x.l) && (x.kids.all fun z => decide (I64 z)) && decide (x.s.size ≤ maxLen)) && g.rules.all fun r => decide (r.name.size ≤ maxLen) && decide (I64 r.body)
theorem wf_of {g : Gr} (h : wfB g = true) : g.Wf := by
 simp only [wfB, Bool.and_eq_true, decide_eq_true_eq, List.all_eq_true] at h
 exact ⟨fun x hx => ⟨(h.1 x hx).1.1.1.1, (h.1 x hx).1.1.1.2, (h.1 x hx).1.1.2, (h.1 x hx).1.2, (h.1 x hx).2⟩, fun r hr => (h.2 r hr).1, fun r hr => (h.2 r hr).2⟩
theorem NewGramRows.new {w : World} {g : Gr} {e : Ending} {w' : World} (h : NewGramRows w g e w') (wf : g.Wf) : NewGram w g e w' := by
 obtain ⟨a1, c1, a2, c2, L, h1, h2, h3, h4, h5⟩ := h
 obtain ⟨k1, k2, k3, k4⟩ := rules_row (row_base h3 (Nat.zero_le _))
 obtain ⟨m1, m2, m3⟩ := h4.read
 rw [h2] at m1
 have hl : L.length = g.nodes.length := by rw [← h2]; simp
 rw [hl] at m2
 exact ⟨a1, c1, a2, c2, h1, ⟨rfl, k3, k4, k1, rfl, m2, m3, m1, wf⟩, h5⟩
def reachB (g : Gr) : Bool := decide (g.rules.length ≤ 17592186044416) && decide (g.nodes.length ≤ 17592186044416) && g.nodes.all fun x => decide (x.kids.length ≤ 17592186044416)
theorem reach_of {g : Gr} (h : reachB g = true) : Reach g := by
 simp only [reachB, Bool.and_eq_true, decide_eq_true_eq, List.all_eq_true] at h
 exact ⟨h.1.1, h.1.2, h.2⟩

end Go.Proofs.YtlklmpjakeedcaaGreatDoor
set_option linter.unusedVariables false
set_option linter.unusedSimpArgs false
set_option linter.unnecessarySimpa false
namespace Go.Proofs.YtlklmpjakeedcaaGreatDoor
open Go.RowKit Go.MapKept Go.Shelf

end Go.Proofs.YtlklmpjakeedcaaGreatDoor
set_option linter.unusedVariables false
set_option linter.unusedSimpArgs false
set_option linter.unnecessarySimpa false
namespace Go.Proofs.YtlklmpjakeedcaaGreatDoor
open Go.RowKit Go.MapKept Go.Shelf

def inR (g : Gr) (i : Int) : Prop := 0 ≤ i ∧ i < g.rules.length ∧ rightB g = true
instance (g : Gr) (i : Int) : Decidable (inR g i) := inferInstanceAs (Decidable (_ ∧ _ ∧ _))
end Go.Proofs.YtlklmpjakeedcaaGreatDoor
set_option linter.unusedVariables false
set_option linter.unusedSimpArgs false
namespace Go.Proofs.YtlklmpjakeedcaaGreatDoor
open Go.RowKit Go.MapKept Go.Shelf

theorem ints_lit {w : World} {zs : List Int} {k : Nat} {t : TypeId} (h : w.heap[k]? = some (.cells (zs.map (Value.int .i64)).toArray t (0, 0))) : Ints w (some ⟨k, 0, none⟩) zs := by
 intro i hi
 refine ⟨k, 0, rfl, ?_⟩
 rw [cell_of_cells h]
 simp [hi]
end Go.Proofs.YtlklmpjakeedcaaGreatDoor
set_option linter.unusedVariables false
set_option linter.unusedSimpArgs false
set_option linter.unnecessarySimpa false
namespace Go.Proofs.YtlklmpjakeedcaaGreatDoor
open Go.RowKit Go.MapKept Go.Shelf

/-- The graph of a grammar is right. -/
theorem graph_rise (g : Gr) : ∀ zs ∈ graphG g, zs.Pairwise (· < ·) := by
 unfold graphG
 split
 ·intro zs hz
  obtain ⟨r, _, rfl⟩ := List.mem_map.1 hz
  exact pickL_sorted _ _
 ·intro zs hz; cases hz
theorem graph_right (g : Gr) : Cp.rightI (graphG g) = true := by
 cases hr : rightB g with
 | false => unfold graphG; rw [hr]; rfl
 | true =>
  have h := graph_ok hr
  rw [Cp.right_iff]
  refine ⟨by have := h.len; have := h.few; omega, fun l hl => ?_⟩
  exact ⟨fun b hb => by have := h.ins l hl b hb; rw [h.len]; exact this, graph_rise g l hl⟩
def withI (X : List (List Int)) (i : Int) : List Int := (Cp.partsI X).getD (Cp.partI X i).toNat []
def itI (X : List (List Int)) (i : Int) : Bool := (X.getD i.toNat []).contains i
def othI (X : List (List Int)) (i : Int) : Bool := decide (1 < (withI X i).length)
def sortI (X : List (List Int)) (i : Int) : Int := if itI X i then (if othI X i then 3 else 1) else (if othI X i then 2 else 0)
def inX (X : List (List Int)) (i : Int) : Bool := decide (0 ≤ i) && decide (i < X.length)
def sortOf (X : List (List Int)) (i : Int) : Int := if inX X i then sortI X i else 0
def withOf (X : List (List Int)) (i : Int) : List Int := if inX X i && !(sortI X i == 0) then withI X i else []
def allI (X : List (List Int)) : List Int := (List.range X.length).map (fun (i : Nat) => sortI X i)
def freeI (X : List (List Int)) : Bool := decide (0 < X.length) && (List.range X.length).all (fun (i : Nat) => sortI X i == 0)
def orderI (X : List (List Int)) : List Int := (Cp.partsI X).flatten

theorem so_part {X : List (List Int)} (h : Cp.rightI X = true) {i : Nat} (hi : i < X.length) :
  ∃ p : Nat, Cp.partI X i = (p : Int) ∧ p < (Cp.partsI X).length ∧ withI X i = (Cp.partsI X).getD p [] ∧ (withI X i).Pairwise (· < ·) ∧ ∀ y : Int, y ∈ withI X i ↔ ∃ k : Nat, y = (k : Int) ∧ k < X.length ∧ Cp.Reach (Cp.toG X) i k ∧ Cp.Reach (Cp.toG X) k i := by
 have hG := Cp.right_RG h
 have hT := Cp.told hG
 obtain ⟨p, hp, e, hrow, hsame⟩ := Cp.told_row hT (a := i) (by rw [Cp.toG_len]; exact hi)
 have hpi : Cp.partI X i = (p : Int) := by
  unfold Cp.partI
  rw [h, Cp.numI_nat hi]
  simpa using e
 have hpl : p < (Cp.partsI X).length := by unfold Cp.partsI; rw [h, if_pos rfl, Cp.intsG_len]; exact hp
 have hw : withI X i = ((List.range (Cp.toG X).length).filter (fun i => decide (Cp.placeR (Cp.partsR (Cp.toG X)) i = (p : Int)))).map (fun (x : Nat) => (x : Int)) := by
  unfold withI
  rw [hpi, show ((p : Int)).toNat = p by omega, ← hrow]
  unfold Cp.partsI
  rw [h, if_pos rfl]
  unfold Cp.intsG
  rw [List.getD, List.getD, List.getElem?_map]
  cases (Cp.partsR (Cp.toG X))[p]? <;> rfl
 refine ⟨p, hpi, hpl, by unfold withI; rw [hpi]; rfl, ?_, fun y => ?_⟩
 ·rw [hw, List.pairwise_map]
  exact ((List.pairwise_lt_range).sublist List.filter_sublist).imp (fun h => by omega)
 ·rw [hw]
  simp only [List.mem_map, List.mem_filter, List.mem_range, decide_eq_true_eq, Cp.toG_len]
  constructor
  ·rintro ⟨k, ⟨hk, e2⟩, rfl⟩
   exact ⟨k, rfl, hk, (hsame k (by rw [Cp.toG_len]; exact hk)).1 e2⟩
  ·rintro ⟨k, rfl, hk, hr⟩
   exact ⟨k, ⟨hk, (hsame k (by rw [Cp.toG_len]; exact hk)).2 hr⟩, rfl⟩
theorem with_self {X : List (List Int)} (h : Cp.rightI X = true) {i : Nat} (hi : i < X.length) : (i : Int) ∈ withI X i := by
 obtain ⟨p, _, _, _, _, hm⟩ := so_part h hi
 exact (hm i).2 ⟨i, rfl, hi, .refl _, .refl _⟩
theorem with_len {X : List (List Int)} (h : Cp.rightI X = true) {i : Nat} (hi : i < X.length) : 1 ≤ (withI X i).length := List.length_pos_of_mem (with_self h hi)
theorem ring_or {X : List (List Int)} (h : Cp.rightI X = true) {i : Nat} (hi : i < X.length) : Cp.ringI X i = (othI X i || itI X i) := by
 have hs := self_row h hi
 unfold Cp.ringI Cp.ringR
 rw [h, Cp.numI_nat hi]
 simp only [Bool.true_and, Int.toNat_natCast]
 congr 1
 ·unfold othI withI Cp.partI Cp.partsI
  rw [h, Cp.numI_nat hi]
  simp only [Bool.true_and, Int.toNat_natCast, if_true]
  unfold Cp.intsG
  congr 1
  rw [List.getD, List.getD, List.getElem?_map]
  cases (Cp.partsR (Cp.toG X))[(Cp.placeR (Cp.partsR (Cp.toG X)) i).toNat]? <;> simp
 ·unfold itI
  rw [Int.toNat_natCast]; exact hs.symm
/-- The document's sort. -/
def sortR (X : List (List Int)) (i : Int) : Int := if Cp.ringI X i then (if (withI X i).length = 1 then 1 else if itI X i then 3 else 2) else 0
theorem sort_ref {X : List (List Int)} (h : Cp.rightI X = true) {i : Nat} (hi : i < X.length) : sortR X i = sortI X i := by
 have hl := with_len h hi
 unfold sortR sortI
 rw [ring_or h hi]
 cases hit : itI X i <;> cases ho : othI X i <;> simp [othI] at ho ⊢ <;> omega
end Go.Proofs.YtlklmpjakeedcaaGreatDoor
set_option linter.unusedVariables false
set_option linter.unusedSimpArgs false
set_option linter.unnecessarySimpa false
namespace Go.Proofs.YtlklmpjakeedcaaGreatDoor
open Go.RowKit Go.MapKept Go.Shelf

theorem with_of {X : List (List Int)} {i : Nat} (hi : i < X.length) : withOf X i = if sortI X i == 0 then [] else withI X i := by
 unfold withOf inX
 have h1 : decide ((0 : Int) ≤ (i : Int)) = true := decide_eq_true (by omega)
 have h2 : decide ((i : Int) < (X.length : Int)) = true := decide_eq_true (by omega)
 rw [h1, h2]
 cases sortI X i == 0 <;> rfl
theorem with_few {X : List (List Int)} (h : Cp.rightI X = true) {i : Nat} (hi : i < X.length) : (withOf X i).length ≤ 64 := by
 obtain ⟨p, _, hp, hw, _, _⟩ := so_part h hi
 rw [with_of hi]
 split
 ·simp
 ·rw [hw]
  have hm : (Cp.partsI X).getD p [] ∈ Cp.partsI X := by
   rw [List.getD, List.getElem?_eq_getElem hp]
   exact List.getElem_mem hp
  have hG := Cp.right_RG h
  have hT := Cp.told hG
  unfold Cp.partsI at hm ⊢
  rw [h, if_pos rfl] at hm ⊢
  unfold Cp.intsG at hm ⊢
  obtain ⟨m, hmm, e⟩ := List.mem_map.1 hm
  rw [← e, List.length_map]
  obtain ⟨q, hq, rfl⟩ := List.getElem_of_mem hmm
  rw [hT.rows q hq]
  have := List.length_filter_le (fun i => decide (Cp.placeR (Cp.partsR (Cp.toG X)) i = (q : Int))) (List.range (Cp.toG X).length)
  have := hG.few
  rw [List.length_range] at *
  omega
end Go.Proofs.YtlklmpjakeedcaaGreatDoor
set_option linter.unusedVariables false
set_option linter.unusedSimpArgs false
set_option linter.unnecessarySimpa false
namespace Go.Proofs.YtlklmpjakeedcaaGreatDoor
open Go.RowKit Go.MapKept Go.Shelf

/-! ### Lists laid end to end -/
structure FlatOk (n : Nat) (P : List (List Nat)) : Prop where
 nodup : P.flatten.Nodup
 mem : ∀ a, a ∈ P.flatten ↔ a < n
 len : P.flatten.length = n
theorem flat_ok {G : List (List Nat)} {P : List (List Nat)} (h : Cp.Told G P) : FlatOk G.length P := by
 have hrow : ∀ l ∈ P, ∃ p, ∃ hp : p < P.length, l = P[p] := fun l hl => by
  obtain ⟨p, hp, e⟩ := List.getElem_of_mem hl
  exact ⟨p, hp, e.symm⟩
 have hnd : P.flatten.Nodup := by
  rw [List.Nodup, List.pairwise_flatten]
  refine ⟨fun l hl => ?_, ?_⟩
  ·obtain ⟨p, hp, rfl⟩ := hrow l hl
   rw [h.rows p hp]
   exact List.nodup_range.sublist List.filter_sublist
  ·rw [List.pairwise_iff_getElem]
   intro i j hi hj hij x hx y hy e
   subst e
   have h1 := (Cp.told_place h hi (a := x) (by simpa [hi] using hx)).1
   have h2 := (Cp.told_place h hj (a := x) (by simpa [hj] using hy)).1
   omega
 have hmem : ∀ a, a ∈ P.flatten ↔ a < G.length := fun a => by
  rw [List.mem_flatten]
  constructor
  ·rintro ⟨l, hl, ha⟩
   obtain ⟨p, hp, rfl⟩ := hrow l hl
   exact (Cp.told_place h hp (a := a) (by simpa [hp] using ha)).2
  ·intro ha
   obtain ⟨h0, h1⟩ := h.place a ha
   have hp : (Cp.placeR P a).toNat < P.length := by omega
   refine ⟨P[(Cp.placeR P a).toNat], List.getElem_mem hp, ?_⟩
   rw [h.rows _ hp, List.mem_filter]
   exact ⟨List.mem_range.2 ha, decide_eq_true (by omega)⟩
 refine ⟨hnd, hmem, ?_⟩
 have hp : P.flatten.Perm (List.range G.length) := (List.perm_ext_iff_of_nodup hnd List.nodup_range).2 (fun a => by rw [hmem, List.mem_range])
 rw [hp.length_eq, List.length_range]
section
variable {X : List (List Int)}
def pX (X : List (List Int)) : List (List Nat) := Cp.partsR (Cp.toG X)
theorem order_nat (h : Cp.rightI X = true) : orderI X = natI (pX X).flatten := by
 unfold orderI Cp.partsI pX natI
 rw [h, if_pos rfl]
 unfold Cp.intsG
 rw [List.map_flatten]
theorem order_ok (h : Cp.rightI X = true) : FlatOk X.length (pX X) := by
 have := flat_ok (Cp.told (Cp.right_RG h))
 rw [Cp.toG_len] at this
 exact this
end
end Go.Proofs.YtlklmpjakeedcaaGreatDoor
set_option linter.unusedVariables false
set_option linter.unusedSimpArgs false
set_option linter.unnecessarySimpa false
namespace Go.Proofs.YtlklmpjakeedcaaGreatDoor

/-! ### A tree's kids, one behind the other -/
def Cov (E : Nat → Nat) (len : Nat) : List Int → Nat → Nat → Prop
 | [], a, e => a = e
 | k :: ks, a, e => k = (a : Int) ∧ a < len ∧ a < E a ∧ Cov E len ks (E a) e
theorem Cov.le {E : Nat → Nat} {len : Nat} : ∀ {ks : List Int} {a e : Nat}, Cov E len ks a e → a ≤ e := by
 intro ks
 induction ks with
 | nil => intro a e h; exact Nat.le_of_eq h
 | cons k ks ih => intro a e h; obtain ⟨_, _, h1, h2⟩ := h; have := ih h2; omega
theorem Cov.mem {E : Nat → Nat} {len : Nat} : ∀ {ks : List Int} {a e : Nat}, Cov E len ks a e → ∀ z ∈ ks, ∃ q : Nat, z = q ∧ q < len ∧ a ≤ q ∧ q < E q ∧ E q ≤ e := by
 intro ks
 induction ks with
 | nil => intro a e _ z hz; cases hz
 | cons k ks ih =>
  intro a e h z hz
  obtain ⟨h0, h1, h2, h3⟩ := h
  rcases List.mem_cons.1 hz with rfl | hz
  ·exact ⟨a, h0, h1, Nat.le_refl _, h2, h3.le⟩
  ·obtain ⟨q, e1, e2, e3, e4, e5⟩ := ih h3 z hz
   exact ⟨q, e1, e2, by omega, e4, e5⟩
/-- A tree of nodes. -/
structure TreeOk (ns : List Nd) (E : Nat → Nat) : Prop where
 cov : ∀ n (h : n < ns.length), Cov E ns.length ns[n].kids (n + 1) (E n)
 le : ∀ n, n < ns.length → n < E n ∧ E n ≤ ns.length
theorem TreeOk.falls {ns : List Nd} {E : Nat → Nat} (h : TreeOk ns E) : Falls ns := fun n hn k hk => by
 obtain ⟨q, rfl, h1, h2, _⟩ := (h.cov n hn).mem k hk
 omega
/-- The open kids. -/
def openK (k : Int) (N : Int → Bool) : List Int → List Int
 | [] => []
 | z :: zs => z :: (if k = 6 ∧ N z = false then [] else openK k N zs)
theorem kidsOwn_sorted {E : Nat → Nat} {len : Nat} {k : Int} {N : Int → Bool} {F : Int → List Int} : ∀ {ks : List Int} {a e : Nat}, Cov E len ks a e → (∀ q : Nat, (q : Int) ∈ ks → (F q).Pairwise (· < ·) ∧ ∀ x ∈ F q, (q : Int) ≤ x ∧ x < E q) →
  (kidsOwn k N F ks).Pairwise (· < ·) ∧ ∀ x ∈ kidsOwn k N F ks, (a : Int) ≤ x ∧ x < e := by
 intro ks
 induction ks with
 | nil => intro a e _ _; exact ⟨.nil, fun x hx => by cases hx⟩
 | cons z ks ih =>
  intro a e h hF
  obtain ⟨rfl, h1, h2, h3⟩ := h
  have hz := hF a (by simp)
  obtain ⟨i1, i2⟩ := ih h3 (fun q hq => hF q (by simp [hq]))
  have hle := h3.le
  simp only [kidsOwn]
  constructor
  ·rw [List.pairwise_append]
   refine ⟨hz.1, ?_, fun x hx y hy => ?_⟩
   ·split
    ·exact .nil
    ·exact i1
   ·split at hy
    ·cases hy
    ·have := i2 y hy
     have := hz.2 x hx
     omega
  ·intro x hx
   rcases List.mem_append.1 hx with hx | hx
   ·have := hz.2 x hx; omega
   ·split at hx
    ·cases hx
    ·have := i2 x hx; omega
theorem ownN_sorted {ns : List Nd} {E : Nat → Nat} (h : TreeOk ns E) (N : Int → Bool) : ∀ (d n : Nat), ns.length - n ≤ d → n < ns.length → (ownN ns N n).Pairwise (· < ·) ∧ ∀ x ∈ ownN ns N n, (n : Int) ≤ x ∧ x < E n := by
 intro d
 induction d with
 | zero => intro n _ _; omega
 | succ d ih =>
  intro n hd hn
  rw [ownN_eq h.falls N hn]
  have hk := kidsOwn_sorted (k := ns[n].k) (N := N) (F := ownN ns N) (h.cov n hn) (fun q hq => by
   obtain ⟨y, y1, y2, y3, _⟩ := (h.cov n hn).mem _ hq
   obtain rfl : y = q := by omega
   exact ih y (by omega) y2)
  have hle := h.le n hn
  refine ⟨List.pairwise_cons.2 ⟨fun x hx => by have := hk.2 x hx; omega, hk.1⟩, fun x hx => ?_⟩
  rcases List.mem_cons.1 hx with rfl | hx
  ·omega
  ·have := hk.2 x hx; omega
/-! ### Marks -/
/-- Who is marked behind the nodes n to m. -/
def markM (ns : List Nd) (N : Int → Bool) (n m : Nat) (j : Nat) : Bool :=
 decide (j = n) || (List.range m).any fun p => decide ((p : Int) ∈ ownN ns N n) && match ns[p]? with | none => false | some x => decide ((j : Int) ∈ openK x.k N x.kids)
/-- Marks while a node's kids are gone through. -/
def markT (ns : List Nd) (N : Int → Bool) (n m t : Nat) (j : Nat) : Bool :=
 markM ns N n m j || match ns[m]? with | none => false | some x => decide ((j : Int) ∈ x.kids.take t) && decide ((j : Int) ∈ openK x.k N x.kids)
/-! ### A rising row is what it picks -/
theorem sorted_ext : ∀ {l m : List Int}, l.Pairwise (· < ·) → m.Pairwise (· < ·) → (∀ x, x ∈ l ↔ x ∈ m) → l = m := by
 intro l
 induction l with
 | nil =>
  intro m _ _ h
  cases m with
  | nil => rfl
  | cons b m => exact absurd ((h b).2 (by simp)) (by simp)
 | cons a l ih =>
  intro m hl hm h
  cases m with
  | nil => exact absurd ((h a).1 (by simp)) (by simp)
  | cons b m =>
   rw [List.pairwise_cons] at hl hm
   have e : a = b := by
    have h1 := (h a).1 (by simp)
    have h2 := (h b).2 (by simp)
    rcases List.mem_cons.1 h1 with h1 | h1
    ·exact h1
    ·rcases List.mem_cons.1 h2 with h2 | h2
     ·exact h2.symm
     ·have := hl.1 b h2
      have := hm.1 a h1
      omega
   subst e
   congr 1
   refine ih hl.2 hm.2 fun x => ?_
   constructor
   ·intro hx
    rcases List.mem_cons.1 ((h x).1 (by simp [hx])) with h1 | h1
    ·have := hl.1 x hx; omega
    ·exact h1
   ·intro hx
    rcases List.mem_cons.1 ((h x).2 (by simp [hx])) with h1 | h1
    ·have := hm.1 x hx; omega
    ·exact h1
theorem ownN_pick {ns : List Nd} {E : Nat → Nat} (h : TreeOk ns E) (N : Int → Bool) {n : Nat} (hn : n < ns.length) : ownN ns N n = pickL ns.length (fun j => decide ((j : Int) ∈ ownN ns N n)) := by
 refine sorted_ext (ownN_sorted h N ns.length n (by omega) hn).1 (pickL_sorted _ _) fun x => ?_
 rw [mem_pickL]
 constructor
 ·intro hx
  obtain ⟨q, rfl, _, h2⟩ := ownN_in h.falls N hn x hx
  exact ⟨q, rfl, h2, by simpa using hx⟩
 ·rintro ⟨q, rfl, _, h2⟩
  simpa using h2
/-! ### A right grammar is a tree -/
theorem kidsAft_cov {F : Nat → Option (Nat × Nat)} {E : Nat → Nat} {len : Nat} (hF : ∀ n e h, F n = some (e, h) → e = E n ∧ n < len ∧ n < e) : ∀ {ks : List Int} {next high e hh : Nat}, kidsAft F ks next high = some (e, hh) → Cov E len ks next e := by
 intro ks
 induction ks with
 | nil => intro next high e hh h; simp only [kidsAft, Option.some.injEq, Prod.mk.injEq] at h; exact h.1
 | cons k ks ih =>
  intro next high e hh h
  simp only [kidsAft] at h
  split at h
  ·rename_i hk
   split at h
   ·cases h
   ·rename_i to h' hf
    obtain ⟨rfl, h1, h2⟩ := hF _ _ _ hf
    exact ⟨hk, h1, h2, ih h⟩
  ·cases h
def endsG (g : Gr) (n : Nat) : Nat := n + (sizeG g n).toNat
theorem right_tree {g : Gr} (hr : rightB g = true) : TreeOk g.nodes (endsG g) := by
 obtain ⟨t, ht, _, _⟩ := right_tab hr
 have hsz : ∀ n, n < g.nodes.length → ∃ z h', 1 ≤ z ∧ endsG g n = n + z ∧ aft g.nodes 16 n = some (n + z, h') := by
  intro n hn
  obtain ⟨z, h', h1, h2, _, _, h5⟩ := right_aft ht hn
  refine ⟨z, h', h2, ?_, h5⟩
  unfold endsG sizeG
  rw [ht]
  simp only
  rw [if_pos (by omega), Int.toNat_natCast, Int.toNat_natCast, h1]
  simp
 refine ⟨fun n hn => ?_, fun n hn => ?_⟩
 ·obtain ⟨z, h', h1, h2, h3⟩ := hsz n hn
  rw [h2]
  rw [show (16 : Nat) = 15 + 1 from rfl, aft, List.getElem?_eq_getElem hn] at h3
  refine kidsAft_cov (fun m e h hm => ?_) h3
  have hm16 := aft_mono (show 15 ≤ 16 by omega) hm
  have hml : m < g.nodes.length := by
   cases hx : g.nodes[m]? with
   | none => rw [show (16 : Nat) = 15 + 1 from rfl, aft, hx] at hm16; cases hm16
   | some x => exact (List.getElem?_eq_some_iff.1 hx).1
  obtain ⟨z', h'', k1, k2, k3⟩ := hsz m hml
  rw [k3] at hm16
  simp only [Option.some.injEq, Prod.mk.injEq] at hm16
  omega
 ·obtain ⟨z, h', h1, h2, h3⟩ := hsz n hn
  rw [h2]
  have := (aft_cover h3).1
  omega
end Go.Proofs.YtlklmpjakeedcaaGreatDoor
set_option linter.unusedVariables false
set_option linter.unusedSimpArgs false
set_option linter.unnecessarySimpa false
namespace Go.Proofs.YtlklmpjakeedcaaGreatDoor

/-! ### A segment stands elsewhere -/
/-! ### A byte ahead: none is called -/
/-! ### Nothing ahead, looked at: the same are called -/
end Go.Proofs.YtlklmpjakeedcaaGreatDoor

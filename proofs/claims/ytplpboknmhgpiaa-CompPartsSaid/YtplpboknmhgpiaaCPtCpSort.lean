/-
  The sort of the library, at a row of one's own: the row is sorted, nothing else is touched.
  Conditions: fewer than 2^62 numbers.
-/
import Derived.Test.YtplpboknmhgpiaaCPtBase
import Derived.Sort.Grow
import Derived.Sort.Row
import Derived.Test.YtplpboknmhgpiaaCPtCpS
import Derived.Test.YtplpboknmhgpiaaCPtCpD
import Derived.Test.YtplpboknmhgpiaaCPtCpShelf
set_option linter.unusedVariables false
set_option linter.unusedSimpArgs false
set_option linter.unnecessarySimpa false
namespace Go.Proofs.Ytplpboknmhgpiaa
open Go.RowKit Go.MapKept Go.Sort

def sorted (zs : List Int) : List Int := zs.mergeSort fun x y => decide (x ≤ y)
theorem sorted_length (zs : List Int) : (sorted zs).length = zs.length := by simp [sorted]

theorem putCells_take (enc : Int → Value) (ds : List Int) (cur : Array Value) (h : ds.length ≤ cur.size) : (putCells enc 0 ds.toArray cur).toList.take ds.length = ds.map enc := by
  apply List.ext_getElem?
  intro i
  rw [List.getElem?_take]
  by_cases hi : i < ds.length
  · rw [if_pos hi]
    have hic : i < cur.size := by omega
    simp [putCells, hic, hi]
  · rw [if_neg hi, List.getElem?_eq_none (by simp; omega)]

/-- What a sort leaves. -/
theorem sort_row {w w' : World} {g n cap e : Nat} {zs : List Int} (h : w.ownsRow 0 e 1 (.slice (some ⟨g, 0, none⟩) n cap) n (zs.map (Value.int .i64))) (k : Nat) (os : Array Obj)
    (hw : w' = grow (putRow (Value.int .i64) (Sort.ahead w k) g 0 (sorted zs).toArray) os) :
    w'.ownsRow 0 e 1 (.slice (some ⟨g, 0, none⟩) n cap) n ((sorted zs).map (Value.int .i64)) ∧ Chg [g] w w' := by
  have hlen : zs.length = n := by have := h.1; simpa using this
  rcases h.2 with ⟨h0, _⟩ | ⟨g', cap', cur, hv, hb, hg, hn, hc, hs, ht⟩
  · cases h0
  · simp only [Value.slice.injEq, Option.some.injEq, Addr.mk.injEq] at hv
    obtain ⟨⟨rfl, _⟩, _, rfl⟩ := hv
    have hlt := lt_of_block hg
    have hput : (putRow (Value.int .i64) (Sort.ahead w k) g 0 (sorted zs).toArray).heap[g]? = some (.cells (putCells (Value.int .i64) 0 (sorted zs).toArray cur) e (0, 0)) := by
      have h1 : w.heap[g] = .cells cur e (0, 0) := by simpa [Array.getElem?_eq_getElem hlt] using hg
      show (w.heap.modify g _)[g]? = _
      rw [Array.getElem?_eq_getElem (by simpa using hlt), Array.getElem_modify_self, h1]
      rfl
    subst hw
    have hold : ∀ i, i < w.heap.size → (grow (putRow (Value.int .i64) (Sort.ahead w k) g 0 (sorted zs).toArray) os).heap[i]? = (putRow (Value.int .i64) (Sort.ahead w k) g 0 (sorted zs).toArray).heap[i]? := by
      intro i hi
      show (_ ++ os)[i]? = _
      rw [Array.getElem?_append_left (by simpa using hi)]
    refine ⟨⟨by simp [sorted_length, hlen], .inr ⟨g, cap, _, rfl, Nat.zero_le _, (hold g hlt).trans hput, hn, hc, by simp [putCells, hs], ?_⟩⟩, ⟨rfl, rfl, rfl, ?_, fun i hi hm => ?_⟩⟩
    · have := putCells_take (Value.int .i64) (sorted zs) cur (by rw [sorted_length]; omega)
      rw [sorted_length, hlen] at this
      simpa using this
    · show _ ≤ (_ ++ os).size
      simp [putRow, mapBlock, Sort.ahead]
    · rw [hold i hi]
      show (w.heap.modify g _)[i]? = _
      rw [Array.getElem?_modify, if_neg (fun e => hm (by simp [e]))]
theorem row_holds {w : World} {g n cap e : Nat} {zs : List Int} (h : w.ownsRow 0 e 1 (.slice (some ⟨g, 0, none⟩) n cap) n (zs.map (Value.int .i64))) : Holds (Value.int .i64) w g 0 zs.toArray := by
  intro j hj
  rcases h.2 with ⟨h0, _⟩ | ⟨g', cap', cur, hv, hb, hg, hn, hc, hs, ht⟩
  · cases h0
  · simp only [Value.slice.injEq, Option.some.injEq, Addr.mk.injEq] at hv
    obtain ⟨⟨rfl, _⟩, _, rfl⟩ := hv
    have hj' : j < zs.length := by simpa using hj
    refine ⟨?_, free_of_cells hg _⟩
    rw [cell_of_cells hg]
    have h1 : (zs.map (Value.int .i64))[j]? = some (.int .i64 zs[j]) := by simp [hj']
    rw [← ht, List.getElem?_take] at h1
    split at h1
    · simpa [hj'] using h1
    · cases h1
end Go.Proofs.Ytplpboknmhgpiaa
set_option linter.unusedVariables false
set_option linter.unusedSimpArgs false
set_option linter.unnecessarySimpa false
namespace Go.Proofs.Ytplpboknmhgpiaa
open Go.RowKit Go.MapKept Go.Shelf

theorem row_up {w : World} {B e size n : Nat} {v : Value} {xs : List Value} (h : w.ownsRow 0 e size v n xs) (hB : ∀ k, v.ownBlock = some k → B ≤ k) : w.ownsRow B e size v n xs := by
  refine ⟨h.1, ?_⟩
  rcases h.2 with h0 | ⟨g, cap, cur, h0, hb, h1⟩
  · exact .inl h0
  · exact .inr ⟨g, cap, cur, h0, hB g (by rw [h0]; rfl), h1⟩
/-- What a sort leaves of a row of numbers. -/
theorem sortIs_any (w : World) (B : Nat) (X : Is) (h : FreshInts B w X.1 X.2.1 X.2.2) (hn : X.2.2.length < 4611686018427387904) :
    Calls Try.prog 54 #[X.cell] w fun e w' => e = .returned (.tuple #[]) ∧ FreshInts B w' X.1 X.2.1 (sorted X.2.2) ∧ Chg X.own.toList w w' := by
  obtain ⟨a, c, zs⟩ := X
  have h0 : w.ownsRow 0 3 1 (.slice a zs.length c) zs.length (zs.map (Value.int .i64)) := row_base h (Nat.zero_le _)
  show Calls Try.prog 54 #[.slice a zs.length c] w _
  rcases h0.2 with ⟨hv, hl⟩ | ⟨g, cap, cur, hv, _⟩
  · have hz : zs = [] := List.eq_nil_of_length_eq_zero hl
    subst hz
    cases hv
    refine (Try.slices_Sort_int_none none 0 w).mono ?_
    rintro e w' ⟨rfl, rfl⟩
    exact ⟨rfl, by show FreshInts B _ none 0 (sorted []); simpa [sorted] using h, Chg.refl _ _⟩
  · simp only [Value.slice.injEq] at hv
    obtain ⟨rfl, _, rfl⟩ := hv
    refine (Try.slices_Sort_int g 0 c zs w (row_holds h0) (h0.lt g rfl).2 hn).mono ?_
    rintro e w' ⟨rfl, k, os, hw⟩
    have hs := sort_row h0 k os hw
    refine ⟨rfl, ?_, by simpa [Is.own, Is.cell, Value.ownBlock] using hs.2⟩
    show FreshInts B w' (some ⟨g, 0, none⟩) c (sorted zs)
    unfold FreshInts
    rw [sorted_length]
    exact row_up hs.1 (fun k hk => (row_beyond h (by exact hk)).1)
theorem Apt.grow {B : Nat} {w : World} {Y X X' : Is} (h : Apt Y X) (hY : FreshInts B w Y.1 Y.2.1 Y.2.2) (ho : X'.own = X.own ∨ ∃ k, X'.own = some k ∧ w.heap.size ≤ k) : Apt Y X' := fun k hk hk2 => by
  rcases ho with e | ⟨j, e, hj⟩
  · exact h k hk (by rw [← e]; exact hk2)
  · rw [e] at hk2
    have := (row_lt hY hk).2
    simp only [Option.some.injEq] at hk2
    omega
theorem Apt.own {Y Y' X : Is} (h : Apt Y X) (e : Y'.own = Y.own) : Apt Y' X := fun k hk => h k (by rw [← e]; exact hk)
theorem apt_none {Y X : Is} (h : X.own = none) : Apt Y X := fun k _ e => by rw [h] at e; cases e
section
variable {B : Nat} {w w' : World} {sb : Nat} {ga : Option Addr} {gn gc n : Nat} {A M K P : Is} {la : Option Addr} {lc : Nat} {VS : List Is} {s : Cp.TS}
/-- A row beside is changed. -/
theorem SearchIs.keepX (h : SearchIs B w sb ga gn gc n A M K P la lc VS s) {S : List Nat} (hc : Chg S w w') {X : Is} {B' : Nat} (hX : FreshInts B' w X.1 X.2.1 X.2.2) (hS : ∀ k ∈ S, X.own = some k) (xA : Apt A X) (xM : Apt M X) (xK : Apt K X) (xP : Apt P X) (xV : ∀ q ∈ VS, Apt q X) : SearchIs B w' sb ga gn gc n A M K P la lc VS s :=
  ⟨h.low, hc.heap h.head (fun hm => row_ne_search hX h.head (hS _ hm)), hc.row h.rA (fun k hk hm => xA k hk (hS k hm)), hc.row h.rM (fun k hk hm => xM k hk (hS k hm)), hc.row h.rK (fun k hk hm => xK k hk (hS k hm)), hc.row h.rP (fun k hk hm => xP k hk (hS k hm)),
   h.own.keepS hc (fun k hk => row_notrow hX (hS k hk) (by decide)) (fun k hk p hp e => xV p hp k e (hS k hk)), h.aAM, h.aAK, h.aAP, h.aMK, h.aMP, h.aKP, h.vA, h.vM, h.vK, h.vP, h.aside, h.met, h.back, h.part, h.parts⟩
end
/-- A search, and a row of numbers beside it. -/
def WithX (B : Nat) (w : World) (sb : Nat) (ga : Option Addr) (gn gc n : Nat) (s : Cp.TS) (X : Is) : Prop :=
  ∃ (A M K P : Is) (la : Option Addr) (lc : Nat) (VS : List Is), SearchIs B w sb ga gn gc n A M K P la lc VS s ∧ FreshInts B w X.1 X.2.1 X.2.2 ∧ Apt A X ∧ Apt M X ∧ Apt K X ∧ Apt P X ∧ ∀ q ∈ VS, Apt q X
end Go.Proofs.Ytplpboknmhgpiaa

/-
  The rounds: the iterator hands out, round by round, the rules that come in; the ranks are written by who goes round.
  Conditions: the grammar is right and reads as data.
-/
import Derived.Test.YtplpboknmhgpiaaCTnNuA
import Derived.Test.YtplpboknmhgpiaaCTnGWalk
import Derived.Test.YtplpboknmhgpiaaCTnGOpen
import Derived.Shelf.Abstract
set_option linter.unusedVariables false
set_option linter.unusedSimpArgs false
namespace Go.Proofs.Ytplpboknmhgpiaa
open Go.RowKit Go.MapKept Go.Shelf

/-! ### What is said -/
def ranksL (g : Gr) (j : Nat) : List Int := (List.range g.rules.length).map fun i => (rk g j i : Int)
theorem ranksL_len (g : Gr) (j : Nat) : (ranksL g j).length = g.rules.length := by simp [ranksL]
theorem ranksL_at (g : Gr) (j : Nat) {i : Nat} (hi : i < g.rules.length) : (ranksL g j)[i]? = some (rk g j i : Int) := by simp [ranksL, hi]
theorem callsL_ranks (g : Gr) (j : Nat) : callsL (ranksL g j) = callsR g j := by
  funext q
  simp only [callsL, callsR]
  by_cases hq : q.toNat < g.rules.length
  · rw [ranksL_at g j hq]
    simp
  · rw [List.getElem?_eq_none (by rw [ranksL_len]; omega), rk_out g j (by omega)]
    simp
/-- Whether a rule comes in behind so many rounds. -/
def enters (g : Gr) (j i : Nat) : Bool := decide (rk g j i = 0) && (match g.rules[i]? with | none => false | some r => mayR g j r.body)
def newL (g : Gr) (j k : Nat) : List Int := ((List.range k).filter (enters g j)).map fun (i : Nat) => (i : Int)
theorem newL_succ (g : Gr) (j k : Nat) : newL g j (k + 1) = newL g j k ++ if enters g j k then [(k : Int)] else [] := by
  simp only [newL, List.range_succ, List.filter_append, List.map_append]
  congr 1
  by_cases h : enters g j k <;> simp [h]
theorem newL_le (g : Gr) (j k : Nat) : (newL g j k).length ≤ k := by
  have := List.length_filter_le (enters g j) (List.range k)
  simpa [newL] using this
theorem still_new {g : Gr} {j : Nat} (h : newL g j g.rules.length = []) : Still g j := by
  intro i hi h0
  cases hm : mayR g j g.rules[i].body with
  | false => rfl
  | true =>
    exfalso
    have h1 : (i : Int) ∈ newL g j g.rules.length := by
      simp only [newL, List.mem_map, List.mem_filter, List.mem_range]
      exact ⟨i, ⟨hi, by simp [enters, h0, hi, hm]⟩, rfl⟩
    rw [h] at h1
    cases h1
theorem new_still {g : Gr} {j : Nat} (h : Still g j) : newL g j g.rules.length = [] := by
  simp only [newL, List.map_eq_nil_iff, List.filter_eq_nil_iff, List.mem_range]
  intro i hi
  simp only [enters, List.getElem?_eq_getElem hi, Bool.and_eq_true, decide_eq_true_eq]
  rintro ⟨h0, hm⟩
  rw [h i hi h0] at hm
  cases hm
theorem right_body {g : Gr} (h : rightB g = true) {k : Nat} (hk : k < g.rules.length) : ∃ q : Nat, g.rules[k].body = (q : Int) ∧ q < g.nodes.length := by
  obtain ⟨t, ht, htab, _⟩ := right_tab h
  have h0 := whole_chain ht
  have key : ∀ k, k ≤ g.rules.length → ∃ x, chainT g t (g.rules.drop k) k x = some g.nodes.length := by
    intro k
    induction k with
    | zero => intro _; exact ⟨0, by simpa using h0⟩
    | succ k ih =>
      intro hk
      obtain ⟨x, hx⟩ := ih (by omega)
      obtain ⟨_, _, z, _, _, _, h2⟩ := chain_next (by omega) hx
      exact ⟨_, h2⟩
  obtain ⟨x, hx⟩ := key k (by omega)
  obtain ⟨_, hb, z, hh, hz, _, _⟩ := chain_next hk hx
  exact ⟨x, hb, (chain_le htab hz).1⟩
theorem right_calls {g : Gr} (h : rightB g = true) : ∀ x ∈ g.nodes, x.k = 5 → 0 ≤ x.r ∧ x.r < g.rules.length := by
  intro x hx hk
  obtain ⟨n, hn, rfl⟩ := List.mem_iff_getElem.1 hx
  have h1 := right_node h hn
  simp only [nodeB, nodeN, hk] at h1
  simp at h1
  omega

/-- The ranks while a round's rules are written. -/
def markL (g : Gr) (j k : Nat) : List Int := (List.range g.rules.length).map fun (i : Nat) => if (i : Int) ∈ (newL g j g.rules.length).take k then ((j + 1 : Nat) : Int) else (rk g j i : Int)
theorem markL_len (g : Gr) (j k : Nat) : (markL g j k).length = g.rules.length := by simp [markL]
theorem markL_zero (g : Gr) (j : Nat) : markL g j 0 = ranksL g j := by simp [markL, ranksL]
theorem newL_at {g : Gr} {j k : Nat} {z : Int} (h : (newL g j g.rules.length)[k]? = some z) : ∃ q : Nat, z = q ∧ q < g.rules.length := by
  have h1 := List.mem_of_getElem? h
  simp only [newL, List.mem_map, List.mem_filter, List.mem_range] at h1
  obtain ⟨q, ⟨h2, _⟩, rfl⟩ := h1
  exact ⟨q, rfl, h2⟩
theorem markL_succ {g : Gr} {j k q : Nat} (h : (newL g j g.rules.length)[k]? = some (q : Int)) : markL g j (k + 1) = (markL g j k).set q ((j + 1 : Nat) : Int) := by
  apply List.ext_getElem
  · simp [markL]
  · intro i h1 h2
    rw [List.getElem_set]
    simp only [markL, List.getElem_map, List.getElem_range, List.take_add_one, h, Option.toList_some, List.mem_append, List.mem_singleton]
    by_cases hq : q = i
    · subst hq
      rw [if_pos (.inr rfl), if_pos rfl]
    · rw [if_neg hq]
      have : ¬ ((i : Int) = (q : Int)) := by omega
      simp [this]
theorem markL_end (g : Gr) (j : Nat) : markL g j (newL g j g.rules.length).length = ranksL g (j + 1) := by
  apply List.ext_getElem
  · simp [markL, ranksL]
  · intro i h1 h2
    have hi : i < g.rules.length := by simpa [markL] using h1
    simp only [markL, ranksL, List.getElem_map, List.getElem_range, List.take_length]
    rw [rk_step g j hi]
    have hmem : ((i : Int) ∈ newL g j g.rules.length) ↔ (rk g j i = 0 ∧ mayR g j g.rules[i].body = true) := by
      simp only [newL, List.mem_map, List.mem_filter, List.mem_range]
      constructor
      · rintro ⟨q, ⟨h3, h4⟩, h5⟩
        obtain rfl : q = i := by omega
        simpa [enters, List.getElem?_eq_getElem hi] using h4
      · rintro ⟨h3, h4⟩
        exact ⟨i, ⟨hi, by simp [enters, List.getElem?_eq_getElem hi, h3, h4]⟩, rfl⟩
    by_cases hm : (i : Int) ∈ newL g j g.rules.length
    · rw [if_pos hm, if_pos (hmem.1 hm)]
    · rw [if_neg hm, if_neg (fun h => hm (hmem.2 h))]

/-! ### The walk -/
/-- What is handed out: the round, the rules. -/
abbrev Rd := Nat × Option Addr × Nat × List Int
def encRd (x : Rd) : Array Value := #[.int .i64 x.1, .slice x.2.1 x.2.2.2.length x.2.2.1]
def RdX (n₀ : Nat) (g : Gr) (pre : List Rd) (x : Rd) (W : World) : Prop := (x.1 = pre.length + 1 ∧ x.2.2.2 = newL g pre.length g.rules.length ∧ ¬ Still g pre.length) ∧ FreshInts n₀ W x.2.1 x.2.2.1 x.2.2.2
theorem RdX.stays (B n₀ : Nat) (g : Gr) (pre : List Rd) (x : Rd) : Stays B (RdX n₀ g pre x) := (Stays.pure _).and (Stays.row B _ _ _ _ _ _)

section
attribute [local go_sem] Oper.semAt_some
end
end Go.Proofs.Ytplpboknmhgpiaa

/-
  slices.Clone of numbers and of rules: the same in memory of its own.
  Conditions: the lists read as data; they are within the reach.
-/
import Derived.Test.YtplpboknmhgpiaaCEdGCopy
import Derived.Lib.SliceRun
import Derived.Maps.AppendAt
import Derived.Test.YtplpboknmhgpiaaCEdGSeq
import Derived.Shelf.Abstract
import Derived.Shelf.RegionOpen
import Derived.WalkKit
import Derived.OwnWalkIn
import Derived.TacticsInMore
import Derived.LoopNIn
import Derived.LoopIn
import Derived.Sort.LoopGhostIn
import Derived.Test.YtplpboknmhgpiaaCEdNuA
import Derived.Test.YtplpboknmhgpiaaCEdG06T
import Derived.Test.YtplpboknmhgpiaaCEdGOpen
set_option linter.unusedVariables false
set_option linter.unusedSimpArgs false
namespace Go.Proofs.Ytplpboknmhgpiaa
open Go.RowKit Go.MapKept Go.Shelf

/-- A row of one's own, beyond B, that holds numbers. -/
def FreshInts (B : Nat) (w : World) (a : Option Addr) (c : Nat) (zs : List Int) : Prop := w.ownsRow B 3 1 (.slice a zs.length c) zs.length (zs.map (Value.int .i64))
def FreshRules (B : Nat) (w : World) (a : Option Addr) (c : Nat) (rs : List Rl) : Prop := w.ownsRow B 136 2 (.slice a rs.length c) rs.length (rulesCells rs)
theorem row_base {W : World} {base base' : Nat} {e : TypeId} {size : Nat} {v : Value} {k : Nat} {xs : List Value} (h : W.ownsRow base e size v k xs) (hb : base' ≤ base) : W.ownsRow base' e size v k xs := by
  refine ⟨h.1, ?_⟩
  rcases h.2 with hn | ⟨g, cap, cur, hv, hbg, rest⟩
  · exact .inl hn
  · exact .inr ⟨g, cap, cur, hv, Nat.le_trans hb hbg, rest⟩
theorem FreshInts.own {B : Nat} {w : World} {a : Option Addr} {c : Nat} {zs : List Int} (h : FreshInts B w a c zs) : OwnInts w (.slice a zs.length c) zs := row_base h (Nat.zero_le _)
theorem row_beyond {W : World} {B : Nat} {e : TypeId} {size : Nat} {v : Value} {k : Nat} {xs : List Value} (h : W.ownsRow B e size v k xs) {j : Nat} (hj : v.ownBlock = some j) : B ≤ j ∧ j < W.heap.size ∧ ∃ cur, W.heap[j]? = some (.cells cur e (0, 0)) := by
  rcases h.2 with ⟨h0, h1⟩ | ⟨g, cap, cur, h0, hb, hg, _⟩
  · subst h0; cases hj
  · subst h0; cases hj; exact ⟨hb, (Array.getElem?_eq_some_iff.1 hg).1, cur, hg⟩
def ClonedInts (w : World) (zs : List Int) (e : Ending) (w' : World) : Prop := ∃ a c, e = .returned (.slice a zs.length c) ∧ FreshInts w.heap.size w' a c zs ∧ Chg [] w w'
def ClonedRules (w : World) (rs : List Rl) (e : Ending) (w' : World) : Prop := ∃ a c, e = .returned (.slice a rs.length c) ∧ FreshRules w.heap.size w' a c rs ∧ Chg [] w w'

end Go.Proofs.Ytplpboknmhgpiaa
set_option linter.unusedVariables false
set_option linter.unusedSimpArgs false
namespace Go.Proofs.Ytplpboknmhgpiaa
open Go.RowKit Go.MapKept Go.Shelf
attribute [local go_sem] Oper.semAt_some

/-- What lay below n₀, and in block Bl, lies as it lay. -/
structure Keeps (n₀ Bl : Nat) (A B : World) : Prop where
  size : A.heap.size ≤ B.heap.size
  old : ∀ k o, k < n₀ ∨ k = Bl → A.heap[k]? = some o → B.heap[k]? = some o
theorem Keeps.refl (n₀ Bl : Nat) (A : World) : Keeps n₀ Bl A A := ⟨Nat.le_refl _, fun _ _ _ h => h⟩
theorem Keeps.trans {n₀ Bl : Nat} {A B C : World} (h : Keeps n₀ Bl A B) (k : Keeps n₀ Bl B C) : Keeps n₀ Bl A C := ⟨Nat.le_trans h.size k.size, fun j o hj ho => k.old j o hj (h.old j o hj ho)⟩
theorem Keeps.of_chg {n₀ Bl : Nat} {S : List Nat} {A B : World} (h : Chg S A B) (hS : ∀ k ∈ S, n₀ ≤ k ∧ k ≠ Bl) : Keeps n₀ Bl A B :=
  ⟨h.size, fun k o hk ho => h.heap ho (fun hm => by have := hS k hm; rcases hk with h | h <;> omega)⟩
theorem Keeps.of_turn {n₀ Bl B' : Nat} {A B : World} (h : Turn B' A B) (hn : n₀ ≤ B') (hB : Bl < B') : Keeps n₀ Bl A B := by
  obtain ⟨l, hl, hc⟩ := h.chg
  exact .of_chg hc (fun k hk => by simp only [List.mem_singleton] at hk; omega)
theorem Keeps.cell {n₀ Bl : Nat} {A B : World} (h : Keeps n₀ Bl A B) {p : Addr} {v : Value} (hc : A.cell? p = some v) (hp : p.block < n₀ ∨ p.block = Bl) : B.cell? p = some v := by
  obtain ⟨o, ho, _⟩ := cells_of_cell hc
  exact (World.cell?_of_block ((h.old _ _ hp ho).trans ho.symm)).trans hc
theorem kp_old {A B : World} (hs : A.heap.size ≤ B.heap.size) (h : ∀ k, k < A.heap.size → B.heap[k]? = A.heap[k]?) : Kp A B :=
  ⟨hs, fun p v hc => (World.cell?_of_block (h _ (World.block_lt_of_cell? _ _ hc))).trans hc⟩

def Cp.own (p : Cp) : Option Nat := (Value.slice p.2.1 p.1.kids.length p.2.2).ownBlock
/-- What a round is told of the node that it is handed. -/
def CopyX (n₀ : Nat) (ns : List Nd) (pre : List Cp) (p : Cp) (W : World) : Prop :=
  (pre.length < ns.length ∧ ns[pre.length]? = some p.1) ∧ FreshInts n₀ W p.2.1 p.2.2 p.1.kids ∧ (∀ q ∈ pre, ∀ i j, q.own = some i → p.own = some j → i < j)
def encCp (p : Cp) : Array Value := #[.agg (p.1.cells p.2.1 p.1.kids.length p.2.2)]

end Go.Proofs.Ytplpboknmhgpiaa
set_option linter.unusedVariables false
set_option linter.unusedSimpArgs false
namespace Go.Proofs.Ytplpboknmhgpiaa
open Go.RowKit Go.MapKept Go.Shelf

/-- A node's size stays within the row. -/
theorem sizeG_in (g : Gr) (n : Int) : ∃ z : Nat, sizeG g n = z ∧ (0 < z → n = (n.toNat : Int) ∧ n.toNat + z ≤ g.nodes.length ∧ rightB g = true) := by
  unfold sizeG
  cases h : wholeT g with
  | none => exact ⟨0, rfl, fun h => by omega⟩
  | some t =>
    by_cases hn : 0 ≤ n ∧ n < g.nodes.length
    · simp only [if_pos hn]
      obtain ⟨hr, ht⟩ := wholeT_some h
      obtain ⟨z, hh, h1, h2, h3, _⟩ := tabOk_le (tab_ok ht) (Nat.zero_le n.toNat) (by omega)
      rw [Nat.sub_zero] at h1
      rw [h1]
      exact ⟨z, rfl, fun _ => ⟨by omega, h3, hr⟩⟩
    · simp only [if_neg hn]
      exact ⟨0, rfl, fun h => by omega⟩

abbrev Wk := Int × Cp
def encWk (x : Wk) : Array Value := #[.int .i64 x.1, .agg (x.2.1.cells x.2.2.1 x.2.1.kids.length x.2.2.2)]
/-- What a round is told. -/
def WalkX (n₀ N z : Nat) (ns : List Nd) (pre : List Wk) (x : Wk) (W : World) : Prop :=
  (pre.length < z ∧ x.1 = (N : Int) + pre.length ∧ ns[N + pre.length]? = some x.2.1) ∧ FreshInts n₀ W x.2.2.1 x.2.2.2 x.2.1.kids
theorem WalkX.stays (B n₀ N z : Nat) (ns : List Nd) (pre : List Wk) (x : Wk) : Stays B (WalkX n₀ N z ns pre x) := (Stays.pure _).and (Stays.row B _ _ _ _ _ _)

section
attribute [local go_sem] Oper.semAt_some
end

end Go.Proofs.Ytplpboknmhgpiaa
set_option linter.unusedVariables false
set_option linter.unusedSimpArgs false
namespace Go.Proofs.Ytplpboknmhgpiaa
open Go.RowKit Go.MapKept Go.Shelf

/-! ### What is said -/
def ranksL (g : Gr) (j : Nat) : List Int := (List.range g.rules.length).map fun i => (rk g j i : Int)
theorem ranksL_len (g : Gr) (j : Nat) : (ranksL g j).length = g.rules.length := by simp [ranksL]
theorem ranksL_at (g : Gr) (j : Nat) {i : Nat} (hi : i < g.rules.length) : (ranksL g j)[i]? = some (rk g j i : Int) := by simp [ranksL, hi]
theorem callsL_ranks (g : Gr) (j : Nat) : callsL (ranksL g j) = callsR g j := by
  funext q
  simp only [callsL, callsR]
  by_cases hq : q.toNat < g.rules.length
  · rw [ranksL_at g j hq]
    simp
  · rw [List.getElem?_eq_none (by rw [ranksL_len]; omega), rk_out g j (by omega)]
    simp
/-- Whether a rule comes in behind so many rounds. -/
def enters (g : Gr) (j i : Nat) : Bool := decide (rk g j i = 0) && (match g.rules[i]? with | none => false | some r => mayR g j r.body)
def newL (g : Gr) (j k : Nat) : List Int := ((List.range k).filter (enters g j)).map fun (i : Nat) => (i : Int)
theorem newL_succ (g : Gr) (j k : Nat) : newL g j (k + 1) = newL g j k ++ if enters g j k then [(k : Int)] else [] := by
  simp only [newL, List.range_succ, List.filter_append, List.map_append]
  congr 1
  by_cases h : enters g j k <;> simp [h]
theorem newL_le (g : Gr) (j k : Nat) : (newL g j k).length ≤ k := by
  have := List.length_filter_le (enters g j) (List.range k)
  simpa [newL] using this
theorem still_new {g : Gr} {j : Nat} (h : newL g j g.rules.length = []) : Still g j := by
  intro i hi h0
  cases hm : mayR g j g.rules[i].body with
  | false => rfl
  | true =>
    exfalso
    have h1 : (i : Int) ∈ newL g j g.rules.length := by
      simp only [newL, List.mem_map, List.mem_filter, List.mem_range]
      exact ⟨i, ⟨hi, by simp [enters, h0, hi, hm]⟩, rfl⟩
    rw [h] at h1
    cases h1
theorem new_still {g : Gr} {j : Nat} (h : Still g j) : newL g j g.rules.length = [] := by
  simp only [newL, List.map_eq_nil_iff, List.filter_eq_nil_iff, List.mem_range]
  intro i hi
  simp only [enters, List.getElem?_eq_getElem hi, Bool.and_eq_true, decide_eq_true_eq]
  rintro ⟨h0, hm⟩
  rw [h i hi h0] at hm
  cases hm
theorem right_body {g : Gr} (h : rightB g = true) {k : Nat} (hk : k < g.rules.length) : ∃ q : Nat, g.rules[k].body = (q : Int) ∧ q < g.nodes.length := by
  obtain ⟨t, ht, htab, _⟩ := right_tab h
  have h0 := whole_chain ht
  have key : ∀ k, k ≤ g.rules.length → ∃ x, chainT g t (g.rules.drop k) k x = some g.nodes.length := by
    intro k
    induction k with
    | zero => intro _; exact ⟨0, by simpa using h0⟩
    | succ k ih =>
      intro hk
      obtain ⟨x, hx⟩ := ih (by omega)
      obtain ⟨_, _, z, _, _, _, h2⟩ := chain_next (by omega) hx
      exact ⟨_, h2⟩
  obtain ⟨x, hx⟩ := key k (by omega)
  obtain ⟨_, hb, z, hh, hz, _, _⟩ := chain_next hk hx
  exact ⟨x, hb, (chain_le htab hz).1⟩
theorem right_calls {g : Gr} (h : rightB g = true) : ∀ x ∈ g.nodes, x.k = 5 → 0 ≤ x.r ∧ x.r < g.rules.length := by
  intro x hx hk
  obtain ⟨n, hn, rfl⟩ := List.mem_iff_getElem.1 hx
  have h1 := right_node h hn
  simp only [nodeB, nodeN, hk] at h1
  simp at h1
  omega

/-- The ranks while a round's rules are written. -/
def markL (g : Gr) (j k : Nat) : List Int := (List.range g.rules.length).map fun (i : Nat) => if (i : Int) ∈ (newL g j g.rules.length).take k then ((j + 1 : Nat) : Int) else (rk g j i : Int)
theorem markL_len (g : Gr) (j k : Nat) : (markL g j k).length = g.rules.length := by simp [markL]
theorem markL_zero (g : Gr) (j : Nat) : markL g j 0 = ranksL g j := by simp [markL, ranksL]
theorem newL_at {g : Gr} {j k : Nat} {z : Int} (h : (newL g j g.rules.length)[k]? = some z) : ∃ q : Nat, z = q ∧ q < g.rules.length := by
  have h1 := List.mem_of_getElem? h
  simp only [newL, List.mem_map, List.mem_filter, List.mem_range] at h1
  obtain ⟨q, ⟨h2, _⟩, rfl⟩ := h1
  exact ⟨q, rfl, h2⟩
theorem markL_succ {g : Gr} {j k q : Nat} (h : (newL g j g.rules.length)[k]? = some (q : Int)) : markL g j (k + 1) = (markL g j k).set q ((j + 1 : Nat) : Int) := by
  apply List.ext_getElem
  · simp [markL]
  · intro i h1 h2
    rw [List.getElem_set]
    simp only [markL, List.getElem_map, List.getElem_range, List.take_add_one, h, Option.toList_some, List.mem_append, List.mem_singleton]
    by_cases hq : q = i
    · subst hq
      rw [if_pos (.inr rfl), if_pos rfl]
    · rw [if_neg hq]
      have : ¬ ((i : Int) = (q : Int)) := by omega
      simp [this]
theorem markL_end (g : Gr) (j : Nat) : markL g j (newL g j g.rules.length).length = ranksL g (j + 1) := by
  apply List.ext_getElem
  · simp [markL, ranksL]
  · intro i h1 h2
    have hi : i < g.rules.length := by simpa [markL] using h1
    simp only [markL, ranksL, List.getElem_map, List.getElem_range, List.take_length]
    rw [rk_step g j hi]
    have hmem : ((i : Int) ∈ newL g j g.rules.length) ↔ (rk g j i = 0 ∧ mayR g j g.rules[i].body = true) := by
      simp only [newL, List.mem_map, List.mem_filter, List.mem_range]
      constructor
      · rintro ⟨q, ⟨h3, h4⟩, h5⟩
        obtain rfl : q = i := by omega
        simpa [enters, List.getElem?_eq_getElem hi] using h4
      · rintro ⟨h3, h4⟩
        exact ⟨i, ⟨hi, by simp [enters, List.getElem?_eq_getElem hi, h3, h4]⟩, rfl⟩
    by_cases hm : (i : Int) ∈ newL g j g.rules.length
    · rw [if_pos hm, if_pos (hmem.1 hm)]
    · rw [if_neg hm, if_neg (fun h => hm (hmem.2 h))]

/-! ### The walk -/
/-- What is handed out: the round, the rules. -/
abbrev Rd := Nat × Option Addr × Nat × List Int
def encRd (x : Rd) : Array Value := #[.int .i64 x.1, .slice x.2.1 x.2.2.2.length x.2.2.1]
def RdX (n₀ : Nat) (g : Gr) (pre : List Rd) (x : Rd) (W : World) : Prop := (x.1 = pre.length + 1 ∧ x.2.2.2 = newL g pre.length g.rules.length ∧ ¬ Still g pre.length) ∧ FreshInts n₀ W x.2.1 x.2.2.1 x.2.2.2
theorem RdX.stays (B n₀ : Nat) (g : Gr) (pre : List Rd) (x : Rd) : Stays B (RdX n₀ g pre x) := (Stays.pure _).and (Stays.row B _ _ _ _ _ _)

section
attribute [local go_sem] Oper.semAt_some
end
end Go.Proofs.Ytplpboknmhgpiaa

/-
  Package heads: a stack in memory; whether there is one, where a pair stands, whether a place is low, which rules are put into a set.
  Conditions: none.
-/
import Derived.Test.YtnajhcoimohcaaaDoHd1
import Derived.Test.YtnajhcoimohcaaaDoGCopy
set_option linter.unusedVariables false
set_option linter.unusedSimpArgs false
set_option linter.unnecessarySimpa false
namespace Go.Proofs.Ytnajhcoimohcaaa
open Go.RowKit Go.MapKept

structure Fr where
  f : Fm
  bt : Nat
  bi : Nat
def Fr.cells (x : Fr) : List Value := [.int .i64 x.f.rule, .int .i64 x.f.place, .map (some x.bt), .map (some x.bi), .bool x.f.tnt]
def frCells (l : List Fr) : List Value := l.flatMap Fr.cells
theorem frCells_len (l : List Fr) : (frCells l).length = l.length * 5 := flat_len Fr.cells 5 (fun _ => rfl) l
def mapsOf (l : List Fr) : List Nat := l.flatMap fun x => [x.bt, x.bi]
/-- A stack of activations, its cells, its row, its sets. -/
structure StackAt (w : World) (B : Nat) (a : Option Addr) (c : Nat) (l : List Fr) : Prop where
  top : w.heap[B]? = some (.cells #[.bool true, .slice a l.length c] 78 (0, 0))
  row : w.ownsRow 0 83 5 (.slice a l.length c) l.length (frCells l)
  sets : ∀ x ∈ l, SetIs w x.bt x.f.tch ∧ SetIs w x.bi x.f.inv
  apart : (mapsOf l).Nodup
  wf : ∀ x ∈ l, I64 x.f.rule ∧ I64 x.f.place
theorem mem_mapsOf {l : List Fr} {b : Nat} : b ∈ mapsOf l ↔ ∃ x ∈ l, b = x.bt ∨ b = x.bi := by simp [mapsOf]
theorem StackAt.chg0 {w w' : World} {B : Nat} {a : Option Addr} {c : Nat} {l : List Fr} (h : StackAt w B a c l) (hc : Chg [] w w') : StackAt w' B a c l :=
  ⟨hc.heap h.top (by simp), hc.row h.row (fun _ _ => by simp), fun x hx => ⟨(h.sets x hx).1.chg0 hc, (h.sets x hx).2.chg0 hc⟩, h.apart, h.wf⟩
/-- What a stack's changes may touch. -/
def fpS (B : Nat) (a : Option Addr) (c : Nat) (l : List Fr) : List Nat := B :: ((Value.slice a l.length c).ownBlock.toList ++ mapsOf l)
theorem StackAt.chg {w w' : World} {S : List Nat} {B : Nat} {a : Option Addr} {c : Nat} {l : List Fr} (h : StackAt w B a c l) (hc : Chg S w w') (hS : ∀ x ∈ fpS B a c l, x ∉ S) : StackAt w' B a c l :=
  ⟨hc.heap h.top (hS B (by simp [fpS])), hc.row h.row (fun k hk => hS k (by simp [fpS, hk])), fun x hx => ⟨(h.sets x hx).1.chg hc (hS _ (by simp only [fpS, List.mem_cons, List.mem_append, mem_mapsOf]; exact .inr (.inr ⟨x, hx, .inl rfl⟩))), (h.sets x hx).2.chg hc (hS _ (by simp only [fpS, List.mem_cons, List.mem_append, mem_mapsOf]; exact .inr (.inr ⟨x, hx, .inr rfl⟩)))⟩, h.apart, h.wf⟩
theorem StackAt.at {w : World} {B : Nat} {a : Option Addr} {c : Nat} {l : List Fr} (h : StackAt w B a c l) {i : Nat} (hi : i < l.length) :
    ∃ G, a = some ⟨G, 0, none⟩ ∧ l.length ≤ c ∧ c ≤ 9223372036854775807 ∧ w.cell? ⟨G, i * 5, none⟩ = some (.int .i64 l[i].f.rule) ∧ w.cell? ⟨G, i * 5 + 1, none⟩ = some (.int .i64 l[i].f.place) ∧ w.cell? ⟨G, i * 5 + 2, none⟩ = some (.map (some l[i].bt)) ∧ w.cell? ⟨G, i * 5 + 3, none⟩ = some (.map (some l[i].bi)) ∧ w.cell? ⟨G, i * 5 + 4, none⟩ = some (.bool l[i].f.tnt) ∧ (∀ o, w.frozen? ⟨G, o, none⟩ = false) ∧ G < w.heap.size ∧ ∃ cur, w.heap[G]? = some (.cells cur 83 (0, 0)) := by
  obtain ⟨G, rfl, hn, hm, hl, hcur⟩ : ∃ G, a = some ⟨G, 0, none⟩ ∧ l.length ≤ c ∧ c ≤ maxLen ∧ G < w.heap.size ∧ ∃ cur, w.heap[G]? = some (.cells cur 83 (0, 0)) := by
    rcases h.row.2 with ⟨h0, h1⟩ | ⟨g, cap, cur, h0, hb, hg, hn, hc, _⟩
    · omega
    · cases h0; exact ⟨g, rfl, hn, hc, lt_of_block hg, cur, hg⟩
  have key : ∀ r, r < 5 → w.cell? ⟨G, i * 5 + r, none⟩ = l[i].cells[r]? := fun r hr => by
    rw [(row_put h.row (i := i * 5 + r) (by omega)).1]
    have h1 := flat_get Fr.cells 5 (fun _ => rfl) l i r hr
    rw [List.getElem?_eq_getElem hi, Option.bind_some] at h1
    exact h1
  obtain ⟨cur, hcur⟩ := hcur
  exact ⟨G, rfl, hn, by simp only [maxLen] at hm; exact hm, key 0 (by decide), key 1 (by decide), key 2 (by decide), key 3 (by decide), key 4 (by decide), fun o => free_of_cells hcur o, hl, cur, hcur⟩

set_option maxRecDepth 100000 in
set_option maxHeartbeats 1000000 in
theorem newS_any (w : World) : Calls Try.prog 9 #[] w fun e w' => e = .returned (.pointer (some ⟨w.heap.size, 0, none⟩)) ∧ StackAt w' w.heap.size none 0 [] ∧ Chg [] w w' := by
  go_enter Try.func9, Try.ntmps9
  go_wp2_with fail
  go_ret
  exact ⟨rfl, ⟨heap_alloc_same _ _, World.ownsRow_nil _ _ _ _, by simp, List.Pairwise.nil, by simp⟩, (Chg.refl [] w).alloc _⟩

set_option maxRecDepth 100000 in
set_option maxHeartbeats 1000000 in
theorem isS_any (w : World) (B : Nat) (v : Bool) (h : w.cell? ⟨B, 0, none⟩ = some (.bool v)) : Calls Try.prog 39 #[.pointer (some ⟨B, 0, none⟩)] w fun e w' => e = .returned (.bool v) ∧ Chg [] w w' := by
  go_enter Try.func39, Try.ntmps39
  go_wp2_with fail
  go_ret
  exact ⟨rfl, Chg.refl _ _⟩
set_option maxRecDepth 100000 in
set_option maxHeartbeats 1000000 in
theorem isS_nil (w : World) : Calls Try.prog 39 #[.pointer none] w fun e w' => e = .returned (.bool false) ∧ Chg [] w w' := by
  go_enter Try.func39, Try.ntmps39
  go_wp2_with fail
  go_ret
  exact ⟨rfl, Chg.refl _ _⟩

set_option maxRecDepth 100000 in
set_option maxHeartbeats 2000000 in
theorem at1_any (w : World) (p : Nat) (rule place : Int) (u v : Value) (t : Bool) (r q : Int) (hp : w.heap[p]? = some (.cells #[.int .i64 r, .int .i64 q] 63 (0, 0))) :
    Calls Try.prog 60 #[.agg #[.int .i64 rule, .int .i64 place, u, v, .bool t], .pointer (some ⟨p, 0, none⟩)] w fun e w' => e = .returned (.bool (decide (rule = r ∧ place = q))) ∧ Chg [] w w' := by
  obtain ⟨x0, x1⟩ := cells2 hp
  have hl := lt_of_block hp
  go_enter Try.func60, Try.ntmps60
  by_cases h1 : rule = r <;> by_cases h2 : place = q
  all_goals
    go_wp2_with fail
    go_ret
    refine ⟨ret_bool ?_, (Chg.refl [] w).alloc _⟩
    simp [h1, h2]
end Go.Proofs.Ytnajhcoimohcaaa

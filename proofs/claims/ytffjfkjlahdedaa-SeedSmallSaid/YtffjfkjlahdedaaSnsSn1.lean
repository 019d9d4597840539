/-
  SeedSmall: rows of deeds that the call makes.
  Conditions: none.
-/
import Derived.Test.YtffjfkjlahdedaaSnsSn0
import Derived.Test.YtffjfkjlahdedaaSnsSdL
set_option linter.unusedVariables false
set_option linter.unusedSimpArgs false
set_option linter.unnecessarySimpa false
namespace Go.Proofs.Ytffjfkjlahdedaa
open Go.RowKit Go.MapKept

theorem Try.infoDeed : (Try.prog.info? 54).map (fun i => (i.zero, i.size, i.bytes)) = some (some (.agg #[.int .i64 0, .int .i64 0, .int .i64 0, .int .i64 0, .int .i64 0, .slice none 0 0]), 6, 64) := by kernel_rfl
structure Dw where
  y : Ds
  ta : Option Addr
  tc : Nat
def Dw.cells (x : Dw) : List Value := [.int .i64 x.y.what, .int .i64 x.y.rule, .int .i64 x.y.place, .int .i64 x.y.en, .int .i64 x.y.lv, .slice x.ta x.y.tree.length x.tc]
def dwCells (l : List Dw) : List Value := l.flatMap Dw.cells
theorem dwCells_len (l : List Dw) : (dwCells l).length = l.length * 6 := flat_len Dw.cells 6 (fun _ => rfl) l
theorem dwCells_append (l m : List Dw) : dwCells (l ++ m) = dwCells l ++ dwCells m := by simp [dwCells]
/-- A tree, made since. -/
def FreshTw (b : Nat) (w : World) (a : Option Addr) (c : Nat) (t : List Tw) : Prop := w.ownsRow b 33 5 (.slice a t.length c) t.length (twCells t)
/-- A row of deeds, made since. -/
structure DeedsRow (b : Nat) (w : World) (a : Option Addr) (c : Nat) (l : List Dw) : Prop where
  row : w.ownsRow b 54 6 (.slice a l.length c) l.length (dwCells l)
  ok : ∀ x ∈ l, x.y.Wf ∧ FreshTw b w x.ta x.tc x.y.tree ∧ x.y.tree.length ≤ 4
theorem DeedsRow.nil (b : Nat) (w : World) : DeedsRow b w none 0 [] := ⟨World.ownsRow_nil _ _ _ _, fun x hx => by cases hx⟩
theorem DeedsRow.chg0 {b : Nat} {w w' : World} {a : Option Addr} {c : Nat} {l : List Dw} (h : DeedsRow b w a c l) (hc : Chg [] w w') : DeedsRow b w' a c l :=
  ⟨hc.row h.row (fun _ _ => by simp), fun x hx => ⟨(h.ok x hx).1, hc.row (h.ok x hx).2.1 (fun _ _ => by simp), (h.ok x hx).2.2⟩⟩
theorem DeedsRow.push {b : Nat} {w w3 w5 : World} {a : Option Addr} {c : Nat} {l : List Dw} (h : DeedsRow b w a c l) (hA : Chg [] w w3) (xs : List Dw) (hx : ∀ x ∈ xs, x.y.Wf ∧ FreshTw b w3 x.ta x.tc x.y.tree ∧ x.y.tree.length ≤ 4) {a5 : Option Addr} {c5 n5 : Nat} (hn5 : n5 = l.length + xs.length)
    (hrow : w5.ownsRow b 54 6 (.slice a5 n5 c5) n5 (dwCells l ++ dwCells xs)) (hg : w3.grownBy w5 (Value.slice a l.length c).ownBlock) : DeedsRow b w5 a5 c5 (l ++ xs) ∧ Chg ((Value.slice a l.length c).ownBlock.toList) w w5 := by
  subst hn5
  have h3 := h.chg0 hA
  have hcG : Chg (Value.slice a l.length c).ownBlock.toList w3 w5 := (Chg.refl _ w3).grown hg (fun k hk => .inl (by rw [hk]; simp))
  have keep : ∀ {u k : _} {z : List Tw}, FreshTw b w3 u k z → FreshTw b w5 u k z := fun {u k z} hz =>
    hcG.rowOf hz (fun j hj => by
      obtain ⟨_, _, cur, hcur⟩ := row_beyond h3.row (by simpa using hj)
      exact .of_cells hcur (by decide))
  refine ⟨⟨?_, fun x hm => ?_⟩, (hA.any).tr hcG⟩
  · rw [List.length_append, dwCells_append]; exact hrow
  · rcases List.mem_append.1 hm with hm | hm
    · exact ⟨(h3.ok x hm).1, keep (h3.ok x hm).2.1, (h3.ok x hm).2.2⟩
    · exact ⟨(hx x hm).1, keep (hx x hm).2.1, (hx x hm).2.2⟩
theorem freshTw_len {b : Nat} {w : World} {a : Option Addr} {c : Nat} {t : List Tw} (h : FreshTw b w a c t) : t.length ≤ c ∧ c ≤ 9223372036854775807 ∧ (a = none → t.length = 0 ∧ c = 0) := by
  rcases h.2 with ⟨h0, h1⟩ | ⟨g, cap, cur, h0, hb, hg, hn, hm, _⟩
  · simp only [Value.slice.injEq] at h0
    obtain ⟨_, h2, h3⟩ := h0
    exact ⟨by omega, by omega, fun _ => ⟨h2, h3⟩⟩
  · cases h0
    simp only [maxLen] at hm
    exact ⟨hn, hm, fun h => by cases h⟩
/-- As a row of deeds that the statement reads. -/
theorem DeedsRow.deeds {b : Nat} {w : World} {a : Option Addr} {c : Nat} {l : List Dw} (h : DeedsRow b w a c l) : l.length ≤ c ∧ c ≤ 9223372036854775807 ∧ Deeds w a (l.map (·.y)) ∧ ∀ y ∈ l.map (·.y), y.Wf := by
  have hlc : l.length ≤ c ∧ c ≤ 9223372036854775807 := by
    rcases h.row.2 with ⟨h0, h1⟩ | ⟨g, cap, cur, h0, hb, hg, hn, hm, _⟩
    · simp only [Value.slice.injEq] at h0
      obtain ⟨_, h2, h3⟩ := h0
      omega
    · cases h0
      simp only [maxLen] at hm
      exact ⟨hn, hm⟩
  refine ⟨hlc.1, hlc.2, fun i hi => ?_, fun y hy => ?_⟩
  · rw [List.length_map] at hi
    obtain ⟨G, rfl⟩ : ∃ G, a = some ⟨G, 0, none⟩ := by
      rcases h.row.2 with ⟨h0, h1⟩ | ⟨g, cap, cur, h0, _⟩
      · omega
      · cases h0; exact ⟨g, rfl⟩
    have key : ∀ r, r < 6 → w.cell? ⟨G, i * 6 + r, none⟩ = l[i].cells[r]? := fun r hr => by
      rw [(row_put h.row (i := i * 6 + r) (by omega)).1]
      have h1 := flat_get Dw.cells 6 (fun _ => rfl) l i r hr
      rw [List.getElem?_eq_getElem hi, Option.bind_some] at h1
      exact h1
    obtain ⟨hwf, hrow, hl4⟩ := h.ok _ (List.getElem_mem hi)
    obtain ⟨t2, t3, t4⟩ := freshTw_len hrow
    refine ⟨G, 0, l[i].ta, l[i].y.tree.length, l[i].tc, rfl, ?_⟩
    rw [Nat.zero_add, List.getElem_map]
    exact ⟨key 0 (by decide), key 1 (by decide), key 2 (by decide), key 3 (by decide), key 4 (by decide), key 5 (by decide), rfl, t2, t3, t4, twigs_row hrow⟩
  · obtain ⟨x, hx, rfl⟩ := List.mem_map.1 hy
    exact (h.ok x hx).1
/-- What SeedDoes tells of such a row. -/
theorem seedDoes_row (w : World) (b : Nat) (a : Option Addr) (n c : Nat) (l : List Dw) (h : DeedsRow b w a c l) (hn : n = l.length) (hs : n ≤ 1000) :
    Calls Try.prog 5 #[.slice a n c] w fun e w' => e = .returned (.bool true) ∧ Chg [] w w' := by
  obtain ⟨h1, h2, h3, h4⟩ := h.deeds
  refine seedDoes_any w a n c (l.map (·.y)) (by rw [List.length_map]; exact hn) (by omega) h2 h3 h4 (by omega) (fun y hy => ?_)
  obtain ⟨x, hx, rfl⟩ := List.mem_map.1 hy
  have := (h.ok x hx).2.2
  omega
theorem and3s : ∀ a, a < 64 → ∀ b, b < 64 → bits BinOp.and IntKind.i64 ((64 * a + b : Nat) : Int) 3 = (((64 * a + b) % 4 : Nat) : Int) := by decide +kernel
theorem and3 (x : Nat) (h : x < 4096) : bits BinOp.and IntKind.i64 ((x : Nat) : Int) 3 = ((x % 4 : Nat) : Int) := by
  have := and3s (x / 64) (by omega) (x % 64) (by omega)
  rwa [Nat.div_add_mod] at this
theorem and3n (n k : Nat) (hn : n < 4096) : ∃ m : Nat, m < 4 ∧ bits BinOp.and IntKind.i64 ((n : Int) / 2 ^ (2 * k)) 3 = (m : Int) := by
  refine ⟨n / 2 ^ (2 * k) % 4, Nat.mod_lt _ (by decide), ?_⟩
  have h := and3 (n / 2 ^ (2 * k)) (Nat.lt_of_le_of_lt (Nat.div_le_self _ _) hn)
  rw [← h]
  congr 1
theorem and1s : ∀ k, k < 6 → ∃ r, r < 2 ∧ bits BinOp.and IntKind.i64 ((k : Nat) : Int) 1 = ((r : Nat) : Int) := by
  have h : ∀ k, k < 6 → bits BinOp.and IntKind.i64 ((k : Nat) : Int) 1 = ((k % 2 : Nat) : Int) := by decide +kernel
  exact fun k hk => ⟨k % 2, Nat.mod_lt _ (by decide), h k hk⟩
theorem tmodB (x : Int) (h : 0 ≤ x) (d : Int) (hd : 0 < d) : ∃ r : Int, Int.tmod x d = r ∧ 0 ≤ r ∧ r < d :=
  ⟨_, rfl, by rw [Int.tmod_eq_emod_of_nonneg h]; exact Int.emod_nonneg _ (by omega), by rw [Int.tmod_eq_emod_of_nonneg h]; exact Int.emod_lt_of_pos _ hd⟩
theorem quoB (n : Nat) (h : n < 4096) (d : Int) (hd : 1 ≤ d) : ∃ r : Int, IntKind.i64.wrap (Int.tdiv (n : Int) d) = r ∧ 0 ≤ r ∧ r ≤ 4096 :=
  ⟨_, rfl, by
    have h1 := IntWalk.tdiv_le (n : Int) d (by omega) hd
    rw [IntWalk.i64_quo _ _ ⟨by omega, by omega, hd⟩]
    omega⟩
theorem freshOne (b : Nat) (w : World) (hb : b ≤ w.heap.size) (u : Int) {w' : World} (hc : Chg [] (w.alloc (.cells #[.int .i64 u, .int .i64 0, .int .i64 0, .int .i64 0, .int .i64 0] 33)) w') : FreshTw b w' (some ⟨w.heap.size, 0, none⟩) 1 [⟨u, 0, 0, 0, 0⟩] :=
  hc.row (⟨rfl, .inr ⟨w.heap.size, 1, #[.int .i64 u, .int .i64 0, .int .i64 0, .int .i64 0, .int .i64 0], rfl, hb, heap_alloc_same _ _, Nat.le_refl _, by decide, rfl, rfl⟩⟩) (fun _ _ => by simp)
end Go.Proofs.Ytffjfkjlahdedaa

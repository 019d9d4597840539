/-
  The document's store: End, Grow.
  Conditions: none.
-/
import Derived.Test.YtffjfkjlahdedaaSnsSrA
import Derived.StillTailTactics
set_option linter.unusedVariables false
set_option linter.unusedSimpArgs false
set_option linter.unnecessarySimpa false
namespace Go.Proofs.Ytffjfkjlahdedaa
open Go.RowKit Go.MapKept

/-- A pair less. -/
theorem RefS.pop {NB : Nat} {w : World} {B : Nat} {a : Option Addr} {c : Nat} {l : List Rs} (h : RefS NB w B a c l) {n : Nat} (hn : n + 1 = l.length) :
    RefS NB (w.setCell ⟨B, 0, none⟩ (.slice a n c)) B a c (l.take n) ∧ Chg [B] w (w.setCell ⟨B, 0, none⟩ (.slice a n c)) := by
  have hset := heap_setCell_same h.top 0 (.slice a n c)
  have hcS := (Chg.refl [B] w).setCell (p := ⟨B, 0, none⟩) (.inl (by simp)) (.slice a n c)
  have hne : ∀ k ∈ [B], ∀ e, 52 ≠ e → NotRow w e k := fun k hk e he => by
    simp only [List.mem_singleton] at hk
    subst hk
    exact .of_cells h.top he
  obtain ⟨G, eG, -⟩ := h.at (i := n) (by omega)
  have ht := row_take h.row (m := n) (by omega) (by rw [eG]; simp)
  have e2 : (l.take n).length = n := by rw [List.length_take]; omega
  have e1 : (rsCells l).take (n * 6) = rsCells (l.take n) := by
    have h1 : rsCells l = rsCells (l.take n) ++ rsCells (l.drop n) := by rw [← rsCells_append, List.take_append_drop]
    have h2 : (rsCells (l.take n)).length = n * 6 := by rw [rsCells_len, e2]
    rw [h1, List.take_left' h2]
  rw [e1] at ht
  refine ⟨⟨?_, ?_, fun x hx => ?_, Nat.lt_of_lt_of_le h.ban hcS.size⟩, hcS⟩
  · rw [e2]; simpa using hset
  · rw [e2]; exact hcS.rowOf ht (fun k hk => hne k hk _ (by decide))
  · exact (h.trees x (List.mem_of_mem_take hx)).chg hcS (fun k hk => hne k hk _ (by decide))

theorem set6 {w : World} {b : Nat} {z0 z1 z2 z3 z4 z5 : Value} {t : TypeId} (h : w.heap[b]? = some (.cells #[z0, z1, z2, z3, z4, z5] t (0, 0))) (v0 v1 v2 v3 v4 v5 : Value) :
    ((((((w.setCell ⟨b, 0, none⟩ v0).setCell ⟨b, 1, none⟩ v1).setCell ⟨b, 2, none⟩ v2).setCell ⟨b, 3, none⟩ v3).setCell ⟨b, 4, none⟩ v4).setCell ⟨b, 5, none⟩ v5).heap[b]? = some (.cells #[v0, v1, v2, v3, v4, v5] t (0, 0)) ∧
    Chg [b] w ((((((w.setCell ⟨b, 0, none⟩ v0).setCell ⟨b, 1, none⟩ v1).setCell ⟨b, 2, none⟩ v2).setCell ⟨b, 3, none⟩ v3).setCell ⟨b, 4, none⟩ v4).setCell ⟨b, 5, none⟩ v5) := by
  have h1 := heap_setCell_same (heap_setCell_same (heap_setCell_same (heap_setCell_same (heap_setCell_same (heap_setCell_same h 0 v0) 1 v1) 2 v2) 3 v3) 4 v4) 5 v5
  refine ⟨by simpa using h1, (((((((Chg.refl [b] w).setCell (p := ⟨b, 0, none⟩) (.inl (by simp)) _).setCell (p := ⟨b, 1, none⟩) (.inl (by simp)) _).setCell (p := ⟨b, 2, none⟩) (.inl (by simp)) _).setCell (p := ⟨b, 3, none⟩) (.inl (by simp)) _).setCell (p := ⟨b, 4, none⟩) (.inl (by simp)) _).setCell (p := ⟨b, 5, none⟩) (.inl (by simp)) _)⟩
theorem cells6 {w : World} {b : Nat} {v0 v1 v2 v3 v4 v5 : Value} {t : TypeId} {m : Nat × Nat} (h : w.heap[b]? = some (.cells #[v0, v1, v2, v3, v4, v5] t m)) :
    w.cell? ⟨b, 0, none⟩ = some v0 ∧ w.cell? ⟨b, 1, none⟩ = some v1 ∧ w.cell? ⟨b, 2, none⟩ = some v2 ∧ w.cell? ⟨b, 3, none⟩ = some v3 ∧ w.cell? ⟨b, 4, none⟩ = some v4 ∧ w.cell? ⟨b, 5, none⟩ = some v5 :=
  ⟨cell_of_cells h 0, cell_of_cells h 1, cell_of_cells h 2, cell_of_cells h 3, cell_of_cells h 4, cell_of_cells h 5⟩

set_option maxRecDepth 100000 in
set_option maxHeartbeats 4000000 in
theorem endR_any {NB : Nat} (w : World) (B : Nat) (a : Option Addr) (c : Nat) (l : List Rs) (h : RefS NB w B a c l) (hl : l.length ≤ 1000000) :
    Calls Try.prog 21 #[.pointer (some ⟨B, 0, none⟩)] w (OpS NB w B a c l (rss l).dropLast (if rss l = [] then 5 else 0)) := by
  obtain ⟨n, hn⟩ : ∃ n, n = l.length := ⟨_, rfl⟩
  have x0 := cells1 h.top
  rw [← hn] at x0 hl
  have hBl := lt_of_block h.top
  cases n with
  | zero =>
    have e : l = [] := List.eq_nil_of_length_eq_zero hn.symm
    subst e
    rw [if_pos (show rss [] = [] from rfl)]
    have HH := Lib.hid h
    clear h hn
    go_enter Try.func21, Try.ntmps21
    go_wp2_with fail
    go_ret
    exact ⟨a, c, [], rfl, HH.out, rfl, Chg.refl _ _, fun x hx => .inl hx⟩
  | succ n =>
    have hw1 : IntKind.i64.wrap (((n + 1 : Nat) : Int) - 1) = n := by rw [show ((n + 1 : Nat) : Int) - 1 = n by omega]; exact IntWalk.i64_in _ (by omega)
    have hz0 : (((n + 1 : Nat) : Int) == 0) = false := by simp only [beq_eq_false_iff_ne, ne_eq]; omega
    have hz9 : ((n : Int) + 1 == 0) = false := by simp only [beq_eq_false_iff_ne, ne_eq]; omega
    have hwn : IntKind.i64.wrap (n : Int) = n := IntWalk.i64_in _ (by omega)
    obtain ⟨G, eG, hc1, hc2, -⟩ := h.at (i := n) (by omega)
    subst eG
    rw [← hn] at hc1
    have hnc : n ≤ c := by omega
    have hnc1 : n + 1 ≤ c := by omega
    have hl0 : ¬ rss l = [] := fun e => by have := congrArg List.length e; rw [rss_len, ← hn] at this; simp at this
    rw [if_neg hl0]
    have HH := Lib.hid (And.intro h hn)
    clear h hn hl0
    go_enter Try.func21, Try.ntmps21
    go_wp2_with fail
    try simp only [hz9]
    go_still_tail 14, (by kernel_rfl)
    change wpList _ _ _ _ _ w.drew
    have hdw := (Chg.refl [] w).drew
    obtain ⟨w6, e6⟩ : ∃ z, z = w.drew := ⟨_, rfl⟩
    rw [← e6] at hdw ⊢
    have ht := (HH.out.1.chg0 hdw).top
    rw [← HH.out.2] at ht
    have y0 := cells1 ht
    have fB := free_of_cells ht 0
    have hpop := (HH.out.1.chg0 hdw).pop HH.out.2
    have HP := Lib.hid (And.intro hpop hdw)
    clear e6 ht hpop hdw x0
    go_wp2_with fail
    go_ret
    refine ⟨some ⟨G, 0, none⟩, c, l.take n, rfl, HP.out.1.1, ?_, ?_, fun x hx => .inl ?_⟩
    · rw [List.dropLast_eq_take, rss_len, ← HH.out.2]; simp [rss, List.map_take]
    · exact HP.out.2.any.tr (HP.out.1.2.mono (fun j hj => .inl (by simp only [List.mem_singleton] at hj; simp [hj])))
    · simpa [fpA, Value.ownBlock] using hx

/-- The last pair's cells, another. -/
theorem RefS.last {NB : Nat} {w w5 : World} {B G : Nat} {c : Nat} {l : List Rs} (h : RefS NB w B (some ⟨G, 0, none⟩) c l) {n : Nat} (hn : n + 1 = l.length) (y : Rs) (hc : Chg [G] w w5) (hrow : w5.ownsRow 0 56 6 (.slice (some ⟨G, 0, none⟩) l.length c) l.length (rsCells (l.take n) ++ y.cells))
    (ht : TreeN NB w (.slice y.a (Found.t y.f).length y.c) (Found.t y.f)) : RefS NB w5 B (some ⟨G, 0, none⟩) c (l.take n ++ [y]) := by
  have hlen : (l.take n ++ [y]).length = l.length := by rw [List.length_append, List.length_take]; simp; omega
  obtain ⟨_, _, _, _, _, _, _, _, _, _, _, _, cur, hcur⟩ := h.at (i := n) (by omega)
  rename_i G' eG' _ _ _ _ _ _ _ _ _ _
  cases eG'
  have hnt : ∀ k ∈ [G], NotRow w 33 k := fun k hk => by
    simp only [List.mem_singleton] at hk
    subst hk
    exact .of_cells hcur (by decide)
  have hBG : B ∉ [G] := fun hm => by
    simp only [List.mem_singleton] at hm
    subst hm
    rw [h.top] at hcur
    simp at hcur
  refine ⟨?_, ?_, fun x hx => ?_, Nat.lt_of_lt_of_le h.ban hc.size⟩
  · rw [hlen]; exact hc.heap h.top hBG
  · rw [hlen, rsCells_append]
    have e : rsCells [y] = y.cells := by simp [rsCells]
    rw [e]
    exact hrow
  · rcases List.mem_append.1 hx with hx | hx
    · exact (h.trees x (List.mem_of_mem_take hx)).chg hc hnt
    · simp only [List.mem_singleton] at hx
      subst hx
      exact ht.chg hc hnt
end Go.Proofs.Ytffjfkjlahdedaa

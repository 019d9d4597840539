/-
  The statements' history in memory: what lies apart; rows that grow; the row of those that stand is cut.
  Conditions: none.
-/
import Derived.Test.YtnajhcoimohcaaaSmHs2
set_option linter.unusedVariables false
set_option linter.unusedSimpArgs false
set_option linter.unnecessarySimpa false
namespace Go.Proofs.Ytnajhcoimohcaaa
open Go.RowKit Go.MapKept

def fpH (H : Nat) (x : Hst) : List Nat := H :: ((Value.slice x.la x.l.length x.lc).ownBlock.toList ++ ((Value.slice x.ra x.rs.length x.rc).ownBlock.toList ++ (Value.slice x.ta x.ts.length x.tc).ownBlock.toList))
theorem row_up {w : World} {base e size n : Nat} {v : Value} {xs : List Value} (b : Nat) (h : w.ownsRow base e size v n xs) (hb : ∀ k, v.ownBlock = some k → b ≤ k) : w.ownsRow b e size v n xs := by
  refine ⟨h.1, ?_⟩
  rcases h.2 with hn | ⟨g, cap, cur, hv, hbg, rest⟩
  · exact .inl hn
  · exact .inr ⟨g, cap, cur, hv, hb g (by rw [hv]; rfl), rest⟩
theorem HistAt.fpKind {b : Nat} {w : World} {H B : Nat} {x : Hst} (h : HistAt b w H B x) {k : Nat} (hk : k ∈ fpH H x) :
    b ≤ k ∧ ∃ cs t, w.heap[k]? = some (.cells cs t (0, 0)) ∧ t ≠ 78 ∧ t ≠ 83 := by
  simp only [fpH, List.mem_cons, List.mem_append, Option.mem_toList] at hk
  rcases hk with rfl | hk | hk | hk
  · exact ⟨h.beyond, _, _, h.top, by decide, by decide⟩
  · obtain ⟨h1, _, cur, h2⟩ := row_beyond h.rowL hk
    exact ⟨h1, _, _, h2, by decide, by decide⟩
  · obtain ⟨h1, _, cur, h2⟩ := row_beyond h.rowR hk
    exact ⟨h1, _, _, h2, by decide, by decide⟩
  · obtain ⟨h1, _, cur, h2⟩ := row_beyond h.rowT hk
    exact ⟨h1, _, _, h2, by decide, by decide⟩
theorem StackAt.fpKind {w : World} {B : Nat} {a : Option Addr} {c : Nat} {l : List Fr} (h : StackAt w B a c l) {k : Nat} (hk : k ∈ fpS B a c l) {cs : Array Value} {t : TypeId} (ht : w.heap[k]? = some (.cells cs t (0, 0))) :
    t = 78 ∨ t = 83 := by
  simp only [fpS, List.mem_cons, List.mem_append, Option.mem_toList] at hk
  rcases hk with rfl | hk | hk
  · have := h.top
    rw [ht] at this
    simp only [Option.some.injEq, Obj.cells.injEq] at this
    exact .inl this.2.1
  · obtain ⟨_, _, cur, h2⟩ := row_beyond h.row hk
    rw [ht] at h2
    simp only [Option.some.injEq, Obj.cells.injEq] at h2
    exact .inr h2.2.1
  · obtain ⟨es, cl, h2⟩ := h.isMap hk
    rw [ht] at h2
    cases h2
theorem hist_apart {b : Nat} {w : World} {H B B2 : Nat} {x : Hst} {a : Option Addr} {c : Nat} {l : List Fr} (hs : StackAt w B a c l) (h : HistAt b w H B2 x) {k : Nat} (h1 : k ∈ fpS B a c l) (h2 : k ∈ fpH H x) : False := by
  obtain ⟨-, cs, t, e, n1, n2⟩ := h.fpKind h2
  rcases hs.fpKind h1 e with e | e
  · exact n1 e
  · exact n2 e
theorem HistAt.chg {b : Nat} {w w' : World} {S : List Nat} {H B : Nat} {x : Hst} (h : HistAt b w H B x) (hc : Chg S w w') (hS : ∀ k ∈ fpH H x, k ∉ S) : HistAt b w' H B x :=
  ⟨hc.heap h.top (hS H (by simp [fpH])), hc.row h.rowL (fun k hk => hS k (by simp [fpH, hk])), hc.row h.rowR (fun k hk => hS k (by simp [fpH, hk])), hc.row h.rowT (fun k hk => hS k (by simp [fpH, hk])), h.beyond⟩
theorem HistAt.keepS {b : Nat} {w w' : World} {H B B2 : Nat} {x : Hst} {a : Option Addr} {c : Nat} {l : List Fr} (h : HistAt b w H B2 x) (hs : StackAt w B a c l) (hc : Chg (fpS B a c l) w w') : HistAt b w' H B2 x :=
  h.chg hc fun _ h1 h2 => hist_apart hs h h2 h1
theorem StackAt.keepH {b : Nat} {w w' : World} {H B B2 : Nat} {x : Hst} {a : Option Addr} {c : Nat} {l : List Fr} (hs : StackAt w B a c l) (h : HistAt b w H B2 x) (hc : Chg (fpH H x) w w') : StackAt w' B a c l :=
  hs.chg hc fun _ h1 h2 => hist_apart hs h h1 h2
theorem sdCells_append (l m : List Sd) : sdCells (l ++ m) = sdCells l ++ sdCells m := by simp [sdCells]
theorem rdCells_append (l m : List Rd) : rdCells (l ++ m) = rdCells l ++ rdCells m := by simp [rdCells]
theorem tcCells_append (l m : List Tc) : tcCells (l ++ m) = tcCells l ++ tcCells m := by simp [tcCells]
theorem HistAt.pushL {b : Nat} {w wA w1 : World} {H B : Nat} {x : Hst} (h : HistAt b w H B x) (hbw : b ≤ w.heap.size) (hA : Chg [] w wA) (y : Sd) {a2 : Option Addr} {c2 : Nat} (hr : w1.ownsRow 0 40 3 (Value.slice a2 (x.l.length + 1) c2) (x.l.length + 1) (sdCells x.l ++ y.cells)) (hg : wA.grownBy w1 (Value.slice x.la x.l.length x.lc).ownBlock) (hk : (Value.slice a2 (x.l.length + 1) c2).ownBlock = (Value.slice x.la x.l.length x.lc).ownBlock ∨ (Value.slice a2 (x.l.length + 1) c2).ownBlock = some wA.heap.size) :
    HistAt b (w1.setCell ⟨H, 1, none⟩ (Value.slice a2 (x.l.length + 1) c2)) H B { x with l := x.l ++ [y], la := a2, lc := c2 } ∧ Chg (fpH H x) w (w1.setCell ⟨H, 1, none⟩ (Value.slice a2 (x.l.length + 1) c2)) ∧ ∀ k ∈ fpH H { x with l := x.l ++ [y], la := a2, lc := c2 }, k ∈ fpH H x ∨ w.heap.size ≤ k := by
  have hA2 := h.chg0 hA
  have hcG : Chg (Value.slice x.la x.l.length x.lc).ownBlock.toList wA w1 := (Chg.refl _ wA).grown hg (fun k hk => .inl (by rw [hk]; simp))
  have hblk : ∀ k, (Value.slice a2 (x.l.length + 1) c2).ownBlock = some k → (Value.slice x.la x.l.length x.lc).ownBlock = some k ∨ wA.heap.size ≤ k := fun k hk2 => by
    rcases hk with e | e
    · rw [e] at hk2; exact .inl hk2
    · rw [e] at hk2; cases hk2; exact .inr (Nat.le_refl _)
  have hB : w1.heap[H]? = _ := grown_heap hg hA2.top (fun he => by
    obtain ⟨_, _, cur, hcur⟩ := row_beyond hA2.rowL he
    rw [hA2.top] at hcur
    simp at hcur)
  have hset := heap_setCell_same hB 1 (Value.slice a2 (x.l.length + 1) c2)
  have hcS := (Chg.refl [H] w1).setCell (p := ⟨H, 1, none⟩) (.inl (by simp)) (Value.slice a2 (x.l.length + 1) c2)
  have keep : ∀ {e size n : Nat} {u : Value} {xs : List Value}, e ≠ 40 → e ≠ 31 → wA.ownsRow b e size u n xs → (w1.setCell ⟨H, 1, none⟩ (Value.slice a2 (x.l.length + 1) c2)).ownsRow b e size u n xs := fun {e size n u xs} ne1 ne2 hrow => by
    refine hcS.rowOf (hcG.rowOf hrow (fun k hk3 => ?_)) (fun k hk3 => ?_)
    · simp only [Option.mem_toList] at hk3
      obtain ⟨_, _, cur, hcur⟩ := row_beyond hA2.rowL hk3
      exact .of_cells hcur (fun e => ne1 e.symm)
    · simp only [List.mem_singleton] at hk3
      subst hk3
      exact .of_cells hB (fun e => ne2 e.symm)
  have hsz := hA.size
  refine ⟨⟨by simpa using hset, ?_, ?_, ?_, h.beyond⟩, ?_, fun k hk3 => ?_⟩
  · simp only [List.length_append, List.length_singleton]
    rw [sdCells_append, show sdCells [y] = y.cells by simp [sdCells]]
    refine hcS.rowOf (row_up b hr (fun k hk3 => ?_)) (fun k hk3 => ?_)
    · rcases hblk k hk3 with e | e
      · exact (row_beyond hA2.rowL e).1
      · omega
    · simp only [List.mem_singleton] at hk3
      subst hk3
      exact .of_cells hB (by decide)
  · exact keep (by decide) (by decide) hA2.rowR
  · exact keep (by decide) (by decide) hA2.rowT
  · refine ((hA.any (S := fpH H x)).grown hg (fun k hk3 => .inl (by simp [fpH, hk3]))).setCell (p := ⟨H, 1, none⟩) (.inl (by simp [fpH])) _
  · simp only [fpH, List.mem_cons, List.mem_append, Option.mem_toList, List.length_append, List.length_singleton] at hk3 ⊢
    rcases hk3 with e | e | e | e
    · exact .inl (.inl e)
    · rcases hblk k e with e | e
      · exact .inl (.inr (.inl e))
      · exact .inr (by omega)
    · exact .inl (.inr (.inr (.inl e)))
    · exact .inl (.inr (.inr (.inr e)))
theorem HistAt.pushR {b : Nat} {w wA w1 : World} {H B : Nat} {x : Hst} (h : HistAt b w H B x) (hbw : b ≤ w.heap.size) (hA : Chg [] w wA) (y : Rd) {a2 : Option Addr} {c2 : Nat} (hr : w1.ownsRow 0 37 2 (Value.slice a2 (x.rs.length + 1) c2) (x.rs.length + 1) (rdCells x.rs ++ y.cells)) (hg : wA.grownBy w1 (Value.slice x.ra x.rs.length x.rc).ownBlock) (hk : (Value.slice a2 (x.rs.length + 1) c2).ownBlock = (Value.slice x.ra x.rs.length x.rc).ownBlock ∨ (Value.slice a2 (x.rs.length + 1) c2).ownBlock = some wA.heap.size) :
    HistAt b (w1.setCell ⟨H, 2, none⟩ (Value.slice a2 (x.rs.length + 1) c2)) H B { x with rs := x.rs ++ [y], ra := a2, rc := c2 } ∧ Chg (fpH H x) w (w1.setCell ⟨H, 2, none⟩ (Value.slice a2 (x.rs.length + 1) c2)) ∧ ∀ k ∈ fpH H { x with rs := x.rs ++ [y], ra := a2, rc := c2 }, k ∈ fpH H x ∨ w.heap.size ≤ k := by
  have hA2 := h.chg0 hA
  have hcG : Chg (Value.slice x.ra x.rs.length x.rc).ownBlock.toList wA w1 := (Chg.refl _ wA).grown hg (fun k hk => .inl (by rw [hk]; simp))
  have hblk : ∀ k, (Value.slice a2 (x.rs.length + 1) c2).ownBlock = some k → (Value.slice x.ra x.rs.length x.rc).ownBlock = some k ∨ wA.heap.size ≤ k := fun k hk2 => by
    rcases hk with e | e
    · rw [e] at hk2; exact .inl hk2
    · rw [e] at hk2; cases hk2; exact .inr (Nat.le_refl _)
  have hB : w1.heap[H]? = _ := grown_heap hg hA2.top (fun he => by
    obtain ⟨_, _, cur, hcur⟩ := row_beyond hA2.rowR he
    rw [hA2.top] at hcur
    simp at hcur)
  have hset := heap_setCell_same hB 2 (Value.slice a2 (x.rs.length + 1) c2)
  have hcS := (Chg.refl [H] w1).setCell (p := ⟨H, 2, none⟩) (.inl (by simp)) (Value.slice a2 (x.rs.length + 1) c2)
  have keep : ∀ {e size n : Nat} {u : Value} {xs : List Value}, e ≠ 37 → e ≠ 31 → wA.ownsRow b e size u n xs → (w1.setCell ⟨H, 2, none⟩ (Value.slice a2 (x.rs.length + 1) c2)).ownsRow b e size u n xs := fun {e size n u xs} ne1 ne2 hrow => by
    refine hcS.rowOf (hcG.rowOf hrow (fun k hk3 => ?_)) (fun k hk3 => ?_)
    · simp only [Option.mem_toList] at hk3
      obtain ⟨_, _, cur, hcur⟩ := row_beyond hA2.rowR hk3
      exact .of_cells hcur (fun e => ne1 e.symm)
    · simp only [List.mem_singleton] at hk3
      subst hk3
      exact .of_cells hB (fun e => ne2 e.symm)
  have hsz := hA.size
  refine ⟨⟨by simpa using hset, ?_, ?_, ?_, h.beyond⟩, ?_, fun k hk3 => ?_⟩
  · exact keep (by decide) (by decide) hA2.rowL
  · simp only [List.length_append, List.length_singleton]
    rw [rdCells_append, show rdCells [y] = y.cells by simp [rdCells]]
    refine hcS.rowOf (row_up b hr (fun k hk3 => ?_)) (fun k hk3 => ?_)
    · rcases hblk k hk3 with e | e
      · exact (row_beyond hA2.rowR e).1
      · omega
    · simp only [List.mem_singleton] at hk3
      subst hk3
      exact .of_cells hB (by decide)
  · exact keep (by decide) (by decide) hA2.rowT
  · refine ((hA.any (S := fpH H x)).grown hg (fun k hk3 => .inl (by simp [fpH, hk3]))).setCell (p := ⟨H, 2, none⟩) (.inl (by simp [fpH])) _
  · simp only [fpH, List.mem_cons, List.mem_append, Option.mem_toList, List.length_append, List.length_singleton] at hk3 ⊢
    rcases hk3 with e | e | e | e
    · exact .inl (.inl e)
    · exact .inl (.inr (.inl e))
    · rcases hblk k e with e | e
      · exact .inl (.inr (.inr (.inl e)))
      · exact .inr (by omega)
    · exact .inl (.inr (.inr (.inr e)))
theorem HistAt.pushT {b : Nat} {w wA w1 : World} {H B : Nat} {x : Hst} (h : HistAt b w H B x) (hbw : b ≤ w.heap.size) (hA : Chg [] w wA) (y : Tc) {a2 : Option Addr} {c2 : Nat} (hr : w1.ownsRow 0 87 3 (Value.slice a2 (x.ts.length + 1) c2) (x.ts.length + 1) (tcCells x.ts ++ y.cells)) (hg : wA.grownBy w1 (Value.slice x.ta x.ts.length x.tc).ownBlock) (hk : (Value.slice a2 (x.ts.length + 1) c2).ownBlock = (Value.slice x.ta x.ts.length x.tc).ownBlock ∨ (Value.slice a2 (x.ts.length + 1) c2).ownBlock = some wA.heap.size) :
    HistAt b (w1.setCell ⟨H, 3, none⟩ (Value.slice a2 (x.ts.length + 1) c2)) H B { x with ts := x.ts ++ [y], ta := a2, tc := c2 } ∧ Chg (fpH H x) w (w1.setCell ⟨H, 3, none⟩ (Value.slice a2 (x.ts.length + 1) c2)) ∧ ∀ k ∈ fpH H { x with ts := x.ts ++ [y], ta := a2, tc := c2 }, k ∈ fpH H x ∨ w.heap.size ≤ k := by
  have hA2 := h.chg0 hA
  have hcG : Chg (Value.slice x.ta x.ts.length x.tc).ownBlock.toList wA w1 := (Chg.refl _ wA).grown hg (fun k hk => .inl (by rw [hk]; simp))
  have hblk : ∀ k, (Value.slice a2 (x.ts.length + 1) c2).ownBlock = some k → (Value.slice x.ta x.ts.length x.tc).ownBlock = some k ∨ wA.heap.size ≤ k := fun k hk2 => by
    rcases hk with e | e
    · rw [e] at hk2; exact .inl hk2
    · rw [e] at hk2; cases hk2; exact .inr (Nat.le_refl _)
  have hB : w1.heap[H]? = _ := grown_heap hg hA2.top (fun he => by
    obtain ⟨_, _, cur, hcur⟩ := row_beyond hA2.rowT he
    rw [hA2.top] at hcur
    simp at hcur)
  have hset := heap_setCell_same hB 3 (Value.slice a2 (x.ts.length + 1) c2)
  have hcS := (Chg.refl [H] w1).setCell (p := ⟨H, 3, none⟩) (.inl (by simp)) (Value.slice a2 (x.ts.length + 1) c2)
  have keep : ∀ {e size n : Nat} {u : Value} {xs : List Value}, e ≠ 87 → e ≠ 31 → wA.ownsRow b e size u n xs → (w1.setCell ⟨H, 3, none⟩ (Value.slice a2 (x.ts.length + 1) c2)).ownsRow b e size u n xs := fun {e size n u xs} ne1 ne2 hrow => by
    refine hcS.rowOf (hcG.rowOf hrow (fun k hk3 => ?_)) (fun k hk3 => ?_)
    · simp only [Option.mem_toList] at hk3
      obtain ⟨_, _, cur, hcur⟩ := row_beyond hA2.rowT hk3
      exact .of_cells hcur (fun e => ne1 e.symm)
    · simp only [List.mem_singleton] at hk3
      subst hk3
      exact .of_cells hB (fun e => ne2 e.symm)
  have hsz := hA.size
  refine ⟨⟨by simpa using hset, ?_, ?_, ?_, h.beyond⟩, ?_, fun k hk3 => ?_⟩
  · exact keep (by decide) (by decide) hA2.rowL
  · exact keep (by decide) (by decide) hA2.rowR
  · simp only [List.length_append, List.length_singleton]
    rw [tcCells_append, show tcCells [y] = y.cells by simp [tcCells]]
    refine hcS.rowOf (row_up b hr (fun k hk3 => ?_)) (fun k hk3 => ?_)
    · rcases hblk k hk3 with e | e
      · exact (row_beyond hA2.rowT e).1
      · omega
    · simp only [List.mem_singleton] at hk3
      subst hk3
      exact .of_cells hB (by decide)
  · refine ((hA.any (S := fpH H x)).grown hg (fun k hk3 => .inl (by simp [fpH, hk3]))).setCell (p := ⟨H, 3, none⟩) (.inl (by simp [fpH])) _
  · simp only [fpH, List.mem_cons, List.mem_append, Option.mem_toList, List.length_append, List.length_singleton] at hk3 ⊢
    rcases hk3 with e | e | e | e
    · exact .inl (.inl e)
    · exact .inl (.inr (.inl e))
    · exact .inl (.inr (.inr (.inl e)))
    · rcases hblk k e with e | e
      · exact .inl (.inr (.inr (.inr e)))
      · exact .inr (by omega)
theorem HistAt.popL {b : Nat} {w : World} {H B : Nat} {x : Hst} (h : HistAt b w H B x) {n : Nat} (hn : n + 1 = x.l.length) :
    HistAt b (w.setCell ⟨H, 1, none⟩ (.slice x.la n x.lc)) H B { x with l := x.l.take n } ∧ Chg [H] w (w.setCell ⟨H, 1, none⟩ (.slice x.la n x.lc)) ∧ ∀ k ∈ fpH H { x with l := x.l.take n }, k ∈ fpH H x := by
  have hcS := (Chg.refl [H] w).setCell (p := ⟨H, 1, none⟩) (.inl (by simp)) (.slice x.la n x.lc)
  have hset := heap_setCell_same h.top 1 (.slice x.la n x.lc)
  have hne : ∀ k ∈ [H], ∀ e, e ≠ 31 → NotRow w e k := fun k hk e he => by
    simp only [List.mem_singleton] at hk
    subst hk
    exact .of_cells h.top (fun e => he e.symm)
  obtain ⟨G, eG, -, -, -, -, -⟩ := row_cells h.rowL (by omega)
  have ht := row_take h.rowL (m := n) (by omega) (by rw [eG]; simp)
  have e1 : (sdCells x.l).take (n * 3) = sdCells (x.l.take n) := by
    have h1 : sdCells x.l = sdCells (x.l.take n) ++ sdCells (x.l.drop n) := by rw [← sdCells_append, List.take_append_drop]
    have h2 : (sdCells (x.l.take n)).length = n * 3 := by
      rw [show sdCells (x.l.take n) = (x.l.take n).flatMap Sd.cells from rfl, flat_len Sd.cells 3 (fun _ => rfl), List.length_take]
      omega
    rw [h1, List.take_left' h2]
  have e2 : (x.l.take n).length = n := by rw [List.length_take]; omega
  rw [e1] at ht
  refine ⟨⟨?_, ?_, ?_, ?_, h.beyond⟩, hcS, fun k hk => ?_⟩
  · simp only [e2]; simpa using hset
  · simp only [e2]
    exact hcS.rowOf ht (fun k hk => hne k hk _ (by decide))
  · exact hcS.rowOf h.rowR (fun k hk => hne k hk _ (by decide))
  · exact hcS.rowOf h.rowT (fun k hk => hne k hk _ (by decide))
  · simp only [fpH, e2] at hk ⊢
    have e3 : ∀ m, (Value.slice x.la m x.lc).ownBlock = (Value.slice x.la x.l.length x.lc).ownBlock := fun m => by rw [eG]; rfl
    rw [e3 n] at hk
    exact hk
theorem Try.infoStands : (Try.prog.info? 40).map (fun i => (i.zero, i.size, i.bytes)) = some (some (.agg #[.int .i64 0, .int .i64 0, .int .i64 0]), 3, 24) := by kernel_rfl
theorem Try.infoRead : (Try.prog.info? 37).map (fun i => (i.zero, i.size, i.bytes)) = some (some (.agg #[.int .i64 0, .int .i64 0]), 2, 16) := by kernel_rfl
theorem Try.infoTouch : (Try.prog.info? 87).map (fun i => (i.zero, i.size, i.bytes)) = some (some (.agg #[.int .i64 0, .int .i64 0, .int .i64 0]), 3, 24) := by kernel_rfl
end Go.Proofs.Ytnajhcoimohcaaa

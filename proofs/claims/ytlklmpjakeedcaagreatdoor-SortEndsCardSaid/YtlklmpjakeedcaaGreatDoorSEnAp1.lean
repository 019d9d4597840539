/-
 Rows of numbers that lie apart: flatInts says so, and writes over them alone.
 Conditions: the rows are rows of their own, all apart; they are not too long.
-/
import Derived.Test.YtlklmpjakeedcaaGreatDoorSEnAp0
import Derived.Test.YtlklmpjakeedcaaGreatDoorSEnGAny2
set_option linter.unusedVariables false
set_option linter.unusedSimpArgs false
set_option linter.unnecessarySimpa false
namespace Go.Proofs.YtlklmpjakeedcaaGreatDoor
open Go.RowKit Go.MapKept Go.Shelf

theorem Tryz.infoRowI : (Tryz.prog.info? 34).map (fun i => (i.zero, i.size, i.bytes)) = some (some (.slice none 0 0), 1, 24) := by kernel_rfl
/-- A row of slices. -/
def Outer (w : World) (b : Option Addr) (c N : Nat) (f : Nat → IR) : Prop := w.ownsRow 0 34 1 (.slice b N c) N ((List.range N).map fun j => (f j).v)
theorem Outer.at {w : World} {b : Option Addr} {c N : Nat} {f : Nat → IR} (h : Outer w b c N f) {k : Nat} (hk : k < N) : ∃ bL, b = some ⟨bL, 0, none⟩ ∧ bL < w.heap.size ∧ N ≤ c ∧ c ≤ maxLen ∧ w.cell? ⟨bL, k, none⟩ = some (f k).v ∧ w.frozen? ⟨bL, k, none⟩ = false ∧
  ∀ r : IR, Outer (w.setCell ⟨bL, k, none⟩ r.v) b c N (upd f k r) ∧ Chg [bL] w (w.setCell ⟨bL, k, none⟩ r.v) ∧ ∃ cur, w.heap[bL]? = some (.cells cur 34 (0, 0)) := by
 have hb : ∃ g, b = some ⟨g, 0, none⟩ ∧ g < w.heap.size ∧ N ≤ c ∧ c ≤ maxLen := by
  rcases h.2 with ⟨h0, h1⟩ | ⟨g, cap, cur, h0, hb, hg, hn, hc, _⟩
  ·omega
  ·cases h0; exact ⟨g, rfl, lt_of_block hg, hn, hc⟩
 obtain ⟨bL, rfl, hlt, h1, h2⟩ := hb
 obtain ⟨q1, q2, q3, q4, q5⟩ := row_put h (i := k) (by omega)
 refine ⟨bL, rfl, hlt, h1, h2, ?_, q2, fun r => ⟨?_, (q5 r.v).2, q4⟩⟩
 ·rw [q1]
  simp [hk]
 ·have := (q5 r.v).1
  have e : ((List.range N).map fun j => (f j).v).set k r.v = (List.range N).map fun j => (upd f k r j).v := by
   apply List.ext_getElem
   ·simp
   ·intro j h1 h2
    have hj : j < N := by simpa using h2
    rw [List.getElem_set]
    simp only [List.getElem_map, List.getElem_range, upd]
    by_cases e : k = j
    ·subst e; simp
    ·rw [if_neg e, if_neg (fun h => e h.symm)]
  rw [e] at this
  exact this
theorem Outer.chg {w w' : World} {S : List Nat} {b : Option Addr} {c N : Nat} {f : Nat → IR} (h : Outer w b c N f) (hc : Chg S w w') (hS : ∀ x ∈ S, NotRow w 34 x) : Outer w' b c N f := hc.rowOf h hS
theorem Outer.chg0 {w w' : World} {b : Option Addr} {c N : Nat} {f : Nat → IR} (h : Outer w b c N f) (hc : Chg [] w w') : Outer w' b c N f := hc.rowOf h (by simp)

/-- Rows apart, and what else is known while they are looked at. -/
structure ApS (N : Nat) (w0 : World) (S : List Nat) (b : Option Addr) (cL : Nat) (gb : Nat) (w : World) (R G F : Nat → IR) (m : Nat → Nat) : Prop where
 aps : Aps N w R G m
 fr : ∀ j, j < N → ∀ x, ((R j).blk = some x ∨ (G j).blk = some x) → x ∈ S ∨ w0.heap.size ≤ x
 chg : Chg S w0 w
 ls : Outer w b cL N R
 gs : Outer w (some ⟨gb, 0, none⟩) N N F
 gnew : w0.heap.size ≤ gb
theorem ApS.chg0 {N : Nat} {w0 : World} {S : List Nat} {b : Option Addr} {cL gb : Nat} {w w' : World} {R G F : Nat → IR} {m : Nat → Nat} (h : ApS N w0 S b cL gb w R G F m) (hc : Chg [] w w') : ApS N w0 S b cL gb w' R G F m :=
 ⟨h.aps.chg0 hc, h.fr, h.chg.tr0 hc, h.ls.chg0 hc, h.gs.chg0 hc, h.gnew⟩
theorem ApS.step {N k : Nat} {w0 : World} {S : List Nat} {b : Option Addr} {cL gb : Nat} {w w' : World} {R G F : Nat → IR} {m : Nat → Nat} (h : ApS N w0 S b cL gb w R G F m) (hk : k < N) {s g' : IR} (hs : s = R k ∨ s = G k) {m' : Nat} {ys : List Value} (hown : w'.ownsRow 0 3 1 g'.v g'.n ys) (hm : ∀ i, i < m' → ys[i]? = some (.int .i64 (markZ k i)))
  (hg : w.grownBy w' s.blk) (hor : (∃ g cap, s.v = .slice (some ⟨g, 0, none⟩) s.n cap ∧ g'.v = .slice (some ⟨g, 0, none⟩) g'.n cap) ∨ Chg [] w w' ∧ (g'.v = s.v ∨ g'.blk = none ∨ g'.blk = some w.heap.size)) (hn : (R k).n ≤ g'.n) (hm' : (R k).n ≤ m') :
  ApS N w0 S b cL gb w' R (upd G k g') F (upd m k m') := by
 have hsb : ∀ x, s.blk = some x → ((R k).blk = some x ∨ (G k).blk = some x) := fun x hx => by rcases hs with rfl | rfl; exact .inl hx; exact .inr hx
 have hnr : ∀ x ∈ s.blk.toList, NotRow w 34 x := fun x hx => by
  have hx : s.blk = some x := by simpa using hx
  obtain ⟨xs, h1, _⟩ := h.aps.row k hk
  obtain ⟨_, _, ys, h2, _⟩ := h.aps.grown k hk
  rcases hs with rfl | rfl
  ·exact row_notrow h1 hx (by decide)
  ·exact row_notrow h2 hx (by decide)
 have hc : Chg s.blk.toList w w' := (Chg.refl _ w).grown hg (fun k hk => .inl (by rw [hk]; simp))
 refine ⟨h.aps.step hk hs hown hm hg hor hn hm', fun j hj x hx => ?_, h.chg.grown hg (fun x hx => h.fr k hk x (hsb x hx)), h.ls.chg hc hnr, h.gs.chg hc hnr, h.gnew⟩
 by_cases e : j = k
 ·subst e
  rw [upd_same] at hx
  rcases hx with hx | hx
  ·exact h.fr j hj x (.inl hx)
  ·rcases hor with ⟨g, cap, e1, e2⟩ | ⟨_, e1 | e1 | e1⟩
   ·refine h.fr j hj x (hsb x ?_)
    unfold IR.blk at hx ⊢
    rw [e2] at hx
    rw [e1]
    exact hx
   ·refine h.fr j hj x (hsb x ?_)
    unfold IR.blk at hx ⊢
    rw [e1] at hx
    exact hx
   ·rw [e1] at hx; cases hx
   ·rw [e1] at hx; cases hx
    exact .inr h.chg.size
 ·rw [upd_ne _ _ e] at hx
  exact h.fr j hj x hx
theorem ApS.put {N k : Nat} {w0 : World} {S : List Nat} {b : Option Addr} {cL gb : Nat} {w : World} {R G F : Nat → IR} {m : Nat → Nat} (h : ApS N w0 S b cL gb w R G F m) (hk : k < N) (hbL : b ≠ some ⟨gb, 0, none⟩) (r : IR) : ApS N w0 S b cL gb (w.setCell ⟨gb, k, none⟩ r.v) R G (upd F k r) m := by
 obtain ⟨bL, e, hlt, _, _, _, _, hput⟩ := h.gs.at hk
 cases e
 obtain ⟨h1, h2, cur, h3⟩ := hput r
 have hn : ∀ x ∈ [gb], NotRow w 3 x := fun x hx => by simp only [List.mem_singleton] at hx; subst hx; exact .of_cells h3 (by decide)
 refine ⟨h.aps.chgT h2 hn, h.fr, h.chg.setCell (p := ⟨gb, k, none⟩) (.inr h.gnew) _, ?_, h1, h.gnew⟩
 refine h2.row h.ls (fun x hx hm => ?_)
 simp only [List.mem_singleton] at hm
 subst hm
 rcases h.ls.2 with ⟨h0, h9⟩ | ⟨g, cap, cur, h0, _⟩
 ·omega
 ·cases h0
  cases hx
  exact hbL rfl

theorem RowK.cell {w : World} {r : IR} {m k i : Nat} (h : RowK w r m k) (hi : i < m) (hn : i < r.n) : ∃ g, r.a = some ⟨g, 0, none⟩ ∧ w.cell? ⟨g, i, none⟩ = some (.int .i64 (markZ k i)) ∧ r.n ≤ r.c ∧ r.c ≤ maxLen := by
 obtain ⟨xs, h1, h2⟩ := h
 rcases row_form h1 with ⟨_, q, _⟩ | ⟨g, ga, gb, gl, _, gc, gm⟩
 ·omega
 ·refine ⟨g, ga, ?_, gc, gm⟩
  have h4 : r.v = .slice (some ⟨g, 0, none⟩) r.n r.c := by unfold IR.v; rw [ga]
  rw [h4] at h1
  exact (row_put h1 (i := i) (by omega)).1.trans (h2 i hi)
theorem made_zeros : ∃ ob, (∀ W : World, (Instr.makeSlice 34 (.int .i64 64) (.int .i64 64)).run Tryz.prog W = .ok (.slice (some ⟨W.heap.size, 0, none⟩) 64 64) (W.alloc ob)) ∧ ∀ W : World, (W.alloc ob).ownsRow 0 3 1 (.slice (some ⟨W.heap.size, 0, none⟩) 64 64) 64 (List.replicate 64 (.int .i64 0)) := by
 refine ⟨_, fun W => run_zeros 64 (by omega) W, fun W => ?_⟩
 exact ⟨by simp, .inr ⟨W.heap.size, 64, _, rfl, Nat.zero_le _, heap_alloc_same _ _, Nat.le_refl _, by decide, by simp, by simp⟩⟩
theorem made_nils (N : Nat) (hN : N ≤ 1000000) : ∃ ob, (∀ W : World, (Instr.makeSlice 36 (.int .i64 N) (.int .i64 N)).run Tryz.prog W = .ok (.slice (some ⟨W.heap.size, 0, none⟩) N N) (W.alloc ob)) ∧ ∀ W : World, Outer (W.alloc ob) (some ⟨W.heap.size, 0, none⟩) N N (fun _ => ⟨none, 0, 0⟩) := by
 obtain ⟨i0, hi, hz0, hz1, hz2⟩ := info_parts Tryz.infoRowI
 refine ⟨.cells (madeCells (Value.slice none 0 0).cells (N * i0.size)) 34, fun W => ?_, fun W => ?_⟩
 ·have h1 := run_make (P := Tryz.prog) W 36 34 i0 (.slice none 0 0) Tryz.underlying36 hi hz0 .i64 .i64 N N (by omega) (by omega) (by rw [hz2]; omega) (by omega)
  simp only [Int.toNat_natCast] at h1
  exact h1
 ·refine ⟨by simp, .inr ⟨W.heap.size, N, _, rfl, Nat.zero_le _, heap_alloc_same _ _, Nat.le_refl _, by simp only [maxLen]; omega, by rw [size_madeCells, hz1], ?_⟩⟩
  rw [hz1, List.take_of_length_le (by rw [Array.length_toList, size_madeCells]; exact Nat.le_refl _)]
  apply List.ext_getElem
  ·simp [madeCells]
  ·intro i h1 h2
   simp [madeCells, Value.cells, Nat.mod_one, IR.v]
def marksTo (N : Nat) (w : World) (R : Nat → IR) (k i : Nat) : Prop := ∀ j, j < N → RowK w (R j) (if j < k then (R j).n else if j = k then i else 0) j
def nilR : IR := ⟨none, 0, 0⟩
/-- Rows of their own that lie apart. -/
structure Apart (N : Nat) (w : World) (S : List Nat) (R : Nat → IR) : Prop where
 row : ∀ j, j < N → RowK w (R j) 0 j
 apart : ∀ i j, i < N → j < N → i ≠ j → ∀ x, (R i).blk = some x → (R j).blk ≠ some x
 mem : ∀ j, j < N → ∀ x, (R j).blk = some x → x ∈ S
 all : ∀ x ∈ S, NotRow w 34 x

theorem NotRow.keep0 {w w' : World} {e x : Nat} (h : NotRow w e x) (hc : Chg [] w w') (hx : x < w.heap.size) : NotRow w' e x := fun base size v n xs ho hv => by
 rcases ho.2 with ⟨h0, h1⟩ | ⟨g, cap, cur, h0, hb, hg, r1, r2, r3, r4⟩
 ·subst h0; cases hv
 ·subst h0
  cases hv
  exact h base size _ n xs ⟨ho.1, .inr ⟨g, cap, cur, rfl, hb, by rw [← hc.block g hx (by simp)]; exact hg, r1, r2, r3, r4⟩⟩ rfl

set_option maxRecDepth 100000 in
set_option maxHeartbeats 32000000 in
theorem flatInts_any (w : World) (b : Option Addr) (cL N : Nat) (S : List Nat) (R : Nat → IR) (hN : N ≤ 400000) (hlen : ∀ j, j < N → (R j).n ≤ 1000000000) (hls : Outer w b cL N R) (hap : Apart N w S R) :
  Calls Tryz.prog 128 #[.slice b N cL] w fun e w' => e = .returned (.bool true) ∧ Chg S w w' := by
 obtain ⟨i0, hi0, hz0, hz1, hz2⟩ := info_parts Tryz.infoInt
 obtain ⟨j0, hj0, hy0, hy1, hy2⟩ := info_parts Tryz.infoRowI
 have H := Lib.hid (And.intro hlen (And.intro hls hap))
 clear hlen hls hap
 go_enter Tryz.func128, Tryz.ntmps128
 go_wp2_with fail
 go_loopg [3] N (fun dd kv wr => ∃ k : Nat, dd = N - k ∧ k ≤ N ∧ kv = .int .i64 k ∧ Hid (marksTo N wr R k 0 ∧ Chg S w wr))
 case atStart => exact ⟨0, rfl, Nat.zero_le _, rfl, Lib.hid ⟨fun j hj => (H.out.2.2.row j hj).le (by split; omega; split <;> omega), Chg.refl _ _⟩⟩
 case round =>
  obtain ⟨k, rfl, hk, rfl, hin⟩ := hrel
  obtain ⟨wk, rfl⟩ : ∃ wk, wk = wr := ⟨_, rfl⟩
  by_cases hkl : k < N
  ·have hlk := H.out.1 k hkl
   obtain ⟨rn, hrn⟩ : ∃ rn, rn = (R k).n := ⟨_, rfl⟩
   rw [← hrn] at hlk
   have HN := Lib.hid hrn
   clear hrn
   go_wp2_with fail
   go_loopg [4] rn (fun dd iv wr => ∃ i : Nat, dd = rn - i ∧ i ≤ rn ∧ iv = .int .i64 i ∧ Hid (marksTo N wr R k i ∧ Chg S w wr))
   case atStart => exact ⟨0, rfl, Nat.zero_le _, rfl, hin⟩
   case round =>
    obtain ⟨i, rfl, hi, rfl, hin2⟩ := hrel
    obtain ⟨wq, rfl⟩ : ∃ wq, wq = wr := ⟨_, rfl⟩
    obtain ⟨bL, hbL, hbLl, hNc, hcm, hcell, -, -⟩ := (H.out.2.1.chg hin2.out.2 H.out.2.2.all).at hkl
    subst hbL
    have hcv : (R k).v = .slice (R k).a rn (R k).c := by rw [HN.out]; rfl
    rw [hcv] at hcell
    clear hcv
    by_cases hil : i < rn
    ·obtain ⟨xs, h1, h2⟩ := hin2.out.1 k hkl
     obtain ⟨g, ga, gb, gl, gn, gc, gm⟩ : ∃ g, (R k).a = some ⟨g, 0, none⟩ ∧ (R k).blk = some g ∧ g < wq.heap.size ∧ (R k).n = (R k).n ∧ (R k).n ≤ (R k).c ∧ (R k).c ≤ maxLen := by
      rcases row_form h1 with ⟨_, q, _⟩ | q
      ·have := HN.out; omega
      ·exact q
     have hrow : wq.ownsRow 0 3 1 (.slice (some ⟨g, 0, none⟩) rn (R k).c) rn xs := by
      have h3 := h1
      rw [← HN.out] at h3
      have h4 : (R k).v = .slice (some ⟨g, 0, none⟩) rn (R k).c := by rw [HN.out]; unfold IR.v; rw [ga]
      rw [h4] at h3
      exact h3
     obtain ⟨rc, hrc⟩ : ∃ rc, rc = (R k).c := ⟨_, rfl⟩
     rw [ga, ← hrc] at hcell
     rw [← hrc] at hrow
     have hMk : ∀ W, Calls Tryz.prog 158 #[.int .i64 k, .int .i64 i] W fun e w' => e = .returned (.int .i64 (markZ k i)) ∧ Chg [] W w' := fun W => mark_any W k i (by omega) (by omega) (by omega) (by omega)
     obtain ⟨mz, hmz⟩ : ∃ mz, mz = markZ k i := ⟨_, rfl⟩
     rw [← hmz] at hMk
     have HM := Lib.hid hMk
     have HR := Lib.hid (And.intro hrow (And.intro h2 (And.intro gb (And.intro hmz (And.intro ga hrc)))))
     have hrnc : rn ≤ rc := by rw [hrc, HN.out]; exact gc
     clear hMk hmz hrow h1 h2 gb gn gc gm ga hrc
     have hi1 : (i : Int) < rn := by omega
     have hk1 : (k : Int) < N := by omega
     go_wp2_with fail
     refine wp_region_tail1 (by kernel_rfl) (by kernel_rfl) [31, 32, 33, 34, 35, 36, 37, 38, 39] (by kernel_rfl) (fun rI rV rW => match rI with | 0 => rV = .slice (some ⟨bL, 0, none⟩) N cL | 1 => rV = .int .i64 k | 2 => rV = .pointer (some ⟨bL, k, none⟩) | 3 => rV = .slice (some ⟨g, 0, none⟩) rn rc | 4 => rV = .int .i64 i | 5 => rV = .int .i64 k | 6 => rV = .int .i64 i | 7 => rV = .int .i64 mz | 8 => rV = .pointer (some ⟨g, i, none⟩) | _ => True) ?hS10 ?hstep10 ?hdone10
     case hS10 =>
      intro rI rV rW rW' hc rP
      match rI, rP with
      | 0, rP => exact rP
      | 1, rP => exact rP
      | 2, rP => exact rP
      | 3, rP => exact rP
      | 4, rP => exact rP
      | 5, rP => exact rP
      | 6, rP => exact rP
      | 7, rP => exact rP
      | 8, rP => exact rP
      | _ + 9, _ => trivial
     case hstep10 =>
      intro rI rH us W hC hdep K hK
      have hiN : rI < 9 := rH
      simp only [actU, Act.put, List.setIfInBounds_toArray, List.set_cons_succ, List.set_cons_zero, Nat.reduceAdd] at hK ⊢
      have hcl := hC.cell hcell (by simp)
      rcases (show rI = 0 ∨ rI = 1 ∨ rI = 2 ∨ rI = 3 ∨ rI = 4 ∨ rI = 5 ∨ rI = 6 ∨ rI = 7 ∨ rI = 8 by omega) with rfl | rfl | rfl | rfl | rfl | rfl | rfl | rfl | rfl
      ·simp only [List.getD_cons_succ, List.getD_cons_zero, List.setIfInBounds_toArray, List.set_cons_succ, List.set_cons_zero] at hK ⊢
       refine wpOp_at rfl rfl ?_
       go_simp
       exact hK _ _ _ rfl (Chg.refl _ _) rfl
      ·simp only [List.getD_cons_succ, List.getD_cons_zero, List.setIfInBounds_toArray, List.set_cons_succ, List.set_cons_zero] at hK ⊢
       refine wpOp_at rfl rfl ?_
       go_simp
       exact hK _ _ _ rfl (Chg.refl _ _) rfl
      ·have l0 := hdep 0 (by kernel_rfl)
       replace l0 : us 0 = .slice (some ⟨bL, 0, none⟩) N cL := l0
       have l1 := hdep 1 (by kernel_rfl)
       replace l1 : us 1 = .int .i64 k := l1
       simp only [List.getD_cons_succ, List.getD_cons_zero, List.setIfInBounds_toArray, List.set_cons_succ, List.set_cons_zero, l0, l1] at hK ⊢
       refine wpOp_at rfl rfl ?_
       go_simp
       exact hK _ _ _ rfl (Chg.refl _ _) rfl
      ·have l2 := hdep 2 (by kernel_rfl)
       replace l2 : us 2 = .pointer (some ⟨bL, k, none⟩) := l2
       simp only [List.getD_cons_succ, List.getD_cons_zero, List.setIfInBounds_toArray, List.set_cons_succ, List.set_cons_zero, l2] at hK ⊢
       refine wpOp_at rfl rfl ?_
       go_simp
       exact hK _ _ _ rfl (Chg.refl _ _) rfl
      ·simp only [List.getD_cons_succ, List.getD_cons_zero, List.setIfInBounds_toArray, List.set_cons_succ, List.set_cons_zero] at hK ⊢
       refine wpOp_at rfl rfl ?_
       go_simp
       exact hK _ _ _ rfl (Chg.refl _ _) rfl
      ·simp only [List.getD_cons_succ, List.getD_cons_zero, List.setIfInBounds_toArray, List.set_cons_succ, List.set_cons_zero] at hK ⊢
       refine wpOp_at rfl rfl ?_
       go_simp
       exact hK _ _ _ rfl (Chg.refl _ _) rfl
      ·simp only [List.getD_cons_succ, List.getD_cons_zero, List.setIfInBounds_toArray, List.set_cons_succ, List.set_cons_zero] at hK ⊢
       refine wpOp_at rfl rfl ?_
       go_simp
       exact hK _ _ _ rfl (Chg.refl _ _) rfl
      ·have l5 := hdep 5 (by kernel_rfl)
       replace l5 : us 5 = .int .i64 k := l5
       have l6 := hdep 6 (by kernel_rfl)
       replace l6 : us 6 = .int .i64 i := l6
       simp only [List.getD_cons_succ, List.getD_cons_zero, List.setIfInBounds_toArray, List.set_cons_succ, List.set_cons_zero, l5, l6] at hK ⊢
       refine wpOp_at rfl rfl ?_
       go_simp
       refine (HM.out W).mono ?_
       rintro e wz ⟨rfl, hz⟩
       exact hK _ _ _ rfl hz rfl
      ·have l3 := hdep 3 (by kernel_rfl)
       replace l3 : us 3 = .slice (some ⟨g, 0, none⟩) rn rc := l3
       have l4 := hdep 4 (by kernel_rfl)
       replace l4 : us 4 = .int .i64 i := l4
       simp only [List.getD_cons_succ, List.getD_cons_zero, List.setIfInBounds_toArray, List.set_cons_succ, List.set_cons_zero, l3, l4] at hK ⊢
       refine wpOp_at rfl rfl ?_
       go_simp
       exact hK _ _ _ rfl (Chg.refl _ _) rfl
     case hdone10 =>
      intro us W hC hall
      have l0 := hall 0 (by decide)
      replace l0 : us 0 = .slice (some ⟨bL, 0, none⟩) N cL := l0
      have l1 := hall 1 (by decide)
      replace l1 : us 1 = .int .i64 k := l1
      have l2 := hall 2 (by decide)
      replace l2 : us 2 = .pointer (some ⟨bL, k, none⟩) := l2
      have l3 := hall 3 (by decide)
      replace l3 : us 3 = .slice (some ⟨g, 0, none⟩) rn rc := l3
      have l4 := hall 4 (by decide)
      replace l4 : us 4 = .int .i64 i := l4
      have l5 := hall 5 (by decide)
      replace l5 : us 5 = .int .i64 k := l5
      have l6 := hall 6 (by decide)
      replace l6 : us 6 = .int .i64 i := l6
      have l7 := hall 7 (by decide)
      replace l7 : us 7 = .int .i64 mz := l7
      have l8 := hall 8 (by decide)
      replace l8 : us 8 = .pointer (some ⟨g, i, none⟩) := l8
      simp only [actU, Act.put, List.setIfInBounds_toArray, List.set_cons_succ, List.set_cons_zero, Nat.reduceAdd, l0, l1, l2, l3, l4, l5, l6, l7, l8]
      clear hall l0 l1 l2 l3 l4 l5 l6 l7 l8
      have hP := (row_put (w := W) (hC.row HR.out.1 (fun _ _ => by simp)) (i := i) (by omega))
      obtain ⟨v9, hv9⟩ : ∃ v, W.cell? ⟨g, i, none⟩ = some v := by
       rw [hP.1]
       have hl := HR.out.1.1
       exact ⟨_, List.getElem?_eq_getElem (by omega)⟩
      have hf9 := hP.2.1
      have HP := Lib.hid (And.intro hP (And.intro hC hin2.out))
      clear hP hC
      refine wpOp_at rfl rfl ?_
      go_simp
      have hZ : Hid (marksTo N (W.setCell ⟨g, i, none⟩ (.int .i64 mz)) R k (i + 1) ∧ Chg S w (W.setCell ⟨g, i, none⟩ (.int .i64 mz))) := by
       obtain ⟨⟨_, _, _, _, hput⟩, hC, hm, hS⟩ := HP.out
       obtain ⟨p1, p2⟩ := hput (.int .i64 mz)
       refine Lib.hid ⟨fun j hj => ?_, (hS.tr0 hC).setCell (p := ⟨g, i, none⟩) (.inl (H.out.2.2.mem k hkl g HR.out.2.2.1)) _⟩
       by_cases e : j = k
       ·subst e
        rw [if_neg (Nat.lt_irrefl _), if_pos rfl]
        refine ⟨xs.set i (.int .i64 mz), ?_, fun q hq => ?_⟩
        ·have e9 : (R j).v = .slice (some ⟨g, 0, none⟩) rn rc := by unfold IR.v; rw [HR.out.2.2.2.2.1, HR.out.2.2.2.2.2, HN.out]
         rw [e9, ← HN.out]
         exact p1
        ·rw [List.getElem?_set]
         by_cases e : i = q
         ·subst e
          rw [if_pos rfl, if_pos (by have := HR.out.1.1; omega), HR.out.2.2.2.1]
         ·rw [if_neg e]
          have := HR.out.2.1
          simp only [Nat.lt_irrefl, if_false, if_true] at this
          exact this q (by omega)
       ·have h5 := hm j hj
        rw [if_neg e] at h5 ⊢
        refine h5.chg (hC.any.tr p2) (fun x hx hm => ?_)
        simp only [List.mem_singleton] at hm
        subst hm
        exact H.out.2.2.apart j k hj hkl e x hx HR.out.2.2.1
      clear hv9 hf9 HP hcell
      go_wp2_with fail
      go_roundg (rn - (i + 1))
      case measure => omega
      case rel => exact ⟨i + 1, rfl, by omega, by go_num, hZ⟩
    ·obtain rfl : i = rn := by omega
     go_wp2_with fail
     go_roundg (N - (k + 1))
     case measure => omega
     case rel =>
      refine ⟨k + 1, rfl, by omega, by go_num, Lib.hid ⟨fun j hj => ?_, hin2.out.2⟩⟩
      have h5 := hin2.out.1 j hj
      by_cases e1 : j < k
      ·rw [if_pos e1] at h5
       rw [if_pos (by omega)]
       exact h5
      ·rw [if_neg e1] at h5
       by_cases e2 : j = k
       ·subst e2
        rw [if_pos rfl, HN.out] at h5
        rw [if_pos (by omega)]
        exact h5
       ·rw [if_neg e2] at h5
        rw [if_neg (by omega)]
        exact h5.le (by split <;> omega)
  ·obtain rfl : k = N := by omega
   obtain ⟨ob, hmk, hob⟩ := made_nils k (by omega)
   have HB := Lib.hid (And.intro (hob wk) hin.out)
   clear hob hin
   have hwk := HB.out.2.2.size
   go_wp2_with fail
   have h0 : ApS k w S b cL wk.heap.size (wk.alloc ob) R R (fun _ => nilR) (fun j => (R j).n) := by
    have hca := (Chg.refl [] wk).alloc ob
    have hrow : ∀ j, j < k → RowK (wk.alloc ob) (R j) (R j).n j := fun j hj => by
     have := HB.out.2.1 j hj
     rw [if_pos hj] at this
     exact this.chg hca (by simp)
    exact ⟨⟨hrow, fun j hj => ⟨Nat.le_refl _, Nat.le_refl _, hrow j hj⟩, fun j hj _ => ⟨rfl, rfl⟩, fun i j hi hj hij x hx hy => H.out.2.2.apart i j hi hj hij x (hx.elim id id) (hy.elim id id)⟩,
     fun j hj x hx => .inl (H.out.2.2.mem j hj x (hx.elim id id)), HB.out.2.2.tr0 hca, (H.out.2.1.chg HB.out.2.2 H.out.2.2.all).chg0 hca, HB.out.1, hwk⟩
   have H0 := Lib.hid h0
   obtain ⟨gb, hgb⟩ : ∃ gb, gb = wk.heap.size := ⟨_, rfl⟩
   rw [← hgb] at H0 ⊢
   have hbg : 0 < k → b ≠ some ⟨gb, 0, none⟩ := fun h e => by
    obtain ⟨bL, e1, e2, _⟩ := H.out.2.1.at h
    rw [e] at e1
    cases e1
    omega
   clear h0 hmk HB hgb hwk
   go_loopg [6] k (fun dd kv wr => ∃ q : Nat, dd = k - q ∧ q ≤ k ∧ kv = .int .i64 q ∧ Hid (∃ G, ApS k w S b cL gb wr R G (fun j => if j < q then G j else nilR) (fun j => (G j).n) ∧ (∀ j, j < k → (G j).n = if j < q then (R j).n + 64 else (R j).n) ∧ ∀ j, q ≤ j → G j = R j))
   case atStart => exact ⟨0, rfl, Nat.zero_le _, rfl, Lib.hid ⟨R, H0.out, fun j hj => by rw [if_neg (Nat.not_lt_zero _)], fun _ _ => rfl⟩⟩
   case round =>
    obtain ⟨q, rfl, hq, rfl, hin⟩ := hrel
    obtain ⟨wg, rfl⟩ : ∃ wk, wk = wr := ⟨_, rfl⟩
    by_cases hql : q < k
    ·obtain ⟨G, hA, hGn, hGe⟩ := hin.out
     obtain ⟨bL, hbL, hbLl, hNc, hcm, hcell, -, -⟩ := hA.ls.at hql
     have hlq := H.out.1 q hql
     obtain ⟨rn, hrn⟩ : ∃ rn, rn = (R q).n := ⟨_, rfl⟩
     obtain ⟨ra, hra⟩ : ∃ ra, ra = (R q).a := ⟨_, rfl⟩
     obtain ⟨rc, hrc⟩ : ∃ rc, rc = (R q).c := ⟨_, rfl⟩
     have hRq : R q = ⟨ra, rn, rc⟩ := by rw [hra, hrn, hrc]
     rw [hRq] at hlq hcell
     have hRv : IR.v ⟨ra, rn, rc⟩ = .slice ra rn rc := rfl
     rw [hRv] at hcell
     have HQ := Lib.hid (And.intro hRq hbL)
     have HGe := Lib.hid hGe
     subst hbL
     simp only at hlq
     clear hrn hra hrc hRq hRv hA hGn hGe
     go_wp2_with fail
     go_loopg [8, 7] 64 (fun dd iv gv wr => ∃ (i : Nat) (a : Option Addr) (c : Nat), dd = 64 - i ∧ i ≤ 64 ∧ iv = .int .i64 i ∧ gv = .slice a (rn + i) c ∧ Hid (∃ G, ApS k w S (some ⟨bL, 0, none⟩) cL gb wr R G (fun j => if j < q then G j else nilR) (fun j => (G j).n) ∧ G q = ⟨a, rn + i, c⟩ ∧ (∀ j, j < k → j ≠ q → (G j).n = if j < q then (R j).n + 64 else (R j).n) ∧ ∀ j, q < j → G j = R j))
     case atStart =>
      obtain ⟨G, hA, hGn, hGe⟩ := hin.out
      refine ⟨0, ra, rc, rfl, Nat.zero_le _, rfl, rfl, Lib.hid ⟨G, ?_, (hGe q (Nat.le_refl _)).trans HQ.out.1, fun j hj _ => hGn j hj, fun j hj => hGe j (Nat.le_of_lt hj)⟩⟩
      exact hA
     case round =>
      obtain ⟨i, a, c, rfl, hi, rfl, rfl, hin2⟩ := hrel
      obtain ⟨wq, rfl⟩ : ∃ wq, wq = wr := ⟨_, rfl⟩
      by_cases hil : i < 64
      ·obtain ⟨G, hA, hGq, hGn, hGe⟩ := hin2.out
       obtain ⟨bL', e9, hbLl, hNc, hcm, hcell, -, -⟩ := hA.ls.at hql
       cases e9
       rw [HQ.out.1] at hcell
       have hRv : IR.v ⟨ra, rn, rc⟩ = .slice ra rn rc := rfl
       rw [hRv] at hcell
       have hMk := mark_any wq q ((rn : Int) + i) (by omega) (by omega) (by omega) (by omega)
       obtain ⟨mz, hmz⟩ : ∃ mz, mz = markZ q ((rn : Int) + i) := ⟨_, rfl⟩
       rw [← hmz] at hMk
       have HA := Lib.hid (And.intro hA (And.intro hGq (And.intro hGn (And.intro hGe hmz))))
       clear hA hGq hGn hGe hmz hRv
       go_wp2_with fail
       refine hMk.mono ?_
       clear hMk
       rintro e w2 ⟨rfl, hc2⟩
       have hA2 := HA.out.1.chg0 (hc2.alloc (.cells #[.int .i64 mz] 3))
       obtain ⟨-, -, ys, hy1, hy2⟩ := hA2.aps.grown q hql
       rw [HA.out.2.1] at hy1 hy2
       have hyl : ys.length = rn + i := by have := hy1.1; simpa using this
       have hnew := cells_at (w := w2.alloc (.cells #[.int .i64 mz] 3)) (heap_alloc_same _ _)
       have h1' : ∀ u ∈ [Value.int .i64 mz], u.oneCell' = true := by simp [Value.oneCell']
       have h2' : rn + i + 1 ≤ maxLen ∧ (rn + i + 1) * 8 ≤ 140737488355328 := by simp only [maxLen]; omega
       have HR := Lib.hid (And.intro hA2 (And.intro hy1 (And.intro hy2 (And.intro hnew (And.intro h1' (And.intro h2' hyl))))))
       clear hA2 hy1 hy2 hnew h1' h2' hyl hc2 hcell
       go_wp2_with (at_builtin; refine wpList_append_two rfl _ _ 34 rfl 0 3 i0 _ 1 8 Tryz.underlying34 hi0 hz0 hz1 hz2 rfl (by decide) (.slice a (rn + i) c) (rn + i) ys rfl HR.out.2.1 (some ⟨w2.heap.size, 0, none⟩) 1 1 [.int .i64 mz] rfl rfl (fun h => by cases h) (fun b hb => by cases hb; exact HR.out.2.2.2.1) HR.out.2.2.2.2.1 HR.out.2.2.2.2.2.1.1 HR.out.2.2.2.2.2.1.2 (Nat.zero_le _) ?_; intro v' w5 hr5 hg5 hor5; obtain ⟨a5, c5, rfl⟩ := ownsRow_slice hr5; have HX := Lib.hid (And.intro hr5 (And.intro hg5 hor5)); clear hr5 hg5 hor5)
       go_roundg (64 - (i + 1))
       case measure => omega
       case rel =>
        have hGq := HA.out.2.1
        have hsv : (G q).v = .slice a (rn + i) c := by rw [hGq]; rfl
        have hsn : (G q).n = rn + i := by rw [hGq]
        have hsb : (G q).blk = (Value.slice a (rn + i) c).ownBlock := by unfold IR.blk; rw [hsv]
        have hst := HR.out.1.step (k := q) hql (s := G q) (g' := ⟨a5, rn + i + 1, c5⟩) (.inr rfl) (m' := rn + i + 1) HX.out.1 (fun r hr => by
          by_cases e : r < rn + i
          ·rw [List.getElem?_append_left (by have := HR.out.2.2.2.2.2.2; omega)]
           exact HR.out.2.2.1 r e
          ·have hl := HR.out.2.2.2.2.2.2
           rw [List.getElem?_append_right (by omega), show r - ys.length = 0 by omega]
           have e2 : r = rn + i := by omega
           subst e2
           rw [HA.out.2.2.2.2]
           show some (Value.int .i64 (markZ q ((rn : Int) + i))) = _
           rw [show ((rn + i : Nat) : Int) = (rn : Int) + i by omega])
         (by rw [hsb]; exact HX.out.2.1) (by rw [hsv, hsn]; exact HX.out.2.2) (by rw [HQ.out.1]; show rn ≤ rn + i + 1; omega) (by rw [HQ.out.1]; show rn ≤ rn + i + 1; omega)
        have eF : (fun j => if j < q then G j else nilR) = (fun j => if j < q then upd G q ⟨a5, rn + i + 1, c5⟩ j else nilR) := funext fun j => by
         by_cases e : j < q
         ·rw [if_pos e, if_pos e, upd_ne _ _ (by omega)]
         ·rw [if_neg e, if_neg e]
        have eM : upd (fun j => (G j).n) q (rn + i + 1) = fun j => (upd G q ⟨a5, rn + i + 1, c5⟩ j).n := funext fun j => by
         by_cases e : j = q
         ·subst e; rw [upd_same, upd_same]
         ·rw [upd_ne _ _ e, upd_ne _ _ e]
        rw [eF, eM] at hst
        refine ⟨i + 1, a5, c5, rfl, by omega, by go_num, by rw [Nat.add_assoc], Lib.hid ⟨_, hst, by rw [upd_same, Nat.add_assoc], fun j hj hne => ?_, fun j hj => ?_⟩⟩
        ·rw [upd_ne _ _ hne]; exact HA.out.2.2.1 j hj hne
        ·rw [upd_ne _ _ (by omega)]; exact HA.out.2.2.2.1 j hj
      ·obtain rfl : i = 64 := by omega
       obtain ⟨G, hA, hGq, hGn, hGe⟩ := hin2.out
       obtain ⟨gb', e9, hgl, -, -, hgc, hgf, -⟩ := hA.gs.at hql
       cases e9
       obtain ⟨v9, hv9⟩ : ∃ v, wq.cell? ⟨gb, q, none⟩ = some v := ⟨_, hgc⟩
       have hput := hA.put hql (hbg (by omega)) (G q)
       rw [hGq] at hput
       have eF : upd (fun j => if j < q then G j else nilR) q ⟨a, rn + 64, c⟩ = (fun j => if j < q + 1 then G j else nilR) := funext fun j => by
        by_cases e : j = q
        ·subst e; rw [upd_same, if_pos (by omega), hGq]
        ·rw [upd_ne _ _ e]
         by_cases e2 : j < q
         ·rw [if_pos e2, if_pos (by omega)]
         ·rw [if_neg e2, if_neg (by omega)]
       rw [eF] at hput
       have HP := Lib.hid (And.intro hput (And.intro hGq (And.intro hGn hGe)))
       clear hput eF hA hGq hGn hGe hgc hcell hin2
       have hiv : ¬ (((64 : Nat) : Int) < 64) := by decide
       go_wp2_with fail
       go_roundg (k - (q + 1))
       case measure => omega
       case rel =>
        refine ⟨q + 1, rfl, by omega, by go_num, Lib.hid ⟨G, HP.out.1, fun j hj => ?_, fun j hj => HP.out.2.2.2 j (by omega)⟩⟩
        by_cases e : j = q
        ·subst e
         rw [if_pos (by omega), HP.out.2.1, HQ.out.1]
        ·rw [HP.out.2.2.1 j hj e]
         by_cases e2 : j < q
         ·rw [if_pos e2, if_pos (by omega)]
         ·rw [if_neg e2, if_neg (by omega)]
    ·obtain rfl : q = k := by omega
     obtain ⟨G, hA, hGn, -⟩ := hin.out
     have hA : ApS q w S b cL gb wg R G G (fun j => (G j).n) := by
      refine ⟨hA.aps, hA.fr, hA.chg, hA.ls, ?_, hA.gnew⟩
      have h9 := hA.gs
      have e : ((List.range q).map fun j => (if j < q then G j else nilR).v) = (List.range q).map fun j => (G j).v := List.map_congr_left fun j hj => by rw [if_pos (List.mem_range.1 hj)]
      unfold Outer at h9 ⊢
      rw [e] at h9
      exact h9
     have hGn : ∀ j, j < q → (G j).n = (R j).n + 64 := fun j hj => by have := hGn j hj; rwa [if_pos hj] at this
     have HV := Lib.hid (And.intro hA hGn)
     clear hA hGn hin
     go_wp2_with fail
     go_loopg [9] q (fun dd kv wr => ∃ k : Nat, dd = q - k ∧ k ≤ q ∧ kv = .int .i64 k ∧ Hid (Chg [] wg wr))
     case atStart => exact ⟨0, rfl, Nat.zero_le _, rfl, Lib.hid (Chg.refl _ _)⟩
     case round =>
      obtain ⟨k, rfl, hk, rfl, hin⟩ := hrel
      obtain ⟨wh, rfl⟩ : ∃ wk, wk = wr := ⟨_, rfl⟩
      by_cases hkl : k < q
      ·obtain ⟨gb', e9, -, -, -, hgc, -, -⟩ := (HV.out.1.chg0 hin.out).gs.at hkl
       cases e9
       obtain ⟨rn, hrn⟩ : ∃ rn, rn = (R k).n := ⟨_, rfl⟩
       have hlq := H.out.1 k hkl
       have hgv : (G k).v = .slice (G k).a (rn + 64) (G k).c := by rw [hrn, ← HV.out.2 k hkl]; rfl
       rw [hgv] at hgc
       rw [← hrn] at hlq
       obtain ⟨ga, hga⟩ : ∃ ga, ga = (G k).a := ⟨_, rfl⟩
       obtain ⟨gc, hgcc⟩ : ∃ gc, gc = (G k).c := ⟨_, rfl⟩
       rw [← hga, ← hgcc] at hgc
       have HK := Lib.hid (And.intro hrn (And.intro hga hgcc))
       clear hrn hga hgcc hgv
       go_wp2_with fail
       go_loopg [10] (rn + 64) (fun dd iv wr => ∃ i : Nat, dd = rn + 64 - i ∧ i ≤ rn + 64 ∧ iv = .int .i64 i ∧ Hid (Chg [] wg wr))
       case atStart => exact ⟨0, rfl, Nat.zero_le _, rfl, hin⟩
       case round =>
        obtain ⟨i, rfl, hi, rfl, hin2⟩ := hrel
        obtain ⟨wq, rfl⟩ : ∃ wq, wq = wr := ⟨_, rfl⟩
        have hA := HV.out.1.chg0 hin2.out
        obtain ⟨gb', e9, -, -, -, hgc, -, -⟩ := hA.gs.at hkl
        cases e9
        obtain ⟨bL, rfl, -, hNc, hcm, hrc, -, -⟩ := hA.ls.at hkl
        have hgv : (G k).v = .slice ga (rn + 64) gc := by rw [HK.out.1, HK.out.2.1, HK.out.2.2, ← HV.out.2 k hkl]; rfl
        obtain ⟨ra, hra⟩ : ∃ ra, ra = (R k).a := ⟨_, rfl⟩
        obtain ⟨rc, hrcc⟩ : ∃ rc, rc = (R k).c := ⟨_, rfl⟩
        have hrv : (R k).v = .slice ra rn rc := by rw [HK.out.1, hra, hrcc]; rfl
        rw [hgv] at hgc
        rw [hrv] at hrc
        by_cases hil : i < rn + 64
        ·obtain ⟨g, hg1, hg2, hg3, hg4⟩ := (hA.aps.grown k hkl).2.2.cell (i := i) (by rw [HV.out.2 k hkl, ← HK.out.1]; exact hil) (by rw [HV.out.2 k hkl, ← HK.out.1]; exact hil)
         rw [HV.out.2 k hkl, ← HK.out.1, ← HK.out.2.2] at hg3
         rw [← HK.out.2.1] at hg1
         subst hg1
         rw [← HK.out.2.2] at hg4
         have hg4' : gc ≤ 9223372036854775807 := by simp only [maxLen] at hg4; exact hg4
         have cA := calls_rg (w := wq) (fun w1 h1 => mark_any w1 k i (by omega) (by omega) (by omega) (by omega))
         obtain ⟨mz, hmz⟩ : ∃ mz, mz = markZ k i := ⟨_, rfl⟩
         rw [← hmz] at cA hg2
         have kg := cell_rg hgc
         have kr := cell_rg hrc
         have kx := cell_rg hg2
         have hi1 : (i : Int) < (rn : Int) + 64 := by omega
         have hk1 : (k : Int) < q := by omega
         by_cases hir : i < rn
         ·obtain ⟨g', hr1, hr2, hr3, hr4⟩ := (hA.aps.row k hkl).cell (i := i) (by rw [← HK.out.1]; exact hir) (by rw [← HK.out.1]; exact hir)
          rw [← hra] at hr1
          subst hr1
          rw [← hmz] at hr2
          rw [← HK.out.1, ← hrcc] at hr3
          rw [← hrcc] at hr4
          have ky := cell_rg hr2
          have hd1 : decide ((i : Int) < rn) = true := decide_eq_true (by omega)
          have hi2 : (i : Int) < rn := by omega
          clear hmz hgv hrv hra hrcc hA hg4
          go_wp2_with fail
          refine wp_region_quiet_below (by kernel_rfl) (by kernel_rfl) ?_
          repeat (go_big_quiet_step (with_reducible exact cA _ _))
          refine wpQuiet_nil ?_
          intro w7 hw7
          have HW := Lib.hid (hin2.out.tr (chg_of_rg hw7))
          clear hw7 cA kg kr kx ky hd1 hgc hrc hg2 hr2
          go_wp2_with fail
          go_roundg (rn + 64 - (i + 1))
          case measure => omega
          case rel => exact ⟨i + 1, rfl, by omega, by go_num, HW⟩
         ·have hd1 : decide ((i : Int) < rn) = false := decide_eq_false (by omega)
          clear hmz hgv hrv hra hrcc hA hg4
          go_wp2_with fail
          refine wp_region_quiet_below (by kernel_rfl) (by kernel_rfl) ?_
          repeat (go_big_quiet_step (with_reducible exact cA _ _))
          refine wpQuiet_nil ?_
          intro w7 hw7
          have HW := Lib.hid (hin2.out.tr (chg_of_rg hw7))
          clear hw7 cA kg kr kx hd1 hgc hrc hg2
          go_wp2_with fail
          go_roundg (rn + 64 - (i + 1))
          case measure => omega
          case rel => exact ⟨i + 1, rfl, by omega, by go_num, HW⟩
        ·obtain rfl : i = rn + 64 := by omega
         clear hgv hrv hra hrcc hA hrc
         go_wp2_with fail
         go_roundg (q - (k + 1))
         case measure => omega
         case rel => exact ⟨k + 1, rfl, by omega, by go_num, hin2⟩
      ·obtain rfl : k = q := by omega
       have H1 := Lib.hid (And.intro (HV.out.1.chg0 hin.out) HV.out.2)
       clear hin HV
       obtain ⟨ob2, hmk2, hob2⟩ := made_zeros
       have HO := Lib.hid hob2
       clear hob2
       go_wp2_with fail
       go_loopg [11] k (fun dd kv wr => ∃ q : Nat, dd = k - q ∧ q ≤ k ∧ kv = .int .i64 q ∧ Hid (∃ G m, ApS k w S b cL gb wr R G G m ∧ ∀ j, j < k → (G j).n = (R j).n + 64))
       case atStart => exact ⟨0, rfl, Nat.zero_le _, rfl, Lib.hid ⟨G, _, H1.out.1, H1.out.2⟩⟩
       case round =>
        obtain ⟨q, rfl, hq, rfl, hin⟩ := hrel
        obtain ⟨wi, rfl⟩ : ∃ wk, wk = wr := ⟨_, rfl⟩
        by_cases hql : q < k
        ·go_wp2_with fail
         obtain ⟨mb, hmb⟩ : ∃ mb, mb = wi.heap.size := ⟨_, rfl⟩
         have hM0 := HO.out wi
         rw [← hmb] at hM0 ⊢
         have HM0 := Lib.hid (And.intro hM0 (And.intro ((Chg.refl [] wi).alloc ob2) hmb))
         clear hM0 hmb
         go_loopg [13] 64 (fun dd iv wr => ∃ i : Nat, dd = 64 - i ∧ i ≤ 64 ∧ iv = .int .i64 i ∧ Hid (∃ ys, wr.ownsRow 0 3 1 (.slice (some ⟨mb, 0, none⟩) 64 64) 64 ys ∧ (∀ u ∈ ys, u.oneCell' = true) ∧ Chg [] wi wr))
         case atStart => exact ⟨0, rfl, Nat.zero_le _, rfl, Lib.hid ⟨_, HM0.out.1, fun u hu => by rw [List.eq_of_mem_replicate hu]; rfl, HM0.out.2.1⟩⟩
         case round =>
          obtain ⟨i, rfl, hi, rfl, hin2⟩ := hrel
          obtain ⟨wq, rfl⟩ : ∃ wq, wq = wr := ⟨_, rfl⟩
          obtain ⟨ys, hys, hone, hcw⟩ := hin2.out
          by_cases hil : i < 64
          ·go_wp2_with fail
           refine (mark_any wq ((q : Int) + k) i (by omega) (by omega) (by omega) (by omega)).mono ?_
           rintro e w2 ⟨rfl, hc2⟩
           obtain ⟨mz, hmz⟩ : ∃ mz, mz = markZ ((q : Int) + k) i := ⟨_, rfl⟩
           rw [← hmz]
           clear hmz
           have hP := row_put (hc2.row hys (fun _ _ => by simp)) (i := i) (by omega)
           obtain ⟨v9, hv9⟩ : ∃ v, w2.cell? ⟨mb, i, none⟩ = some v := by
            rw [hP.1]
            exact ⟨_, List.getElem?_eq_getElem (by have := hys.1; omega)⟩
           have hf9 := hP.2.1
           have hput := hP.2.2.2.2 (.int .i64 mz)
           have hchg : Chg [] wi (w2.setCell ⟨mb, i, none⟩ (.int .i64 mz)) := (hcw.tr hc2).trans hput.2 (fun j hj => .inr (by simp at hj; have := HM0.out.2.2; omega))
           have HZ := Lib.hid (And.intro hput.1 (And.intro (show ∀ u ∈ ys.set i (.int .i64 mz), u.oneCell' = true from fun u hu => (List.mem_or_eq_of_mem_set hu).elim (hone u) (fun e => by rw [e]; rfl)) hchg))
           clear hP hput hchg hys hone hcw hc2 hin2
           go_wp2_with fail
           go_roundg (64 - (i + 1))
           case measure => omega
           case rel => exact ⟨i + 1, rfl, by omega, by go_num, Lib.hid ⟨_, HZ.out.1, HZ.out.2.1, HZ.out.2.2⟩⟩
          ·obtain rfl : i = 64 := by omega
           obtain ⟨G, m, hA, hGn⟩ := hin.out
           have hA := hA.chg0 hcw
           obtain ⟨bL, rfl, -, hNc, hcm, hrc, -, -⟩ := hA.ls.at hql
           obtain ⟨rn, hrn⟩ : ∃ rn, rn = (R q).n := ⟨_, rfl⟩
           obtain ⟨ra, hra⟩ : ∃ ra, ra = (R q).a := ⟨_, rfl⟩
           obtain ⟨rc, hrcc⟩ : ∃ rc, rc = (R q).c := ⟨_, rfl⟩
           have hrv : (R q).v = .slice ra rn rc := by rw [hrn, hra, hrcc]; rfl
           rw [hrv] at hrc
           obtain ⟨xs, hx1, hx2⟩ := hA.aps.row q hql
           have hlq := H.out.1 q hql
           rw [← hrn] at hlq hx1 hx2
           rw [hrv] at hx1
           have hcells : ∀ j u, ys[j]? = some u → wq.cell? ((⟨mb, 0, none⟩ : Addr).add j) = some u := hys.cells (g := mb) rfl
           have h2' : rn + 64 ≤ maxLen ∧ (rn + 64) * 8 ≤ 140737488355328 := by simp only [maxLen]; omega
           have HX := Lib.hid (And.intro hA (And.intro hGn (And.intro hx1 (And.intro hx2 (And.intro hcells (And.intro hys.1 (And.intro hone (And.intro h2' (And.intro hrn hrv)))))))))
           have hq1 : (q : Int) < k := by omega
           clear hA hGn hx1 hx2 hcells hys hone h2' hrn hrv hra hrcc hcw hin2
           go_wp2_with (at_builtin; refine wpList_append_two rfl _ _ 34 rfl 0 3 i0 _ 1 8 Tryz.underlying34 hi0 hz0 hz1 hz2 rfl (by decide) (.slice ra rn rc) rn xs rfl HX.out.2.2.1 (some ⟨mb, 0, none⟩) 64 64 ys rfl HX.out.2.2.2.2.2.1 (fun h => by cases h) (fun b hb => by cases hb; exact HX.out.2.2.2.2.1) HX.out.2.2.2.2.2.2.1 HX.out.2.2.2.2.2.2.2.1.1 HX.out.2.2.2.2.2.2.2.1.2 (Nat.zero_le _) ?_; intro v' w5 hr5 hg5 hor5; obtain ⟨a5, c5, rfl⟩ := ownsRow_slice hr5; have hst := HX.out.1.step (k := q) hql (s := R q) (g' := ⟨a5, rn + 64, c5⟩) (.inl rfl) (m' := rn) hr5 (fun r hr => by rw [List.getElem?_append_left (by have := HX.out.2.2.1.1; omega)]; exact HX.out.2.2.2.1 r hr) (by unfold IR.blk; rw [HX.out.2.2.2.2.2.2.2.2.2]; exact hg5) (by rw [HX.out.2.2.2.2.2.2.2.2.2, ← HX.out.2.2.2.2.2.2.2.2.1]; exact hor5) (by rw [← HX.out.2.2.2.2.2.2.2.2.1]; show rn ≤ rn + 64; omega) (by rw [← HX.out.2.2.2.2.2.2.2.2.1]; exact Nat.le_refl _); obtain ⟨gb', e9, hgl, -, -, hgc, hgf, -⟩ := hst.gs.at hql; cases e9; obtain ⟨v9, hv9⟩ : ∃ v, w5.cell? ⟨gb, q, none⟩ = some v := ⟨_, hgc⟩; have HST := Lib.hid (hst.put hql (hbg (by omega)) ⟨a5, rn + 64, c5⟩); clear hr5 hg5 hor5 hst hgc)
           clear hv9 hgf
           go_roundg (k - (q + 1))
           case measure => omega
           case rel =>
            refine ⟨q + 1, rfl, by omega, by go_num, Lib.hid ⟨upd G q ⟨a5, rn + 64, c5⟩, _, HST.out, fun j hj => ?_⟩⟩
            by_cases e : j = q
            ·subst e; rw [upd_same, ← HX.out.2.2.2.2.2.2.2.2.1]
            ·rw [upd_ne _ _ e]; exact HX.out.2.1 j hj
        ·obtain rfl : q = k := by omega
         obtain ⟨G, m, hA, hGn⟩ := hin.out
         have HV := Lib.hid (And.intro hA hGn)
         clear hA hGn hin
         go_wp2_with fail
         go_loopg [14] q (fun dd kv wr => ∃ k : Nat, dd = q - k ∧ k ≤ q ∧ kv = .int .i64 k ∧ Hid (Chg [] wi wr))
         case atStart => exact ⟨0, rfl, Nat.zero_le _, rfl, Lib.hid (Chg.refl _ _)⟩
         case round =>
          obtain ⟨k, rfl, hk, rfl, hin⟩ := hrel
          obtain ⟨wj, rfl⟩ : ∃ wk, wk = wr := ⟨_, rfl⟩
          by_cases hkl : k < q
          ·obtain ⟨rn, hrn⟩ : ∃ rn, rn = (R k).n := ⟨_, rfl⟩
           have hlq := H.out.1 k hkl
           rw [← hrn] at hlq
           have HK := Lib.hid hrn
           clear hrn
           go_wp2_with fail
           go_loopg [15] rn (fun dd iv wr => ∃ i : Nat, dd = rn - i ∧ i ≤ rn ∧ iv = .int .i64 i ∧ Hid (Chg [] wi wr))
           case atStart => exact ⟨0, rfl, Nat.zero_le _, rfl, hin⟩
           case round =>
            obtain ⟨i, rfl, hi, rfl, hin2⟩ := hrel
            obtain ⟨wq, rfl⟩ : ∃ wq, wq = wr := ⟨_, rfl⟩
            have hA := HV.out.1.chg0 hin2.out
            obtain ⟨gb', e9, -, -, -, hgc, -, -⟩ := hA.gs.at hkl
            cases e9
            obtain ⟨bL, rfl, -, hNc, hcm, hrc, -, -⟩ := hA.ls.at hkl
            obtain ⟨ga, hga⟩ : ∃ ga, ga = (G k).a := ⟨_, rfl⟩
            obtain ⟨gc, hgcc⟩ : ∃ gc, gc = (G k).c := ⟨_, rfl⟩
            obtain ⟨ra, hra⟩ : ∃ ra, ra = (R k).a := ⟨_, rfl⟩
            obtain ⟨rc, hrcc⟩ : ∃ rc, rc = (R k).c := ⟨_, rfl⟩
            have hgv : (G k).v = .slice ga (rn + 64) gc := by rw [HK.out, hga, hgcc, ← HV.out.2 k hkl]; rfl
            have hrv : (R k).v = .slice ra rn rc := by rw [HK.out, hra, hrcc]; rfl
            rw [hgv] at hgc
            rw [hrv] at hrc
            by_cases hil : i < rn
            ·obtain ⟨q1, q2, q3⟩ := hA.aps.grown k hkl
             obtain ⟨g, hg1, hg2, hg3, hg4⟩ := q3.cell (i := i) (by rw [← HK.out] at q2; omega) (by rw [HV.out.2 k hkl, ← HK.out]; omega)
             rw [HV.out.2 k hkl, ← HK.out, ← hgcc] at hg3
             rw [← hga] at hg1
             subst hg1
             have cA := calls_rg (w := wq) (fun w1 h1 => mark_any w1 k i (by omega) (by omega) (by omega) (by omega))
             obtain ⟨mz, hmz⟩ : ∃ mz, mz = markZ k i := ⟨_, rfl⟩
             rw [← hmz] at cA hg2
             obtain ⟨g', hr1, hr2, hr3, hr4⟩ := (hA.aps.row k hkl).cell (i := i) (by rw [← HK.out]; exact hil) (by rw [← HK.out]; exact hil)
             rw [← hra] at hr1
             subst hr1
             rw [← hmz] at hr2
             rw [← HK.out, ← hrcc] at hr3
             have kg := cell_rg hgc
             have kr := cell_rg hrc
             have kx := cell_rg hg2
             have ky := cell_rg hr2
             have hi1 : (i : Int) < (rn : Int) + 64 := by omega
             have hk1 : (k : Int) < q := by omega
             have hi2 : (i : Int) < rn := by omega
             clear hmz hgv hrv hra hrcc hga hgcc hA hg4 hr4 q1 q2 q3
             go_wp2_with fail
             refine wp_region_quiet_below (by kernel_rfl) (by kernel_rfl) ?_
             repeat (go_big_quiet_step (with_reducible exact cA _ _))
             refine wpQuiet_nil ?_
             intro w7 hw7
             have HW := Lib.hid (hin2.out.tr (chg_of_rg hw7))
             clear hw7 cA kg kr kx ky hgc hrc hg2 hr2
             go_wp2_with fail
             go_roundg (rn - (i + 1))
             case measure => omega
             case rel => exact ⟨i + 1, rfl, by omega, by go_num, HW⟩
            ·obtain rfl : i = rn := by omega
             clear hgv hrv hra hrcc hga hgcc hA hgc
             go_wp2_with fail
             go_roundg (q - (k + 1))
             case measure => omega
             case rel => exact ⟨k + 1, rfl, by omega, by go_num, hin2⟩
          ·obtain rfl : k = q := by omega
           go_wp2_with fail
           go_ret
           exact ⟨rfl, HV.out.1.chg.tr0 hin.out⟩
end Go.Proofs.YtlklmpjakeedcaaGreatDoor

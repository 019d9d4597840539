/-
  The document's store: Read.
  Conditions: none.
-/
import Derived.Test.YtffjfkjlahdedaaSnsSr1
set_option linter.unusedVariables false
set_option linter.unusedSimpArgs false
set_option linter.unnecessarySimpa false
namespace Go.Proofs.Ytffjfkjlahdedaa
open Go.RowKit Go.MapKept

def ReadRP (NB : Nat) (w : World) (x : Option (Int × Int × List Tw) × Int) (e : Ending) (w' : World) : Prop :=
  ∃ r p b ta tc, e = .returned (.tuple #[.agg #[.int .i64 r, .int .i64 p, .bool b, .int .i64 (Found.e x.1), .int .i64 (Found.l x.1), .slice ta (Found.t x.1).length tc], .int .i64 x.2]) ∧ TreeN NB w' (.slice ta (Found.t x.1).length tc) (Found.t x.1) ∧ Chg [] w w'

set_option maxRecDepth 100000 in
set_option maxHeartbeats 8000000 in
theorem readR_any {NB : Nat} (w : World) (B : Nat) (a : Option Addr) (c : Nat) (l : List Rs) (h : RefS NB w B a c l) (q : Int × Int) (k : Int) :
    Calls Try.prog 42 #[.pointer (some ⟨B, 0, none⟩), .int .i64 q.1, .int .i64 q.2, .int .i64 k] w (ReadRP NB w (St.read (rss l) q k)) := by
  obtain ⟨i1, hi1, hy0, hy1, hy2⟩ := info_parts Try.infoPairR
  have hca := (Chg.refl [] w).alloc (.cells #[.int .i64 0, .int .i64 0, .bool false, .int .i64 0, .int .i64 0, .slice none 0 0] 56)
  have hnew := heap_alloc_same w (.cells #[.int .i64 0, .int .i64 0, .bool false, .int .i64 0, .int .i64 0, .slice none 0 0] 56)
  obtain ⟨wa, ea⟩ : ∃ z, z = w.alloc (.cells #[.int .i64 0, .int .i64 0, .bool false, .int .i64 0, .int .i64 0, .slice none 0 0] 56) := ⟨_, rfl⟩
  obtain ⟨D, hD⟩ : ∃ z, z = w.heap.size := ⟨_, rfl⟩
  rw [← ea] at hca hnew
  rw [← hD] at hnew
  have ha := h.chg0 hca
  have hat := atS_any wa B a c l ha q
  have hban := h.ban
  have HE := Lib.hid (And.intro hD ea)
  have key : ∀ (w1 : World) (no : Int), Chg [] wa w1 → (∀ y0 y1 y2 y3 y4 y5, w1.heap[D]? = some (.cells #[y0, y1, y2, y3, y4, y5] 56 (0, 0)) → True) := fun _ _ _ _ _ _ _ _ _ _ => trivial
  clear key hD ea
  rcases atQ_cases (rss l) q with ⟨h0, -, hg⟩ | ⟨m, hm, h0, -, -, hg⟩
  · rw [h0] at hat
    have hrd : St.read (rss l) q k = (none, 1) := by unfold St.read; rw [hg]
    rw [hrd]
    have HH := Lib.hid (And.intro hca (And.intro hnew hban))
    clear h ha hca hnew hban h0 hg hrd
    obtain ⟨r, p⟩ := q
    simp only at hat ⊢
    go_enter Try.func42, Try.ntmps42
    go_wp2_with fail
    rw [← HE.out.1, ← HE.out.2]
    refine hat.mono ?_
    clear hat
    rintro e w1 ⟨rfl, hc1⟩
    have hb := hc1.heap HH.out.2.1 (by simp)
    have f0 := free_of_cells hb 0
    have f1 := free_of_cells hb 1
    have f2 := free_of_cells hb 2
    have f3 := free_of_cells hb 3
    have f4 := free_of_cells hb 4
    have f5 := free_of_cells hb 5
    obtain ⟨r0, r1, r2, r3, r4, r5⟩ := cells6 hb
    have H1 := Lib.hid (HH.out.1.tr hc1)
    have HB := Lib.hid hb
    clear hc1 hb
    go_wp2_with fail
    obtain ⟨h4, hc4⟩ := set6 HB.out (.int .i64 0) (.int .i64 0) (.bool false) (.int .i64 0) (.int .i64 0) (.slice none 0 0)
    obtain ⟨q0, q1, q2, q3, q4, q5⟩ := cells6 h4
    obtain ⟨w9, e9⟩ : ∃ w9, w9 = ((((((w1.setCell ⟨D, 0, none⟩ (.int .i64 0)).setCell ⟨D, 1, none⟩ (.int .i64 0)).setCell ⟨D, 2, none⟩ (.bool false)).setCell ⟨D, 3, none⟩ (.int .i64 0)).setCell ⟨D, 4, none⟩ (.int .i64 0)).setCell ⟨D, 5, none⟩ (.slice none 0 0)) := ⟨_, rfl⟩
    rw [← e9] at q0 q1 q2 q3 q4 q5 hc4 ⊢
    refine bodyPost_ret (v := .tuple #[.agg #[.int .i64 0, .int .i64 0, .bool false, .int .i64 0, .int .i64 0, .slice none 0 0], .int .i64 1]) (by simp [results, Try.results42, go_sem, q0, q1, q2, q3, q4, q5]) rfl ?_
    exact ⟨0, 0, false, none, 0, rfl, ⟨tree_nil _, by simp [Value.ownBlock, Found.t]⟩, H1.out.trans hc4 (fun j hj => .inr (by simp only [List.mem_singleton] at hj; have := HE.out.1; omega))⟩
  · rw [h0] at hat
    rw [rss_len] at hm
    obtain ⟨G, eG, hc1, hc2, z0, z1, z2, z3, z4, z5, -, hGl, -⟩ := ha.at hm
    subst eG
    have htr := ha.trees _ (List.getElem_mem hm)
    obtain ⟨y, hy⟩ : ∃ y, y = l[m] := ⟨_, rfl⟩
    have hgf : (rss l).get q = some y.f := by rw [hg, rss_get l hm, ← hy]; rfl
    rw [← hy] at z0 z1 z2 z3 z4 z5 htr
    obtain ⟨⟨yr, yp⟩, f, ya, yc⟩ := y
    simp only at z0 z1 z2 z3 z4 z5 htr hgf
    obtain ⟨n, hn⟩ : ∃ n, n = l.length := ⟨_, rfl⟩
    have x0 := cells1 ha.top
    have hBl := lt_of_block ha.top
    rw [← hn] at x0 hc1 hm
    have hnc : n ≤ c := by omega
    have hm1 : (m : Int) < n := by omega
    have hm0 : ¬ ((m : Int) < 0) := by omega
    have hBD : B ≠ D := fun e => by
      have h1 := ha.top
      rw [e, hnew] at h1
      simp at h1
    have hGD : G < w.heap.size := by obtain ⟨G2, e2, _, _, _, _, _, _, _, _, _, h2, _⟩ := h.at (i := m) (by omega); cases e2; exact h2
    have hGne : G ≠ D := by have := HE.out.1; omega
    have hDB : D ≠ B := fun e => hBD e.symm
    have hDG : D ≠ G := fun e => hGne e.symm
    cases f with
    | none =>
      have hrd : St.read (rss l) q k = (none, 2) := by unfold St.read; rw [hgf]
      rw [hrd]
      simp only [Found.has, Found.e, Found.l, Found.t, Option.isSome_none] at z2 z3 z4 z5 htr
      have HH := Lib.hid (And.intro hca (And.intro hnew hban))
      have HC := Lib.hid (And.intro x0 (And.intro z2 (And.intro z3 (And.intro z4 z5))))
      clear h ha hca hnew hban h0 hg hrd hy hgf htr hn z0 z1 z2 z3 z4 z5 x0
      obtain ⟨r, p⟩ := q
      simp only at hat ⊢
      go_enter Try.func42, Try.ntmps42
      go_wp2_with fail
      rw [← HE.out.1, ← HE.out.2]
      refine hat.mono ?_
      clear hat
      rintro e w1 ⟨rfl, hc1'⟩
      have hb := hc1'.heap HH.out.2.1 (by simp)
      have f0 := free_of_cells hb 0
      have f1 := free_of_cells hb 1
      have f2 := free_of_cells hb 2
      have f3 := free_of_cells hb 3
      have f4 := free_of_cells hb 4
      have f5 := free_of_cells hb 5
      obtain ⟨r0, r1, r2, r3, r4, r5⟩ := cells6 hb
      have y0 := hc1'.cell HC.out.1 (by simp)
      have y2 := hc1'.cell HC.out.2.1 (by simp)
      have H1 := Lib.hid (HH.out.1.tr hc1')
      have HB := Lib.hid hb
      clear hc1' hb
      go_wp2_with fail
      obtain ⟨h4, hc4⟩ := set6 HB.out (.int .i64 0) (.int .i64 0) (.bool false) (.int .i64 0) (.int .i64 0) (.slice none 0 0)
      obtain ⟨q0, q1, q2, q3, q4, q5⟩ := cells6 h4
      obtain ⟨w9, e9⟩ : ∃ w9, w9 = ((((((w1.setCell ⟨D, 0, none⟩ (.int .i64 0)).setCell ⟨D, 1, none⟩ (.int .i64 0)).setCell ⟨D, 2, none⟩ (.bool false)).setCell ⟨D, 3, none⟩ (.int .i64 0)).setCell ⟨D, 4, none⟩ (.int .i64 0)).setCell ⟨D, 5, none⟩ (.slice none 0 0)) := ⟨_, rfl⟩
      rw [← e9] at q0 q1 q2 q3 q4 q5 hc4 ⊢
      refine bodyPost_ret (v := .tuple #[.agg #[.int .i64 0, .int .i64 0, .bool false, .int .i64 0, .int .i64 0, .slice none 0 0], .int .i64 2]) (by simp [results, Try.results42, go_sem, q0, q1, q2, q3, q4, q5]) rfl ?_
      exact ⟨0, 0, false, none, 0, rfl, ⟨tree_nil _, by simp [Value.ownBlock, Found.t]⟩, H1.out.trans hc4 (fun j hj => .inr (by simp only [List.mem_singleton] at hj; have := HE.out.1; omega))⟩
    | some x =>
      obtain ⟨e0, l0, t0⟩ := x
      simp only [Found.has, Found.e, Found.l, Found.t, Option.isSome_some] at z2 z3 z4 z5 htr
      obtain ⟨n0, hn0⟩ : ∃ v, v = t0.length := ⟨_, rfl⟩
      rw [← hn0] at z5
      by_cases hk : l0 ≤ k
      · have hrd : St.read (rss l) q k = (some (e0, l0, t0), 3) := by unfold St.read; rw [hgf]; simp only [hk, if_true]
        rw [hrd]
        have HH := Lib.hid (And.intro hca (And.intro hnew (And.intro hban (And.intro htr hn0))))
        have HC := Lib.hid (And.intro x0 (And.intro z0 (And.intro z1 (And.intro z2 (And.intro z3 (And.intro z4 z5))))))
        clear h ha hca hnew hban h0 hg hrd hy hgf htr hn z0 z1 z2 z3 z4 z5 x0 hn0
        obtain ⟨r, p⟩ := q
        simp only at hat ⊢
        go_enter Try.func42, Try.ntmps42
        go_wp2_with fail
        rw [← HE.out.1, ← HE.out.2]
        refine hat.mono ?_
        clear hat
        rintro e w1 ⟨rfl, hc1'⟩
        have hb := hc1'.heap HH.out.2.1 (by simp)
        have f0 := free_of_cells hb 0
        have f1 := free_of_cells hb 1
        have f2 := free_of_cells hb 2
        have f3 := free_of_cells hb 3
        have f4 := free_of_cells hb 4
        have f5 := free_of_cells hb 5
        obtain ⟨r0, r1, r2, r3, r4, r5⟩ := cells6 hb
        have y0 := hc1'.cell HC.out.1 (by simp)
        have g0 := hc1'.cell HC.out.2.1 (by simp)
        have g1 := hc1'.cell HC.out.2.2.1 (by simp)
        have g2 := hc1'.cell HC.out.2.2.2.1 (by simp)
        have g3 := hc1'.cell HC.out.2.2.2.2.1 (by simp)
        have g4 := hc1'.cell HC.out.2.2.2.2.2.1 (by simp)
        have g5 := hc1'.cell HC.out.2.2.2.2.2.2 (by simp)
        have hkn : decide (k < l0) = false := decide_eq_false (by omega)
        have H1 := Lib.hid (And.intro (HH.out.1.tr hc1') hc1')
        have HB := Lib.hid hb
        clear hc1' hb
        go_wp2_with fail
        obtain ⟨h4, hc4⟩ := set6 HB.out (.int .i64 yr) (.int .i64 yp) (.bool true) (.int .i64 e0) (.int .i64 l0) (.slice ya n0 yc)
        obtain ⟨q0, q1, q2, q3, q4, q5⟩ := cells6 h4
        obtain ⟨w9, e9⟩ : ∃ w9, w9 = ((((((w1.setCell ⟨D, 0, none⟩ (.int .i64 yr)).setCell ⟨D, 1, none⟩ (.int .i64 yp)).setCell ⟨D, 2, none⟩ (.bool true)).setCell ⟨D, 3, none⟩ (.int .i64 e0)).setCell ⟨D, 4, none⟩ (.int .i64 l0)).setCell ⟨D, 5, none⟩ (.slice ya n0 yc)) := ⟨_, rfl⟩
        rw [← e9] at q0 q1 q2 q3 q4 q5 hc4 ⊢
        refine bodyPost_ret (v := .tuple #[.agg #[.int .i64 yr, .int .i64 yp, .bool true, .int .i64 e0, .int .i64 l0, .slice ya n0 yc], .int .i64 3]) (by simp [results, Try.results42, go_sem, q0, q1, q2, q3, q4, q5]) rfl ?_
        have hnt : ∀ j ∈ [D], NotRow w1 33 j := fun j hj => by
          simp only [List.mem_singleton] at hj
          subst hj
          exact .of_cells HB.out (by decide)
        refine ⟨yr, yp, true, ya, yc, by simp only [Found.e, Found.l, Found.t, HH.out.2.2.2.2], (HH.out.2.2.2.1.chg H1.out.2 (by simp)).chg hc4 hnt, H1.out.1.trans hc4 (fun j hj => .inr (by simp only [List.mem_singleton] at hj; have := HE.out.1; omega))⟩
      · have hrd : St.read (rss l) q k = (none, 2) := by unfold St.read; rw [hgf]; simp only [hk, if_false]
        rw [hrd]
        have HH := Lib.hid (And.intro hca (And.intro hnew hban))
        have HC := Lib.hid (And.intro x0 (And.intro z2 z4))
        clear h ha hca hnew hban h0 hg hrd hy hgf htr hn z0 z1 z2 z3 z4 z5 x0 hn0
        obtain ⟨r, p⟩ := q
        simp only at hat ⊢
        go_enter Try.func42, Try.ntmps42
        go_wp2_with fail
        rw [← HE.out.1, ← HE.out.2]
        refine hat.mono ?_
        clear hat
        rintro e w1 ⟨rfl, hc1'⟩
        have hb := hc1'.heap HH.out.2.1 (by simp)
        have f0 := free_of_cells hb 0
        have f1 := free_of_cells hb 1
        have f2 := free_of_cells hb 2
        have f3 := free_of_cells hb 3
        have f4 := free_of_cells hb 4
        have f5 := free_of_cells hb 5
        obtain ⟨r0, r1, r2, r3, r4, r5⟩ := cells6 hb
        have y0 := hc1'.cell HC.out.1 (by simp)
        have g2 := hc1'.cell HC.out.2.1 (by simp)
        have g4 := hc1'.cell HC.out.2.2 (by simp)
        have hkn : decide (k < l0) = true := decide_eq_true (by omega)
        have H1 := Lib.hid (HH.out.1.tr hc1')
        have HB := Lib.hid hb
        clear hc1' hb
        go_wp2_with fail
        obtain ⟨h4, hc4⟩ := set6 HB.out (.int .i64 0) (.int .i64 0) (.bool false) (.int .i64 0) (.int .i64 0) (.slice none 0 0)
        obtain ⟨q0, q1, q2, q3, q4, q5⟩ := cells6 h4
        obtain ⟨w9, e9⟩ : ∃ w9, w9 = ((((((w1.setCell ⟨D, 0, none⟩ (.int .i64 0)).setCell ⟨D, 1, none⟩ (.int .i64 0)).setCell ⟨D, 2, none⟩ (.bool false)).setCell ⟨D, 3, none⟩ (.int .i64 0)).setCell ⟨D, 4, none⟩ (.int .i64 0)).setCell ⟨D, 5, none⟩ (.slice none 0 0)) := ⟨_, rfl⟩
        rw [← e9] at q0 q1 q2 q3 q4 q5 hc4 ⊢
        refine bodyPost_ret (v := .tuple #[.agg #[.int .i64 0, .int .i64 0, .bool false, .int .i64 0, .int .i64 0, .slice none 0 0], .int .i64 2]) (by simp [results, Try.results42, go_sem, q0, q1, q2, q3, q4, q5]) rfl ?_
        exact ⟨0, 0, false, none, 0, rfl, ⟨tree_nil _, by simp [Value.ownBlock, Found.t]⟩, H1.out.trans hc4 (fun j hj => .inr (by simp only [List.mem_singleton] at hj; have := HE.out.1; omega))⟩
end Go.Proofs.Ytffjfkjlahdedaa

/-
  HeadsDoes: a deed of 5, 6, 7 as one of 0, 1.
  Conditions: none.
-/
import Derived.Test.YtnajhcoimohcaaaSmHd20
import Derived.Test.YtnajhcoimohcaaaSmHd17
import Derived.Test.YtnajhcoimohcaaaSmHs8
set_option linter.unusedVariables false
set_option linter.unusedSimpArgs false
set_option linter.unnecessarySimpa false
namespace Go.Proofs.Ytnajhcoimohcaaa
open Go.RowKit Go.MapKept

def topP (s : List Fm) : Int := match s.getLast? with | none => 0 | some f => f.place
def turnD (s : List Fm) (y : Dd) : Dd :=
  if 5 ≤ y.what % 8 then { y with what := if y.what % 8 = 7 then 1 else 0, place := if y.what % 8 = 5 ∧ topP s < 1099511627776 then topP s + 1 else topP s } else { y with what := y.what % 8 }
theorem Try.infoDeed : (Try.prog.info? 55).map (fun i => (i.zero, i.size, i.bytes)) = some (some (.agg #[.int .i64 0, .int .i64 0, .int .i64 0, .slice none 0 0]), 4, 48) := by kernel_rfl
def TurnP (w : World) (y : Dd) (ta : Option Addr) (tn tc : Nat) (e : Ending) (w' : World) : Prop :=
  e = .returned (.agg #[.int .i64 y.what, .int .i64 y.rule, .int .i64 y.place, .slice ta tn tc]) ∧ Chg [] w w'

set_option maxRecDepth 100000 in
set_option maxHeartbeats 4000000 in
theorem turned_any {NB : Nat} (w : World) (B : Nat) (a : Option Addr) (c : Nat) (l : List Rf) (h : RefAt NB w B a c l) (hl : l.length ≤ 1000000) (htop : -9223372036854775808 ≤ topP (rfs l)) (y : Dd) (hy : y.Wf) (ta : Option Addr) (tn tc : Nat) :
    Calls Try.prog 19 #[.pointer (some ⟨B, 0, none⟩), .agg #[.int .i64 y.what, .int .i64 y.rule, .int .i64 y.place, .slice ta tn tc]] w (TurnP w (turnD (rfs l) y) ta tn tc) := by
  obtain ⟨what, rule, place, tch⟩ := y
  obtain ⟨hw64, -, -, -⟩ := hy
  simp only at *
  obtain ⟨M, hM⟩ : ∃ z, z = what % 8 := ⟨_, rfl⟩
  have hM0 : 0 ≤ M ∧ M < 8 := by omega
  obtain ⟨P, hP⟩ : ∃ z, z = topP (rfs l) := ⟨_, rfl⟩
  have HP64 : -9223372036854775808 ≤ P := by rw [hP]; exact htop
  clear htop
  have hca := ((Chg.refl [] w).alloc (.cells #[.int .i64 what, .int .i64 rule, .int .i64 place, .slice ta tn tc] 55)).alloc (.cells #[.int .i64 0, .int .i64 0, .int .i64 0, .slice none 0 0] 55)
  have hd := heap_alloc_lt (heap_alloc_same w (.cells #[.int .i64 what, .int .i64 rule, .int .i64 place, .slice ta tn tc] 55)) (.cells #[.int .i64 0, .int .i64 0, .int .i64 0, .slice none 0 0] 55)
  have hr := heap_alloc_same (w.alloc (.cells #[.int .i64 what, .int .i64 rule, .int .i64 place, .slice ta tn tc] 55)) (.cells #[.int .i64 0, .int .i64 0, .int .i64 0, .slice none 0 0] 55)
  rw [World.size_alloc] at hr
  obtain ⟨wa, ea⟩ : ∃ z, z = (w.alloc (.cells #[.int .i64 what, .int .i64 rule, .int .i64 place, .slice ta tn tc] 55)).alloc (.cells #[.int .i64 0, .int .i64 0, .int .i64 0, .slice none 0 0] 55) := ⟨_, rfl⟩
  rw [← ea] at hca hd hr
  have h1 := pickK_any what 8 wa (by omega) (by omega) hw64.1 hw64.2
  rw [← hM] at h1
  obtain ⟨i1, hi1, hy0, hy1, hy2⟩ := info_parts Try.infoDeed
  have HH := Lib.hid (And.intro h (And.intro hca (And.intro hd (And.intro hr (And.intro hM hP)))))
  clear h hca hd hr hM hP
  go_enter Try.func19, Try.ntmps19
  go_wp2_with fail
  rw [← ea]
  refine h1.mono ?_
  clear h1 ea
  rintro e w1 ⟨rfl, hc1⟩
  have hd1 := hc1.heap HH.out.2.2.1 (by simp)
  have hr1 := hc1.heap HH.out.2.2.2.1 (by simp)
  obtain ⟨d0, d1, d2, d3⟩ := cellsL4 hd1
  obtain ⟨q0, q1, q2, q3⟩ := cellsL4 hr1
  have fd0 := free_of_cells hd1 0
  have fd2 := free_of_cells hd1 2
  have fq0 := free_of_cells hr1 0
  have fq1 := free_of_cells hr1 1
  have fq2 := free_of_cells hr1 2
  have fq3 := free_of_cells hr1 3
  have n1 : w.heap.size ≠ w.heap.size + 1 := by omega
  have n2 : w.heap.size + 1 ≠ w.heap.size := by omega
  have hcw := HH.out.2.1.tr hc1
  have H1 := Lib.hid (And.intro hd1 (And.intro hr1 hcw))
  clear hd1 hr1 hcw hc1
  by_cases hM5 : M < 5
  · have e5 : decide (5 ≤ M) = false := decide_eq_false (by omega)
    go_wp2_with fail
    have hcX : Chg [w.heap.size] w1 ((w1).setCell ⟨w.heap.size, 0, none⟩ (.int .i64 M)) := (Chg.refl [w.heap.size] w1).setCell (p := ⟨w.heap.size, 0, none⟩) (.inl (by simp)) _
    have hX := hcX.heap H1.out.2.1 (by simp only [List.mem_singleton]; omega)
    obtain ⟨h9, hc9⟩ := set4 hX (.int .i64 M) (.int .i64 rule) (.int .i64 place) (.slice ta tn tc)
    obtain ⟨w9, e9⟩ : ∃ z, z = ((((((w1).setCell ⟨w.heap.size, 0, none⟩ (.int .i64 M)).setCell ⟨w.heap.size + 1, 0, none⟩ (.int .i64 M)).setCell ⟨w.heap.size + 1, 1, none⟩ (.int .i64 rule)).setCell ⟨w.heap.size + 1, 2, none⟩ (.int .i64 place)).setCell ⟨w.heap.size + 1, 3, none⟩ (.slice ta tn tc)) := ⟨_, rfl⟩
    rw [← e9] at h9 hc9 ⊢
    clear q0 q1 q2 q3
    obtain ⟨q0, q1, q2, q3⟩ := cellsL4 h9
    refine bodyPost_ret (v := .agg #[.int .i64 M, .int .i64 rule, .int .i64 place, .slice ta tn tc]) (by simp [results, Try.results19, go_sem, q0, q1, q2, q3]) rfl ?_
    have hcB : Chg [] w w9 := (H1.out.2.2.trans hcX (fun j hj => .inr (by simp only [List.mem_singleton] at hj; omega))).trans hc9 (fun j hj => .inr (by simp only [List.mem_singleton] at hj; omega))
    refine ⟨?_, hcB⟩
    rw [show turnD (rfs l) ⟨what, rule, place, tch⟩ = ⟨M, rule, place, tch⟩ by unfold turnD; rw [if_neg (by simp only; have := HH.out.2.2.2.2.1; omega)]; simp only [HH.out.2.2.2.2.1]]
  · have e5 : decide (5 ≤ M) = true := decide_eq_true (by omega)
    have hr1 := HH.out.1.chg0 H1.out.2.2
    obtain ⟨n, hn⟩ : ∃ n, n = l.length := ⟨_, rfl⟩
    have x0 := cells1 hr1.top
    rw [← hn] at x0
    have hBl := lt_of_block HH.out.1.top
    have nB1 : w.heap.size ≠ B := by omega
    have nB2 : B ≠ w.heap.size := by omega
    cases n with
    | zero =>
      have hl0 : l = [] := List.eq_nil_of_length_eq_zero hn.symm
      have HL := Lib.hid hl0
      clear hr1 hn hl0
      have HTP : topP (rfs l) = 0 := by rw [HL.out]; rfl
      rcases (show M = 5 ∨ M = 6 ∨ M = 7 by omega) with rfl | rfl | rfl
      · go_wp2_with fail
        have HPF : True := trivial
        have hcX : Chg [w.heap.size] w1 ((((w1).setCell ⟨w.heap.size, 2, none⟩ (.int .i64 0)).setCell ⟨w.heap.size, 2, none⟩ (.int .i64 1)).setCell ⟨w.heap.size, 0, none⟩ (.int .i64 0)) := ((((Chg.refl [w.heap.size] w1).setCell (p := ⟨w.heap.size, 2, none⟩) (.inl (by simp)) _).setCell (p := ⟨w.heap.size, 2, none⟩) (.inl (by simp)) _).setCell (p := ⟨w.heap.size, 0, none⟩) (.inl (by simp)) _)
        have hX := hcX.heap H1.out.2.1 (by simp only [List.mem_singleton]; omega)
        obtain ⟨h9, hc9⟩ := set4 hX (.int .i64 (0)) (.int .i64 rule) (.int .i64 (1)) (.slice ta tn tc)
        obtain ⟨w9, e9⟩ : ∃ z, z = ((((((((w1).setCell ⟨w.heap.size, 2, none⟩ (.int .i64 0)).setCell ⟨w.heap.size, 2, none⟩ (.int .i64 1)).setCell ⟨w.heap.size, 0, none⟩ (.int .i64 0)).setCell ⟨w.heap.size + 1, 0, none⟩ (.int .i64 (0))).setCell ⟨w.heap.size + 1, 1, none⟩ (.int .i64 rule)).setCell ⟨w.heap.size + 1, 2, none⟩ (.int .i64 (1))).setCell ⟨w.heap.size + 1, 3, none⟩ (.slice ta tn tc)) := ⟨_, rfl⟩
        rw [← e9] at h9 hc9 ⊢
        clear q0 q1 q2 q3
        obtain ⟨q0, q1, q2, q3⟩ := cellsL4 h9
        refine bodyPost_ret (v := .agg #[.int .i64 (0), .int .i64 rule, .int .i64 (1), .slice ta tn tc]) (by simp [results, Try.results19, go_sem, q0, q1, q2, q3]) rfl ?_
        have hcB : Chg [] w w9 := (H1.out.2.2.trans hcX (fun j hj => .inr (by simp only [List.mem_singleton] at hj; omega))).trans hc9 (fun j hj => .inr (by simp only [List.mem_singleton] at hj; omega))
        refine ⟨?_, hcB⟩
        rw [show turnD (rfs l) ⟨what, rule, place, tch⟩ = ⟨0, rule, 1, tch⟩ by unfold turnD; simp only [← HH.out.2.2.2.2.1, HTP]; simp [HPF]]
      · go_wp2_with fail
        have HPF : True := trivial
        have hcX : Chg [w.heap.size] w1 (((w1).setCell ⟨w.heap.size, 2, none⟩ (.int .i64 0)).setCell ⟨w.heap.size, 0, none⟩ (.int .i64 0)) := (((Chg.refl [w.heap.size] w1).setCell (p := ⟨w.heap.size, 2, none⟩) (.inl (by simp)) _).setCell (p := ⟨w.heap.size, 0, none⟩) (.inl (by simp)) _)
        have hX := hcX.heap H1.out.2.1 (by simp only [List.mem_singleton]; omega)
        obtain ⟨h9, hc9⟩ := set4 hX (.int .i64 (0)) (.int .i64 rule) (.int .i64 (0)) (.slice ta tn tc)
        obtain ⟨w9, e9⟩ : ∃ z, z = (((((((w1).setCell ⟨w.heap.size, 2, none⟩ (.int .i64 0)).setCell ⟨w.heap.size, 0, none⟩ (.int .i64 0)).setCell ⟨w.heap.size + 1, 0, none⟩ (.int .i64 (0))).setCell ⟨w.heap.size + 1, 1, none⟩ (.int .i64 rule)).setCell ⟨w.heap.size + 1, 2, none⟩ (.int .i64 (0))).setCell ⟨w.heap.size + 1, 3, none⟩ (.slice ta tn tc)) := ⟨_, rfl⟩
        rw [← e9] at h9 hc9 ⊢
        clear q0 q1 q2 q3
        obtain ⟨q0, q1, q2, q3⟩ := cellsL4 h9
        refine bodyPost_ret (v := .agg #[.int .i64 (0), .int .i64 rule, .int .i64 (0), .slice ta tn tc]) (by simp [results, Try.results19, go_sem, q0, q1, q2, q3]) rfl ?_
        have hcB : Chg [] w w9 := (H1.out.2.2.trans hcX (fun j hj => .inr (by simp only [List.mem_singleton] at hj; omega))).trans hc9 (fun j hj => .inr (by simp only [List.mem_singleton] at hj; omega))
        refine ⟨?_, hcB⟩
        rw [show turnD (rfs l) ⟨what, rule, place, tch⟩ = ⟨0, rule, 0, tch⟩ by unfold turnD; simp only [← HH.out.2.2.2.2.1, HTP]; simp [HPF]]
      · go_wp2_with fail
        have HPF : True := trivial
        have hcX : Chg [w.heap.size] w1 (((w1).setCell ⟨w.heap.size, 2, none⟩ (.int .i64 0)).setCell ⟨w.heap.size, 0, none⟩ (.int .i64 1)) := (((Chg.refl [w.heap.size] w1).setCell (p := ⟨w.heap.size, 2, none⟩) (.inl (by simp)) _).setCell (p := ⟨w.heap.size, 0, none⟩) (.inl (by simp)) _)
        have hX := hcX.heap H1.out.2.1 (by simp only [List.mem_singleton]; omega)
        obtain ⟨h9, hc9⟩ := set4 hX (.int .i64 (1)) (.int .i64 rule) (.int .i64 (0)) (.slice ta tn tc)
        obtain ⟨w9, e9⟩ : ∃ z, z = (((((((w1).setCell ⟨w.heap.size, 2, none⟩ (.int .i64 0)).setCell ⟨w.heap.size, 0, none⟩ (.int .i64 1)).setCell ⟨w.heap.size + 1, 0, none⟩ (.int .i64 (1))).setCell ⟨w.heap.size + 1, 1, none⟩ (.int .i64 rule)).setCell ⟨w.heap.size + 1, 2, none⟩ (.int .i64 (0))).setCell ⟨w.heap.size + 1, 3, none⟩ (.slice ta tn tc)) := ⟨_, rfl⟩
        rw [← e9] at h9 hc9 ⊢
        clear q0 q1 q2 q3
        obtain ⟨q0, q1, q2, q3⟩ := cellsL4 h9
        refine bodyPost_ret (v := .agg #[.int .i64 (1), .int .i64 rule, .int .i64 (0), .slice ta tn tc]) (by simp [results, Try.results19, go_sem, q0, q1, q2, q3]) rfl ?_
        have hcB : Chg [] w w9 := (H1.out.2.2.trans hcX (fun j hj => .inr (by simp only [List.mem_singleton] at hj; omega))).trans hc9 (fun j hj => .inr (by simp only [List.mem_singleton] at hj; omega))
        refine ⟨?_, hcB⟩
        rw [show turnD (rfs l) ⟨what, rule, place, tch⟩ = ⟨1, rule, 0, tch⟩ by unfold turnD; simp only [← HH.out.2.2.2.2.1, HTP]; simp [HPF]]
    | succ n =>
      have hnl : n < l.length := by omega
      obtain ⟨G, eG, hc1, hc2, -, z1, -, -, -, -, hGl, -⟩ := hr1.at hnl
      subst eG
      rw [← hn] at hc1
      have hGw := (row_beyond HH.out.1.row (j := G) rfl).2.1
      have HTP : topP (rfs l) = P := HH.out.2.2.2.2.2.symm
      have hPl : P = l[n].f.place := by
        rw [HH.out.2.2.2.2.2]
        unfold topP rfs
        rw [List.getLast?_map, List.getLast?_eq_getElem?, List.getElem?_eq_getElem (by omega)]
        simp only [Option.map_some, show l.length - 1 = n by omega]
      rw [← hPl] at z1
      have hn9 : n ≤ 1000000 := by omega
      have hw1 : IntKind.i64.wrap (((n + 1 : Nat) : Int) - 1) = n := by rw [show ((n + 1 : Nat) : Int) - 1 = n by omega]; exact IntWalk.i64_in _ (by omega)
      have hwn : IntKind.i64.wrap (n : Int) = n := IntWalk.i64_in _ (by omega)
      have hd0 : decide ((0 : Int) < ((n + 1 : Nat) : Int)) = true := decide_eq_true (by omega)
      have hlt1 : (n : Int) < (n : Int) + 1 := by omega
      have nG1 : w.heap.size ≠ G := by omega
      have nG2 : G ≠ w.heap.size := by omega
      have HTPH := Lib.hid HTP
      clear hr1 hn hnl hPl HTP
      go_wp2_with fail
      obtain ⟨v1, ev⟩ : ∃ z, z = w1.setCell ⟨w.heap.size, 2, none⟩ (.int .i64 0) := ⟨_, rfl⟩
      have hcv := (Chg.refl [w.heap.size] w1).setCell (p := ⟨w.heap.size, 2, none⟩) (.inl (by simp)) (.int .i64 0)
      have hdv := heap_setCell_same H1.out.1 2 (.int .i64 0)
      rw [← ev] at hcv hdv ⊢
      have hdv' : v1.heap[w.heap.size]? = some (.cells #[.int .i64 what, .int .i64 rule, .int .i64 0, .slice ta tn tc] 55 (0, 0)) := by simpa using hdv
      replace x0 := hcv.cell x0 (by simp only [List.mem_singleton]; exact nB2)
      replace z1 := hcv.cell z1 (by simp only [List.mem_singleton]; exact nG2)
      have hrv := hcv.heap H1.out.2.1 (by simp only [List.mem_singleton]; omega)
      have hcwv : Chg [] w v1 := H1.out.2.2.trans hcv (fun j hj => .inr (by simp only [List.mem_singleton] at hj; omega))
      obtain ⟨d0, d1, d2, d3⟩ := cellsL4 hdv'
      clear hdv ev hcv q0 q1 q2 q3
      go_still_tail 14, (by kernel_rfl)
      change wpList _ _ _ _ _ v1.drew
      have hdw := (Chg.refl [] v1).drew
      obtain ⟨w2, e2⟩ : ∃ z, z = v1.drew := ⟨_, rfl⟩
      rw [← e2] at hdw ⊢
      have hd2 := hdw.heap hdv' (by simp)
      have hr2 := hdw.heap hrv (by simp)
      have H2 := Lib.hid (And.intro hd2 (And.intro hr2 (hcwv.tr hdw)))
      obtain ⟨d0, d1, d2, d3⟩ := cellsL4 hd2
      obtain ⟨q0, q1, q2, q3⟩ := cellsL4 hr2
      have fd0 := free_of_cells hd2 0
      have fd2 := free_of_cells hd2 2
      have fq0 := free_of_cells hr2 0
      have fq1 := free_of_cells hr2 1
      have fq2 := free_of_cells hr2 2
      have fq3 := free_of_cells hr2 3
      clear e2 hdw hd2 hr2 hdv' hrv hcwv x0 z1
      rcases (show M = 5 ∨ M = 6 ∨ M = 7 by omega) with rfl | rfl | rfl
      · by_cases hP40 : P < 1099511627776
        · have hdP : decide (P < 1099511627776) = true := decide_eq_true hP40
          have hwP : IntKind.i64.wrap (P + 1) = P + 1 := by
            have := HP64
            exact IntWalk.i64_in _ (by omega)
          go_wp2_with fail
          have HTP := HTPH.out
          have HPF := hP40
          have hcX : Chg [w.heap.size] w2 ((((w2).setCell ⟨w.heap.size, 2, none⟩ (.int .i64 P)).setCell ⟨w.heap.size, 2, none⟩ (.int .i64 (P + 1))).setCell ⟨w.heap.size, 0, none⟩ (.int .i64 0)) := ((((Chg.refl [w.heap.size] w2).setCell (p := ⟨w.heap.size, 2, none⟩) (.inl (by simp)) _).setCell (p := ⟨w.heap.size, 2, none⟩) (.inl (by simp)) _).setCell (p := ⟨w.heap.size, 0, none⟩) (.inl (by simp)) _)
          have hX := hcX.heap H2.out.2.1 (by simp only [List.mem_singleton]; omega)
          obtain ⟨h9, hc9⟩ := set4 hX (.int .i64 (0)) (.int .i64 rule) (.int .i64 (P + 1)) (.slice ta tn tc)
          obtain ⟨w9, e9⟩ : ∃ z, z = ((((((((w2).setCell ⟨w.heap.size, 2, none⟩ (.int .i64 P)).setCell ⟨w.heap.size, 2, none⟩ (.int .i64 (P + 1))).setCell ⟨w.heap.size, 0, none⟩ (.int .i64 0)).setCell ⟨w.heap.size + 1, 0, none⟩ (.int .i64 (0))).setCell ⟨w.heap.size + 1, 1, none⟩ (.int .i64 rule)).setCell ⟨w.heap.size + 1, 2, none⟩ (.int .i64 (P + 1))).setCell ⟨w.heap.size + 1, 3, none⟩ (.slice ta tn tc)) := ⟨_, rfl⟩
          rw [← e9] at h9 hc9 ⊢
          clear q0 q1 q2 q3
          obtain ⟨q0, q1, q2, q3⟩ := cellsL4 h9
          refine bodyPost_ret (v := .agg #[.int .i64 (0), .int .i64 rule, .int .i64 (P + 1), .slice ta tn tc]) (by simp [results, Try.results19, go_sem, q0, q1, q2, q3]) rfl ?_
          have hcB : Chg [] w w9 := (H2.out.2.2.trans hcX (fun j hj => .inr (by simp only [List.mem_singleton] at hj; omega))).trans hc9 (fun j hj => .inr (by simp only [List.mem_singleton] at hj; omega))
          refine ⟨?_, hcB⟩
          rw [show turnD (rfs l) ⟨what, rule, place, tch⟩ = ⟨0, rule, P + 1, tch⟩ by unfold turnD; simp only [← HH.out.2.2.2.2.1, HTP]; simp [HPF]]
        · have hdP : decide (P < 1099511627776) = false := decide_eq_false hP40
          go_wp2_with fail
          have HTP := HTPH.out
          have HPF := hP40
          have hcX : Chg [w.heap.size] w2 (((w2).setCell ⟨w.heap.size, 2, none⟩ (.int .i64 P)).setCell ⟨w.heap.size, 0, none⟩ (.int .i64 0)) := (((Chg.refl [w.heap.size] w2).setCell (p := ⟨w.heap.size, 2, none⟩) (.inl (by simp)) _).setCell (p := ⟨w.heap.size, 0, none⟩) (.inl (by simp)) _)
          have hX := hcX.heap H2.out.2.1 (by simp only [List.mem_singleton]; omega)
          obtain ⟨h9, hc9⟩ := set4 hX (.int .i64 (0)) (.int .i64 rule) (.int .i64 (P)) (.slice ta tn tc)
          obtain ⟨w9, e9⟩ : ∃ z, z = (((((((w2).setCell ⟨w.heap.size, 2, none⟩ (.int .i64 P)).setCell ⟨w.heap.size, 0, none⟩ (.int .i64 0)).setCell ⟨w.heap.size + 1, 0, none⟩ (.int .i64 (0))).setCell ⟨w.heap.size + 1, 1, none⟩ (.int .i64 rule)).setCell ⟨w.heap.size + 1, 2, none⟩ (.int .i64 (P))).setCell ⟨w.heap.size + 1, 3, none⟩ (.slice ta tn tc)) := ⟨_, rfl⟩
          rw [← e9] at h9 hc9 ⊢
          clear q0 q1 q2 q3
          obtain ⟨q0, q1, q2, q3⟩ := cellsL4 h9
          refine bodyPost_ret (v := .agg #[.int .i64 (0), .int .i64 rule, .int .i64 (P), .slice ta tn tc]) (by simp [results, Try.results19, go_sem, q0, q1, q2, q3]) rfl ?_
          have hcB : Chg [] w w9 := (H2.out.2.2.trans hcX (fun j hj => .inr (by simp only [List.mem_singleton] at hj; omega))).trans hc9 (fun j hj => .inr (by simp only [List.mem_singleton] at hj; omega))
          refine ⟨?_, hcB⟩
          rw [show turnD (rfs l) ⟨what, rule, place, tch⟩ = ⟨0, rule, P, tch⟩ by unfold turnD; simp only [← HH.out.2.2.2.2.1, HTP]; simp; intro h; omega]
      · go_wp2_with fail
        have HTP := HTPH.out
        have HPF : True := trivial
        have hcX : Chg [w.heap.size] w2 (((w2).setCell ⟨w.heap.size, 2, none⟩ (.int .i64 P)).setCell ⟨w.heap.size, 0, none⟩ (.int .i64 0)) := (((Chg.refl [w.heap.size] w2).setCell (p := ⟨w.heap.size, 2, none⟩) (.inl (by simp)) _).setCell (p := ⟨w.heap.size, 0, none⟩) (.inl (by simp)) _)
        have hX := hcX.heap H2.out.2.1 (by simp only [List.mem_singleton]; omega)
        obtain ⟨h9, hc9⟩ := set4 hX (.int .i64 (0)) (.int .i64 rule) (.int .i64 (P)) (.slice ta tn tc)
        obtain ⟨w9, e9⟩ : ∃ z, z = (((((((w2).setCell ⟨w.heap.size, 2, none⟩ (.int .i64 P)).setCell ⟨w.heap.size, 0, none⟩ (.int .i64 0)).setCell ⟨w.heap.size + 1, 0, none⟩ (.int .i64 (0))).setCell ⟨w.heap.size + 1, 1, none⟩ (.int .i64 rule)).setCell ⟨w.heap.size + 1, 2, none⟩ (.int .i64 (P))).setCell ⟨w.heap.size + 1, 3, none⟩ (.slice ta tn tc)) := ⟨_, rfl⟩
        rw [← e9] at h9 hc9 ⊢
        clear q0 q1 q2 q3
        obtain ⟨q0, q1, q2, q3⟩ := cellsL4 h9
        refine bodyPost_ret (v := .agg #[.int .i64 (0), .int .i64 rule, .int .i64 (P), .slice ta tn tc]) (by simp [results, Try.results19, go_sem, q0, q1, q2, q3]) rfl ?_
        have hcB : Chg [] w w9 := (H2.out.2.2.trans hcX (fun j hj => .inr (by simp only [List.mem_singleton] at hj; omega))).trans hc9 (fun j hj => .inr (by simp only [List.mem_singleton] at hj; omega))
        refine ⟨?_, hcB⟩
        rw [show turnD (rfs l) ⟨what, rule, place, tch⟩ = ⟨0, rule, P, tch⟩ by unfold turnD; simp only [← HH.out.2.2.2.2.1, HTP]; simp [HPF]]
      · go_wp2_with fail
        have HTP := HTPH.out
        have HPF : True := trivial
        have hcX : Chg [w.heap.size] w2 (((w2).setCell ⟨w.heap.size, 2, none⟩ (.int .i64 P)).setCell ⟨w.heap.size, 0, none⟩ (.int .i64 1)) := (((Chg.refl [w.heap.size] w2).setCell (p := ⟨w.heap.size, 2, none⟩) (.inl (by simp)) _).setCell (p := ⟨w.heap.size, 0, none⟩) (.inl (by simp)) _)
        have hX := hcX.heap H2.out.2.1 (by simp only [List.mem_singleton]; omega)
        obtain ⟨h9, hc9⟩ := set4 hX (.int .i64 (1)) (.int .i64 rule) (.int .i64 (P)) (.slice ta tn tc)
        obtain ⟨w9, e9⟩ : ∃ z, z = (((((((w2).setCell ⟨w.heap.size, 2, none⟩ (.int .i64 P)).setCell ⟨w.heap.size, 0, none⟩ (.int .i64 1)).setCell ⟨w.heap.size + 1, 0, none⟩ (.int .i64 (1))).setCell ⟨w.heap.size + 1, 1, none⟩ (.int .i64 rule)).setCell ⟨w.heap.size + 1, 2, none⟩ (.int .i64 (P))).setCell ⟨w.heap.size + 1, 3, none⟩ (.slice ta tn tc)) := ⟨_, rfl⟩
        rw [← e9] at h9 hc9 ⊢
        clear q0 q1 q2 q3
        obtain ⟨q0, q1, q2, q3⟩ := cellsL4 h9
        refine bodyPost_ret (v := .agg #[.int .i64 (1), .int .i64 rule, .int .i64 (P), .slice ta tn tc]) (by simp [results, Try.results19, go_sem, q0, q1, q2, q3]) rfl ?_
        have hcB : Chg [] w w9 := (H2.out.2.2.trans hcX (fun j hj => .inr (by simp only [List.mem_singleton] at hj; omega))).trans hc9 (fun j hj => .inr (by simp only [List.mem_singleton] at hj; omega))
        refine ⟨?_, hcB⟩
        rw [show turnD (rfs l) ⟨what, rule, place, tch⟩ = ⟨1, rule, P, tch⟩ by unfold turnD; simp only [← HH.out.2.2.2.2.1, HTP]; simp [HPF]]
end Go.Proofs.Ytnajhcoimohcaaa

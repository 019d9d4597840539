/-
  Package heads: all pairs, from below.
  Conditions: none.
-/
import Derived.Test.YtnajhcoimohcaaaSmHs3
set_option linter.unusedVariables false
set_option linter.unusedSimpArgs false
set_option linter.unnecessarySimpa false
namespace Go.Proofs.Ytnajhcoimohcaaa
open Go.RowKit Go.MapKept

theorem Try.infoHPair : (Try.prog.info? 63).map (fun i => (i.zero, i.size, i.bytes)) = some (some (.agg #[.int .i64 0, .int .i64 0]), 2, 16) := by kernel_rfl
def prCells (s : List Fm) : List Value := s.flatMap fun f => [.int .i64 f.rule, .int .i64 f.place]

set_option maxRecDepth 100000 in
set_option maxHeartbeats 4000000 in
theorem pairF_any (w : World) (r p : Int) (u v : Value) (t : Bool) :
    Calls Try.prog 66 #[.agg #[.int .i64 r, .int .i64 p, u, v, .bool t]] w fun e w' => e = .returned (.agg #[.int .i64 r, .int .i64 p]) ∧ Chg [] w w' := by
  obtain ⟨i1, hi1, hy0, hy1, hy2⟩ := info_parts Try.infoHPair
  go_enter Try.func66, Try.ntmps66
  go_wp2_with fail
  refine bodyPost_ret (v := .agg #[.int .i64 r, .int .i64 p]) (by simp [results, Try.results66, go_sem]) rfl ?_
  exact ⟨rfl, ((Chg.refl _ _).alloc _).alloc _⟩

def PairsP (w : World) (s : List Fm) (e : Ending) (w' : World) : Prop :=
  ∃ a n c, e = .returned (.slice a n c) ∧ n = s.length ∧ w'.ownsRow w.heap.size 63 2 (.slice a n c) n (prCells s) ∧ Chg [] w w'
set_option maxRecDepth 100000 in
set_option maxHeartbeats 8000000 in
theorem eachS_any (w : World) (B : Nat) (a : Option Addr) (c : Nat) (l : List Fr) (h : StackAt w B a c l) (hl : l.length ≤ 1000000) :
    Calls Try.prog 65 #[.pointer (some ⟨B, 0, none⟩), .func (.func 66) #[] #[]] w (PairsP w (fms l)) := by
  obtain ⟨i0, hi0, hz0, hz1, hz2⟩ := info_parts Try.infoHPair
  obtain ⟨i1, hi1, hy0, hy1, hy2⟩ := info_parts Try.infoFrame
  obtain ⟨n, hn⟩ : ∃ n, n = l.length := ⟨_, rfl⟩
  obtain ⟨x0, x1⟩ := cells2 h.top
  rw [← hn] at x1 hl
  obtain ⟨S0, hS0⟩ : ∃ z, z = w.heap.size := ⟨_, rfl⟩
  have HH := Lib.hid (And.intro h (And.intro hn hS0))
  clear h hn hS0
  go_enter Try.func65, Try.ntmps65
  go_wp2_with fail
  clear x0 x1
  go_loopg [4, 12] n (fun dd lv iv wr => ∃ i : Nat, ∃ pa pc, dd = n - i ∧ i ≤ n ∧ lv = .slice pa i pc ∧ iv = .int .i64 i ∧ Hid (wr.ownsRow S0 63 2 (.slice pa i pc) i (prCells ((fms l).take i)) ∧ Chg [] w wr))
  case atStart => exact ⟨0, none, 0, rfl, Nat.zero_le _, rfl, rfl, Lib.hid ⟨by simpa [prCells] using World.ownsRow_nil _ _ _ _, Chg.refl _ _⟩⟩
  case round =>
    obtain ⟨i, pa, pc, rfl, hi, rfl, rfl, hI⟩ := hrel
    obtain ⟨wq, rfl⟩ : ∃ wq, wq = wr := ⟨_, rfl⟩
    by_cases hil : i < n
    · have hiL : i < l.length := by have := HH.out.2.1; omega
      obtain ⟨G, eG, hc1, hc2, z0, z1, z2, z3, z4, -, hG, -⟩ := (HH.out.1.chg0 hI.out.2).at hiL
      subst eG
      rw [← HH.out.2.1] at hc1
      obtain ⟨y, hy⟩ : ∃ y, y = l[i] := ⟨_, rfl⟩
      rw [← hy] at z0 z1 z2 z3 z4
      have HX : Hid (∃ h : i < l.length, y = l[i]) := Lib.hid ⟨hiL, hy⟩
      obtain ⟨⟨rule, place, tch, inv, tnt⟩, bt, bi⟩ := y
      simp only at z0 z1 z2 z3 z4
      have hi1' : (i : Int) < n := by omega
      clear hiL hy
      have hp := fun (W : World) => pairF_any W rule place (.map (some bt)) (.map (some bi)) tnt
      go_wp2_with fail
      refine (hp _).mono ?_
      clear hp
      rintro e w3 ⟨rfl, hc3⟩
      have hcq : Chg [] wq w3 := ((Chg.refl [] wq).alloc _).tr hc3
      have hcb := (Chg.refl [] w3).alloc (.cells #[.int .i64 rule, .int .i64 place] 63)
      have hbn := heap_alloc_same w3 (.cells #[.int .i64 rule, .int .i64 place] 63)
      have hone : ∀ u ∈ ([.int .i64 rule, .int .i64 place] : List Value), u.oneCell' = true := by simp [Value.oneCell']
      have h2' : i + 1 ≤ maxLen ∧ (i + 1) * 16 ≤ 140737488355328 := by simp only [maxLen]; omega
      have hrow := (hcb.row (hcq.row hI.out.1 (fun _ _ => by simp)) (fun _ _ => by simp))
      have HA := Lib.hid (And.intro hcb (And.intro (cells_at hbn) (And.intro hone (And.intro h2' (And.intro hrow (hI.out.2.tr hcq))))))
      clear hcq hcb hbn hone h2' hrow hc3 z0 z1 z2 z3 z4
      go_wp2_with (at_builtin; refine wpList_append_row rfl _ _ 94 rfl 63 i0 _ 2 16 Try.underlying94 hi0 hz0 hz1 hz2 rfl (by decide) (.slice pa i pc) i (prCells ((fms l).take i)) rfl (row_base HA.out.2.2.2.2.1 (Nat.zero_le _)) ⟨w3.heap.size, 0, none⟩ 1 1 [.int .i64 rule, .int .i64 place] rfl rfl HA.out.2.1 HA.out.2.2.1 HA.out.2.2.2.1.1 HA.out.2.2.2.1.2 ?_; intro a5 c5 w5 hr5 hg5 hk5; have HX5 := Lib.hid (And.intro hr5 (And.intro hg5 hk5)); clear hr5 hg5 hk5)
      go_roundg (n - (i + 1))
      case measure => omega
      case rel =>
        obtain ⟨hiL, hyy⟩ := HX.out
        have hsz := HA.out.2.2.2.2.2.size
        refine ⟨i + 1, a5, c5, rfl, by omega, rfl, by go_num, Lib.hid ⟨?_, ?_⟩⟩
        · have e : prCells ((fms l).take (i + 1)) = prCells ((fms l).take i) ++ [.int .i64 rule, .int .i64 place] := by
            rw [List.take_succ_eq_append_getElem (by rw [fms_len]; exact hiL), fms_get l hiL, ← hyy]
            simp [prCells]
          rw [e]
          refine row_up S0 HX5.out.1 (fun k hk => ?_)
          rcases HX5.out.2.2 with e | e
          · rw [e] at hk; exact (row_beyond HA.out.2.2.2.2.1 hk).1
          · rw [e] at hk; cases hk; rw [HH.out.2.2, World.size_alloc]; omega
        · refine (HA.out.2.2.2.2.2.tr HA.out.1).grown HX5.out.2.1 (fun k hk => .inr ?_)
          have := (row_beyond HA.out.2.2.2.2.1 hk).1
          rw [HH.out.2.2] at this
          exact this
    · obtain rfl : i = n := by omega
      go_wp2_with fail
      go_ret
      refine ⟨pa, i, pc, rfl, by rw [fms_len]; exact HH.out.2.1, ?_, hI.out.2⟩
      have h1 := hI.out.1
      rw [List.take_of_length_le (by rw [fms_len, ← HH.out.2.1]; exact Nat.le_refl _), HH.out.2.2] at h1
      exact h1

set_option maxRecDepth 100000 in
set_option maxHeartbeats 4000000 in
theorem pairsS_any (w : World) (B : Nat) (a : Option Addr) (c : Nat) (l : List Fr) (h : StackAt w B a c l) (hl : l.length ≤ 1000000) :
    Calls Try.prog 54 #[.pointer (some ⟨B, 0, none⟩)] w (PairsP w (fms l)) := by
  obtain ⟨x0, x1⟩ := cells2 h.top
  have h1 := isS_any w B true x0
  have HH := Lib.hid h
  clear h x0 x1
  go_enter Try.func54, Try.ntmps54
  go_wp2_with fail
  refine h1.mono ?_
  clear h1
  rintro e w1 ⟨rfl, hc1⟩
  have h2 := eachS_any w1 B a c l (HH.out.chg0 hc1) hl
  have H1 := Lib.hid hc1
  clear hc1
  go_wp2_with fail
  refine h2.mono ?_
  clear h2
  rintro e w2 ⟨pa, pn, pc, rfl, h3, h4, h5⟩
  have H2 := Lib.hid (And.intro h3 (And.intro h4 h5))
  clear h3 h4 h5
  go_wp2_with fail
  go_ret
  exact ⟨pa, pn, pc, rfl, H2.out.1, row_base H2.out.2.1 H1.out.size, H1.out.tr H2.out.2.2⟩
end Go.Proofs.Ytnajhcoimohcaaa

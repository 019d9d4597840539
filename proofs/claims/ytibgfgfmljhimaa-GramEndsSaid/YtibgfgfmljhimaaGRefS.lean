/-
  The document's Size, Height, Owner: the walks; they are the program's.
  Conditions: the grammar reads as data (GramAt); its lists are within the reach.
-/
import Derived.Test.YtibgfgfmljhimaaGRefR
set_option linter.unusedVariables false
set_option linter.unusedSimpArgs false
namespace Go.Proofs.Ytibgfgfmljhimaa
open Go.RowKit Go.MapKept Go.Shelf

theorem chain_pos {g : Gr} {t : List (Nat × Nat)} {e : Nat} (h : chainT g t g.rules 0 0 = some e) : ∀ i, i ≤ g.rules.length → ∃ x : Nat, chainT g t (g.rules.drop i) i x = some e ∧ ∀ j (hj : j < g.rules.length), j < i → g.rules[j].body ≤ (x : Int) := by
  intro i
  induction i with
  | zero => intro _; exact ⟨0, by simpa using h, fun j _ h => by omega⟩
  | succ i ih =>
    intro hi
    obtain ⟨x, hx, hb⟩ := ih (by omega)
    obtain ⟨_, hbody, z, hh, _, _, hc⟩ := chain_next (by omega) hx
    refine ⟨x + z, hc, fun j hj hji => ?_⟩
    by_cases e : j = i
    · subst e; rw [hbody]; omega
    · have := hb j hj (by omega); omega
theorem bodies_mono {g : Gr} {t : List (Nat × Nat)} {e : Nat} (h : chainT g t g.rules 0 0 = some e) {j i : Nat} (hji : j < i) (hi : i < g.rules.length) : g.rules[j].body ≤ g.rules[i].body := by
  obtain ⟨x, hx, hb⟩ := chain_pos h i (by omega)
  rw [(chain_next hi hx).2.1]
  exact hb j (by omega) hji
/-- Which rules' bodies do not stand behind a node. -/
theorem body_le_iff {g : Gr} {t : List (Nat × Nat)} {e : Nat} (h : chainT g t g.rules 0 0 = some e) (n : Int) {j : Nat} (hj : j < g.rules.length) : g.rules[j].body ≤ n ↔ j < ownerN g.rules n := by
  unfold ownerN
  constructor
  · intro hb
    rcases Nat.lt_or_ge j (g.rules.findIdx fun r => decide (n < r.body)) with h1 | h1
    · exact h1
    · exfalso
      have hl : (g.rules.findIdx fun r => decide (n < r.body)) < g.rules.length := by omega
      have h2 := List.findIdx_getElem (w := hl)
      simp only [decide_eq_true_eq] at h2
      rcases Nat.eq_or_lt_of_le h1 with h3 | h3
      · simp only [h3] at h2; omega
      · have := bodies_mono h h3 hj; omega
  · intro h1
    have h2 := List.not_of_lt_findIdx h1
    simp at h2
    omega
theorem size_zero_none {g : Gr} (h : rightB g = false) : wholeT g = none := by
  have := rightB_iff g
  rw [h] at this
  cases hw : wholeT g with
  | none => rfl
  | some t => rw [hw] at this; cases this

set_option maxRecDepth 100000 in
set_option maxHeartbeats 2000000 in
theorem refSize_any (w : World) (a1 : Option Addr) (n1 c1 : Nat) (a2 : Option Addr) (n2 c2 : Nat) (g : Gr) (n : Int) (hg : GramAt w a1 n1 c1 a2 n2 c2 g) (hn2 : n2 ≤ 17592186044416) :
    Calls Try.prog 89 #[.agg #[.slice a1 n1 c1, .slice a2 n2 c2], .int .i64 n] w fun e w' => e = .returned (.int .i64 (sizeG g n)) ∧ Chg [] w w' := by
  have HG := Lib.hid hg
  clear hg
  go_enter Try.func89, Try.ntmps89
  go_wp2_with fail
  have HB := Lib.hid (GrBox.new w a1 n1 c1 a2 n2 c2)
  refine (refRight_any _ a1 n1 c1 a2 n2 c2 g (HG.out.keep HB.out.ch.kp)).mono ?_
  rintro e w2 ⟨rfl, hc⟩
  have HB2 := Lib.hid (HB.out.keep hc)
  clear hc
  obtain ⟨x0, x1⟩ := cells2 HB2.out.box
  have hl := lt_of_block HB2.out.box
  cases hr : rightB g with
  | false =>
    have HS := Lib.hid (size_none (size_zero_none hr) n)
    clear hr
    go_wp2
    go_ret
    exact ⟨ret_int HS.out.1.symm, HB2.out.ch⟩
  | true =>
    obtain ⟨t, ht, _, _⟩ := right_tab hr
    have HT := Lib.hid ht
    clear ht hr
    by_cases hn : 0 ≤ n ∧ n < (n2 : Int)
    · obtain ⟨k, rfl⟩ : ∃ k : Nat, n = k := ⟨n.toNat, by omega⟩
      have hk : k < n2 := by omega
      have hkn : k < g.nodes.length := by have := HG.out.e2; omega
      obtain ⟨z, h, h1, hz1, hh1, hh2, h3⟩ := right_aft HT.out hkn
      have hle := (aft_cover h3).1
      have hzb : k + z ≤ n2 := by have := HG.out.e2; omega
      have HS := Lib.hid (And.intro (size_in HT.out hkn h1) h3)
      clear h1 h3 hle hkn hn
      have q0 : decide ((k : Int) < 0) = false := by simp
      have q1 : decide ((n2 : Int) ≤ (k : Int)) = false := by simp; omega
      have q1' : decide (n2 ≤ k) = false := by simp; omega
      go_wp2_with fail
      refine (after_any _ n1 c1 a2 n2 c2 g hn2 16 k _ (HG.out.keep HB2.out.ch.kp) (by decide) (by omega)).mono ?_
      rintro e w3 ⟨rfl, hc⟩
      have HB3 := Lib.hid (HB2.out.keep hc)
      clear hc
      rw [HS.out.2]
      simp only [aftI]
      go_wp2
      go_ret
      exact ⟨ret_int (by rw [HS.out.1.1]; omega), HB3.out.ch⟩
    · have HS := Lib.hid (size_out (g := g) (n := n) (by rw [← HG.out.e2]; exact hn))
      have hcs : decide (n < 0) = true ∨ (decide (n < 0) = false ∧ decide ((n2 : Int) ≤ n) = true) := by simp; omega
      clear hn
      rcases hcs with q | ⟨q, q2⟩
      all_goals
        go_wp2
        go_ret
        exact ⟨ret_int HS.out.1.symm, HB2.out.ch⟩

set_option maxRecDepth 100000 in
set_option maxHeartbeats 2000000 in
theorem refHeight_any (w : World) (a1 : Option Addr) (n1 c1 : Nat) (a2 : Option Addr) (n2 c2 : Nat) (g : Gr) (n : Int) (hg : GramAt w a1 n1 c1 a2 n2 c2 g) (hn2 : n2 ≤ 17592186044416) :
    Calls Try.prog 90 #[.agg #[.slice a1 n1 c1, .slice a2 n2 c2], .int .i64 n] w fun e w' => e = .returned (.int .i64 (heightG g n)) ∧ Chg [] w w' := by
  have HG := Lib.hid hg
  clear hg
  go_enter Try.func90, Try.ntmps90
  go_wp2_with fail
  have HB := Lib.hid (GrBox.new w a1 n1 c1 a2 n2 c2)
  refine (refRight_any _ a1 n1 c1 a2 n2 c2 g (HG.out.keep HB.out.ch.kp)).mono ?_
  rintro e w2 ⟨rfl, hc⟩
  have HB2 := Lib.hid (HB.out.keep hc)
  clear hc
  obtain ⟨x0, x1⟩ := cells2 HB2.out.box
  have hl := lt_of_block HB2.out.box
  cases hr : rightB g with
  | false =>
    have HS := Lib.hid (size_none (size_zero_none hr) n)
    clear hr
    go_wp2
    go_ret
    exact ⟨ret_int HS.out.2.symm, HB2.out.ch⟩
  | true =>
    obtain ⟨t, ht, _, _⟩ := right_tab hr
    have HT := Lib.hid ht
    clear ht hr
    by_cases hn : 0 ≤ n ∧ n < (n2 : Int)
    · obtain ⟨k, rfl⟩ : ∃ k : Nat, n = k := ⟨n.toNat, by omega⟩
      have hk : k < n2 := by omega
      have hkn : k < g.nodes.length := by have := HG.out.e2; omega
      obtain ⟨z, h, h1, hz1, hh1, hh2, h3⟩ := right_aft HT.out hkn
      have HS := Lib.hid (And.intro (size_in HT.out hkn h1) h3)
      clear h1 h3 hkn hn
      have q0 : decide ((k : Int) < 0) = false := by simp
      have q1 : decide ((n2 : Int) ≤ (k : Int)) = false := by simp; omega
      have q1' : decide (n2 ≤ k) = false := by simp; omega
      go_wp2_with fail
      refine (after_any _ n1 c1 a2 n2 c2 g hn2 16 k _ (HG.out.keep HB2.out.ch.kp) (by decide) (by omega)).mono ?_
      rintro e w3 ⟨rfl, hc⟩
      have HB3 := Lib.hid (HB2.out.keep hc)
      clear hc
      rw [HS.out.2]
      simp only [aftI]
      go_wp2
      go_ret
      exact ⟨ret_int HS.out.1.2.symm, HB3.out.ch⟩
    · have HS := Lib.hid (size_out (g := g) (n := n) (by rw [← HG.out.e2]; exact hn))
      have hcs : decide (n < 0) = true ∨ (decide (n < 0) = false ∧ decide ((n2 : Int) ≤ n) = true) := by simp; omega
      clear hn
      rcases hcs with q | ⟨q, q2⟩
      all_goals
        go_wp2
        go_ret
        exact ⟨ret_int HS.out.2.symm, HB2.out.ch⟩

set_option maxRecDepth 100000 in
set_option maxHeartbeats 2000000 in
theorem refOwner_any (w : World) (a1 : Option Addr) (n1 c1 : Nat) (a2 : Option Addr) (n2 c2 : Nat) (g : Gr) (n : Int) (hg : GramAt w a1 n1 c1 a2 n2 c2 g) (hn2 : n2 ≤ 17592186044416) :
    Calls Try.prog 91 #[.agg #[.slice a1 n1 c1, .slice a2 n2 c2], .int .i64 n] w fun e w' => e = .returned (.int .i64 (ownerG g n)) ∧ Chg [] w w' := by
  have hs1 := hg.small.1
  have HG := Lib.hid hg
  clear hg
  go_enter Try.func91, Try.ntmps91
  go_wp2_with fail
  have HB := Lib.hid (GrBox.new w a1 n1 c1 a2 n2 c2)
  refine (refRight_any _ a1 n1 c1 a2 n2 c2 g (HG.out.keep HB.out.ch.kp)).mono ?_
  rintro e w2 ⟨rfl, hc⟩
  have HB2 := Lib.hid (HB.out.keep hc)
  clear hc
  obtain ⟨x0, x1⟩ := cells2 HB2.out.box
  have hl := lt_of_block HB2.out.box
  cases hr : rightB g with
  | false =>
    have HS : Hid (ownerG g n = -1) := Lib.hid (by unfold ownerG; rw [if_pos (size_none (size_zero_none hr) n).1])
    clear hr
    go_wp2
    go_ret
    exact ⟨ret_int HS.out.symm, HB2.out.ch⟩
  | true =>
    obtain ⟨t, ht, _, _⟩ := right_tab hr
    have hr1 := (right_sizes hr).1
    have HT := Lib.hid (And.intro ht hr1)
    clear ht hr hr1
    by_cases hn : 0 ≤ n ∧ n < (n2 : Int)
    · obtain ⟨k, rfl⟩ : ∃ k : Nat, n = k := ⟨n.toNat, by omega⟩
      have hk : k < n2 := by omega
      have hkn : k < g.nodes.length := by have := HG.out.e2; omega
      obtain ⟨z, h, h1, hz1, _⟩ := right_aft HT.out.1 hkn
      have hlen0 : 0 < g.rules.length := by have := HT.out.2; omega
      have hN0 : 0 < ownerN g.rules (k : Int) := by
        refine (body_le_iff (whole_chain HT.out.1) (k : Int) hlen0).1 ?_
        have h2 := whole_chain HT.out.1
        have h3 := (chain_next (k := 0) (x := 0) hlen0 (by simpa using h2)).2.1
        rw [h3]; omega
      have hown : ownerG g (k : Int) = (ownerN g.rules (k : Int) : Int) - 1 := by
        unfold ownerG
        rw [(size_in HT.out.1 hkn h1).1, if_neg (by omega)]
      obtain ⟨N, hN⟩ : ∃ N, N = ownerN g.rules (k : Int) := ⟨_, rfl⟩
      rw [← hN] at hown hN0
      have HS := Lib.hid (And.intro hown hN)
      clear h1 hkn hn hown hN
      have q0 : decide ((k : Int) < 0) = false := by simp
      have q1 : decide ((n2 : Int) ≤ (k : Int)) = false := by simp; omega
      have q1' : decide (n2 ≤ k) = false := by simp; omega
      go_wp2_with fail
      go_loopg [6, 5] n1 (fun d iv ov wr => ∃ i : Nat, d = n1 - i ∧ i ≤ n1 ∧ iv = .int .i64 i ∧ ov = .int .i64 ((min i N - 1 : Nat) : Int) ∧ Hid (GrBox w w.heap.size a1 n1 c1 a2 n2 c2 wr))
      case atStart => exact ⟨0, rfl, Nat.zero_le _, rfl, by simp, HB2⟩
      case round =>
        obtain ⟨i, rfl, hi, rfl, rfl, HI⟩ := hrel
        clear x0 x1 hl
        obtain ⟨x0, x1⟩ := cells2 HI.out.box
        have hl := lt_of_block HI.out.box
        by_cases hlt : i < n1
        · have hil : i < g.rules.length := by have := HG.out.e1; omega
          obtain ⟨b, o, rfl, r0, r1⟩ := (HG.out.rules.keep HI.out.ch.kp) i hil
          have hbr := World.block_lt_of_cell? _ _ r1
          simp only at hbr
          have hiff := body_le_iff (whole_chain HT.out.1) (k : Int) hil
          rw [← HS.out.2] at hiff
          obtain ⟨bd, hbd⟩ : ∃ bd, bd = g.rules[i].body := ⟨_, rfl⟩
          rw [← hbd] at r1 hiff
          clear hbd r0
          by_cases hle : i < N
          · have hb := hiff.2 hle
            clear hiff
            go_wp2_with fail
            go_roundg (n1 - (i + 1))
            case measure => omega
            case rel => exact ⟨i + 1, rfl, by omega, by go_num, by congr 1; omega, HI⟩
          · have hb : ¬ bd ≤ (k : Int) := fun h => hle (hiff.1 h)
            clear hiff
            go_wp2_with fail
            go_roundg (n1 - (i + 1))
            case measure => omega
            case rel => exact ⟨i + 1, rfl, by omega, by go_num, by congr 1; omega, HI⟩
        · obtain rfl : i = n1 := by omega
          have hNl : N ≤ i := by have := owner_len g.rules (k : Int); have := HS.out.2; have := HG.out.e1; omega
          go_wp2
          go_ret
          exact ⟨ret_int (by rw [HS.out.1]; omega), HI.out.ch⟩
    · have HS : Hid (ownerG g n = -1) := Lib.hid (by unfold ownerG; rw [if_pos (size_out (g := g) (n := n) (by rw [← HG.out.e2]; exact hn)).1])
      have hcs : decide (n < 0) = true ∨ (decide (n < 0) = false ∧ decide ((n2 : Int) ≤ n) = true) := by simp; omega
      clear hn
      rcases hcs with q | ⟨q, q2⟩
      all_goals
        go_wp2
        go_ret
        exact ⟨ret_int HS.out.symm, HB2.out.ch⟩
end Go.Proofs.Ytibgfgfmljhimaa

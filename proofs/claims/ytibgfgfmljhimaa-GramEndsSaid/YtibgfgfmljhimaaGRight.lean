/-
  Right, Size, Height, Owner: the walks.
  Conditions: the grammar reads as data (GramAt); the numbers are int64s.
-/
import Derived.Test.YtibgfgfmljhimaaGWhole
set_option linter.unusedVariables false
set_option linter.unusedSimpArgs false
namespace Go.Proofs.Ytibgfgfmljhimaa
open Go.RowKit Go.MapKept Go.Shelf

set_option maxRecDepth 100000 in
set_option maxHeartbeats 1000000 in
theorem Right_any (w : World) (a1 : Option Addr) (n1 c1 : Nat) (a2 : Option Addr) (n2 c2 : Nat) (g : Gr) (hg : GramAt w a1 n1 c1 a2 n2 c2 g) :
    Calls Try.prog 25 #[.agg #[.slice a1 n1 c1, .slice a2 n2 c2]] w fun e w' => e = .returned (.bool (rightB g)) ∧ Chg [] w w' := by
  have HG := Lib.hid hg
  clear hg
  go_enter Try.func25, Try.ntmps25
  go_wp2_with fail
  refine (whole_any _ a1 n1 c1 a2 n2 c2 g (HG.out.keep ((Chg.refl [] _).alloc _).kp)).mono ?_
  rintro e w2 ⟨s1, m1, d1, s2, m2, d2, rfl, hc2, ht⟩
  have H2 := Lib.hid hc2
  clear hc2 ht
  go_wp2
  go_ret
  exact ⟨ret_bool (rightB_iff g).symm, (((Chg.refl _ _).alloc _).tr H2.out).alloc _⟩

theorem size_none {g : Gr} (h : wholeT g = none) (n : Int) : sizeG g n = 0 ∧ heightG g n = 0 := by unfold sizeG heightG; rw [h]; simp
theorem size_out {g : Gr} {n : Int} (h : ¬ (0 ≤ n ∧ n < g.nodes.length)) : sizeG g n = 0 ∧ heightG g n = 0 := by
  unfold sizeG heightG
  cases wholeT g with
  | none => simp
  | some t => simp only [if_neg h]; simp
theorem size_in {g : Gr} {t : List (Nat × Nat)} {n z h : Nat} (ht : wholeT g = some t) (hn : n < g.nodes.length) (hz : t[n]? = some (z, h)) : sizeG g n = z ∧ heightG g n = h := by
  unfold sizeG heightG
  rw [ht]
  simp only []
  rw [if_pos ⟨by omega, by omega⟩, if_pos ⟨by omega, by omega⟩]
  simp [hz]

set_option maxRecDepth 100000 in
set_option maxHeartbeats 2000000 in
theorem Size_any (w : World) (a1 : Option Addr) (n1 c1 : Nat) (a2 : Option Addr) (n2 c2 : Nat) (g : Gr) (n : Int) (hg : GramAt w a1 n1 c1 a2 n2 c2 g) :
    Calls Try.prog 32 #[.agg #[.slice a1 n1 c1, .slice a2 n2 c2], .int .i64 n] w fun e w' => e = .returned (.int .i64 (sizeG g n)) ∧ Chg [] w w' := by
  have hs2 := hg.small.2
  have HG := Lib.hid hg
  clear hg
  go_enter Try.func32, Try.ntmps32
  go_wp2_with fail
  have hB := heap_alloc_same w (.cells #[.slice a1 n1 c1, .slice a2 n2 c2] 25)
  refine (whole_any _ a1 n1 c1 a2 n2 c2 g (HG.out.keep ((Chg.refl [] _).alloc _).kp)).mono ?_
  rintro e w2 ⟨s1, m1, d1, s2, m2, d2, rfl, hc2, ht⟩
  have hB2 := hc2.heap hB (by simp)
  obtain ⟨x0, x1⟩ := cells2 hB2
  have hBl := lt_of_block hB2
  have H2 := Lib.hid (And.intro (((Chg.refl [] w).alloc _).tr hc2) ht)
  clear hc2 ht hB hB2
  cases hw : wholeT g with
  | none =>
    have HS := Lib.hid (size_none hw n)
    clear hw
    go_wp2
    go_ret
    exact ⟨ret_int HS.out.1.symm, H2.out.1.alloc _⟩
  | some t =>
    have HW := Lib.hid hw
    clear hw
    by_cases hn : 0 ≤ n ∧ n < (n2 : Int)
    · obtain ⟨k, rfl⟩ : ∃ k : Nat, n = k := ⟨n.toNat, by omega⟩
      have hk : k < n2 := by omega
      have hkn : k < g.nodes.length := by have := HG.out.e2; omega
      obtain ⟨z, h, h1, _⟩ := right_aft HW.out hkn
      obtain ⟨e1, e2, i1, i2⟩ := H2.out.2 t HW.out
      have hkt : k < t.length := (List.getElem?_eq_some_iff.1 h1).1
      have hget : t[k] = (z, h) := (List.getElem?_eq_some_iff.1 h1).2
      obtain ⟨b1, o1, rfl, j1⟩ := i1 k (by simpa using hkt)
      simp only [List.getElem_map, hget] at j1
      have hb1 := World.block_lt_of_cell? _ _ j1
      simp only at hb1
      have hm1 : k < m1 := by omega
      have HS := Lib.hid (size_in HW.out hkn h1)
      clear h1 e1 e2 i1 i2 hget hkt hkn hn
      have hk0 : (0 : Int) ≤ (k : Int) := by omega
      go_wp2
      go_ret
      exact ⟨ret_int HS.out.1.symm, H2.out.1.alloc _⟩
    · have HS := Lib.hid (size_out (g := g) (n := n) (by rw [← HG.out.e2]; exact hn))
      have hcs : decide (n < 0) = true ∨ (decide (n < 0) = false ∧ decide ((n2 : Int) ≤ n) = true) := by simp; omega
      clear hn
      rcases hcs with q | ⟨q, q2⟩
      all_goals
        go_wp2
        go_ret
        exact ⟨ret_int HS.out.1.symm, H2.out.1.alloc _⟩

set_option maxRecDepth 100000 in
set_option maxHeartbeats 2000000 in
theorem Height_any (w : World) (a1 : Option Addr) (n1 c1 : Nat) (a2 : Option Addr) (n2 c2 : Nat) (g : Gr) (n : Int) (hg : GramAt w a1 n1 c1 a2 n2 c2 g) :
    Calls Try.prog 33 #[.agg #[.slice a1 n1 c1, .slice a2 n2 c2], .int .i64 n] w fun e w' => e = .returned (.int .i64 (heightG g n)) ∧ Chg [] w w' := by
  have hs2 := hg.small.2
  have HG := Lib.hid hg
  clear hg
  go_enter Try.func33, Try.ntmps33
  go_wp2_with fail
  have hB := heap_alloc_same w (.cells #[.slice a1 n1 c1, .slice a2 n2 c2] 25)
  refine (whole_any _ a1 n1 c1 a2 n2 c2 g (HG.out.keep ((Chg.refl [] _).alloc _).kp)).mono ?_
  rintro e w2 ⟨s1, m1, d1, s2, m2, d2, rfl, hc2, ht⟩
  have hB2 := hc2.heap hB (by simp)
  obtain ⟨x0, x1⟩ := cells2 hB2
  have hBl := lt_of_block hB2
  have H2 := Lib.hid (And.intro (((Chg.refl [] w).alloc _).tr hc2) ht)
  clear hc2 ht hB hB2
  cases hw : wholeT g with
  | none =>
    have HS := Lib.hid (size_none hw n)
    clear hw
    go_wp2
    go_ret
    exact ⟨ret_int HS.out.2.symm, H2.out.1.alloc _⟩
  | some t =>
    have HW := Lib.hid hw
    clear hw
    by_cases hn : 0 ≤ n ∧ n < (n2 : Int)
    · obtain ⟨k, rfl⟩ : ∃ k : Nat, n = k := ⟨n.toNat, by omega⟩
      have hk : k < n2 := by omega
      have hkn : k < g.nodes.length := by have := HG.out.e2; omega
      obtain ⟨z, h, h1, _⟩ := right_aft HW.out hkn
      obtain ⟨e1, e2, i1, i2⟩ := H2.out.2 t HW.out
      have hkt : k < t.length := (List.getElem?_eq_some_iff.1 h1).1
      have hget : t[k] = (z, h) := (List.getElem?_eq_some_iff.1 h1).2
      obtain ⟨b1, o1, rfl, j1⟩ := i2 k (by simpa using hkt)
      simp only [List.getElem_map, hget] at j1
      have hb1 := World.block_lt_of_cell? _ _ j1
      simp only at hb1
      have hm1 : k < m2 := by omega
      have HS := Lib.hid (size_in HW.out hkn h1)
      clear h1 e1 e2 i1 i2 hget hkt hkn hn
      have hk0 : (0 : Int) ≤ (k : Int) := by omega
      go_wp2
      go_ret
      exact ⟨ret_int HS.out.2.symm, H2.out.1.alloc _⟩
    · have HS := Lib.hid (size_out (g := g) (n := n) (by rw [← HG.out.e2]; exact hn))
      have hcs : decide (n < 0) = true ∨ (decide (n < 0) = false ∧ decide ((n2 : Int) ≤ n) = true) := by simp; omega
      clear hn
      rcases hcs with q | ⟨q, q2⟩
      all_goals
        go_wp2
        go_ret
        exact ⟨ret_int HS.out.2.symm, H2.out.1.alloc _⟩

theorem owner_idx (rs : List Rl) (n : Int) : idxI rs (fun r => decide (n < r.body)) = if ownerN rs n < rs.length then (ownerN rs n : Int) else -1 := rfl
theorem owner_len (rs : List Rl) (n : Int) : ownerN rs n ≤ rs.length := List.findIdx_le_length

set_option maxRecDepth 100000 in
set_option maxHeartbeats 2000000 in
theorem Owner_any (w : World) (a1 : Option Addr) (n1 c1 : Nat) (a2 : Option Addr) (n2 c2 : Nat) (g : Gr) (n : Int) (hg : GramAt w a1 n1 c1 a2 n2 c2 g) :
    Calls Try.prog 34 #[.agg #[.slice a1 n1 c1, .slice a2 n2 c2], .int .i64 n] w fun e w' => e = .returned (.int .i64 (ownerG g n)) ∧ Chg [] w w' := by
  have hs1 := hg.small.1
  have HG := Lib.hid hg
  clear hg
  go_enter Try.func34, Try.ntmps34
  go_wp2_with fail
  have hB := heap_alloc_lt (heap_alloc_same w (.cells #[.slice a1 n1 c1, .slice a2 n2 c2] 25)) (.cells #[.int .i64 n] 3)
  have hN := heap_alloc_same (w.alloc (.cells #[.slice a1 n1 c1, .slice a2 n2 c2] 25)) (.cells #[.int .i64 n] 3)
  rw [World.size_alloc] at hN
  refine (Size_any _ a1 n1 c1 a2 n2 c2 g n (HG.out.keep (((Chg.refl [] _).alloc _).alloc _).kp)).mono ?_
  rintro e w2 ⟨rfl, hc2⟩
  have hB2 := hc2.heap hB (by simp)
  have hN2 := hc2.heap hN (by simp)
  obtain ⟨x0, x1⟩ := cells2 hB2
  have y0 := cells1 hN2
  have hBl := lt_of_block hB2
  have hNl := lt_of_block hN2
  have H2 := Lib.hid ((((Chg.refl [] w).alloc _).alloc _).tr hc2)
  clear hc2 hB hN hB2 hN2
  by_cases hz : sizeG g n = 0
  · have HS : Hid (ownerG g n = -1) := Lib.hid (by unfold ownerG; rw [if_pos hz])
    rw [hz]
    clear hz
    go_wp2
    go_ret
    exact ⟨ret_int HS.out.symm, H2.out⟩
  · have HS : Hid (ownerG g n = (ownerN g.rules n : Int) - 1) := Lib.hid (by unfold ownerG; rw [if_neg hz])
    obtain ⟨z, hzz⟩ : ∃ z, z = sizeG g n := ⟨_, rfl⟩
    rw [← hzz] at hz ⊢
    have hz2 : (z == 0) = false := by simpa using hz
    clear hzz hz
    have hc := idxRules_any w2 a1 n1 c1 g.rules 93 #[.pointer (some ⟨w.heap.size + 1, 0, none⟩)] (fun r => decide (n < r.body)) HG.out.e1 hs1 (HG.out.rules.keep H2.out.kp) (fun i hi w1 h1 => owner1_any w1 _ _ _ n (h1.cell y0 (by simp))) (enters_of Try.func93 (by kernel_rfl) rfl)
    rw [owner_idx] at hc
    have hol := owner_len g.rules n
    rw [← HG.out.e1] at hc hol
    obtain ⟨j, hj⟩ : ∃ j, j = ownerN g.rules n := ⟨_, rfl⟩
    rw [← hj] at hc hol HS
    by_cases hlt : j < n1
    · rw [if_pos hlt] at hc
      have HC := Lib.hid (And.intro hc hj)
      clear hc hj
      go_wp2_with fail
      refine HC.out.1.mono ?_
      rintro e w3 ⟨rfl, hc3⟩
      have H3 := Lib.hid hc3
      clear hc3
      go_wp2
      go_ret
      exact ⟨ret_int HS.out.symm, H2.out.tr H3.out⟩
    · rw [if_neg hlt] at hc
      obtain rfl : n1 = j := by omega
      have HC := Lib.hid (And.intro hc hj)
      clear hc hj
      go_wp2_with fail
      refine HC.out.1.mono ?_
      rintro e w3 ⟨rfl, hc3⟩
      have x0' := hc3.cell x0 (by simp)
      have H3 := Lib.hid hc3
      clear hc3
      go_wp2
      go_ret
      exact ⟨ret_int HS.out.symm, H2.out.tr H3.out⟩
end Go.Proofs.Ytibgfgfmljhimaa

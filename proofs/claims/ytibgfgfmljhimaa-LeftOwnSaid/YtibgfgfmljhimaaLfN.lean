/-
  left.Nodes, left.Calls: what is told of a node of any grammar.
  Conditions: the grammar reads as data, within the reach.
-/
import Derived.Test.YtibgfgfmljhimaaLf4
import Derived.Test.YtibgfgfmljhimaaGCol
set_option linter.unusedVariables false
set_option linter.unusedSimpArgs false
set_option linter.unnecessarySimpa false
namespace Go.Proofs.Ytibgfgfmljhimaa
open Go.RowKit Go.MapKept Go.Shelf

theorem ownG_len {g : Gr} (hr : rightB g = true) {n : Nat} (hn : n < g.nodes.length) : (ownG g n).length ≤ g.nodes.length := by
  have h := ownN_pick (right_tree hr) (mayG g) hn
  rw [ownG, h]
  exact pickL_le _ _

set_option maxRecDepth 100000 in
set_option maxHeartbeats 4000000 in
theorem nodesLeft_any (w : World) (B R : Nat) (a1 : Option Addr) (n1 c1 : Nat) (a2 : Option Addr) (n2 c2 : Nat) (g : Gr) (hw : LWork w B R a1 n1 c1 a2 n2 c2 g) (n : Nat) (hn : n < g.nodes.length) :
    Calls Try.prog 119 #[.pointer (some ⟨B, 0, none⟩), .int .i64 n] w (ClonedInts w (ownG g n)) := by
  have hlen : (ownG g n).length ≤ 100000 := by have := ownG_len hw.right hn; have := (right_sizes hw.right).2.2; omega
  have H := Lib.hid (And.intro hw (And.intro hn hlen))
  clear hw hn hlen
  go_enter Try.func119, Try.ntmps119
  go_wp2_with fail
  refine (ownLeft_any _ _ _).mono ?_
  rintro e w4 ⟨rfl, rfl⟩
  obtain ⟨w4, e4⟩ : ∃ w4, w4 = (w.alloc (.cells #[.pointer (some ⟨B, 0, none⟩)] 116)).alloc (.cells #[.int .i64 n] 3) := ⟨_, rfl⟩
  have hc4 : Chg [] w w4 := by rw [e4]; exact ((Chg.refl _ w).alloc _).alloc _
  have hb2 : w4.heap[w.heap.size]? = some (.cells #[.pointer (some ⟨B, 0, none⟩)] 116 (0, 0)) := by
    rw [e4]; exact heap_alloc_lt (heap_alloc_same _ _) _
  have hb3 : w4.heap[w.heap.size + 1]? = some (.cells #[.int .i64 n] 3 (0, 0)) := by
    rw [e4]
    have := heap_alloc_same (w.alloc (.cells #[.pointer (some ⟨B, 0, none⟩)] 116)) (.cells #[.int .i64 n] 3)
    simp only [World.size_alloc] at this
    exact this
  rw [← e4]
  have hgives := Own_gives w w4 B R a1 n1 c1 a2 n2 c2 g H.out.1 (.of_chg0 hc4) n H.out.2.1 w.heap.size (w.heap.size + 1) hb2 hb3
  have hcol := collect_gives w4 158 #[.pointer (some ⟨w.heap.size, 0, none⟩), .pointer (some ⟨w.heap.size + 1, 0, none⟩)] (enters_of Try.func158 (by kernel_rfl) rfl) (ownG g n) H.out.2.2 hgives (fun _ _ _ h => h) (fun _ _ _ => Stays.pure _)
    (fun B' pre x A A1 A2 C C' hB hc ht k1 ht2 => (((KeepL.of_chg0 hc).trans (.of_turn ht (by have := hc4.size; omega))).trans k1).trans (.of_turn ht2 (by have := hc4.size; omega)))
    (fun pre x S A A' hc hS => .of_chg hc (fun k hk => by
      obtain ⟨h1, cs, ty, m, h2, h3⟩ := hS k hk
      refine ⟨by have := hc4.size; omega, fun cs' h => ?_⟩
      rw [h2] at h
      cases h
      rcases h3 with h3 | h3 <;> cases h3))
  have HC := Lib.hid (And.intro hcol hc4)
  clear e4 hc4 hb2 hb3 hgives hcol
  go_wp2_with fail
  refine HC.out.1.mono ?_
  rintro e w5 ⟨al, cl, rfl, hf, hc5⟩
  have H5 := Lib.hid (And.intro (row_base hf HC.out.2.size) (HC.out.2.tr hc5))
  clear hf hc5
  go_wp2_with fail
  go_ret
  exact ⟨al, cl, rfl, H5.out.1, H5.out.2⟩

/-- What is told of a node. -/
def toldL (g : Gr) (A : Int → List Int) (n : Int) : List Int := if rightB g = true ∧ 0 ≤ n ∧ n < g.nodes.length then A n else []

set_option maxRecDepth 100000 in
set_option maxHeartbeats 4000000 in
theorem toldNodes_any (w : World) (a1 : Option Addr) (n1 c1 : Nat) (a2 : Option Addr) (n2 c2 : Nat) (g : Gr) (hg : GramAt w a1 n1 c1 a2 n2 c2 g) (hre : Reach g) (n : Int) :
    Calls Try.prog 118 #[.agg #[.slice a1 n1 c1, .slice a2 n2 c2], .int .i64 n, .func (.func 119) #[] #[]] w (ClonedInts w (toldL g (ownG g) n)) := by
  obtain ⟨A, hA⟩ : ∃ A, A = toldL g (ownG g) n := ⟨_, rfl⟩
  rw [← hA]
  have H := Lib.hid (And.intro hg (And.intro hre (And.intro hg.e2 hA)))
  clear hg hre hA
  go_enter Try.func118, Try.ntmps118
  obtain ⟨x0, x1⟩ := cells2 (heap_alloc_same w (.cells #[.slice a1 n1 c1, .slice a2 n2 c2] 25))
  go_wp2_with fail
  refine (ofLeft_any _ a1 n1 c1 a2 n2 c2 g (H.out.1.keep ((Chg.refl [] w).alloc _).kp) H.out.2.1).mono ?_
  rintro e w2 ⟨hc2, hif⟩
  have hg2 := hc2.heap (heap_alloc_same w (.cells #[.slice a1 n1 c1, .slice a2 n2 c2] 25)) (by simp)
  have hcw := ((Chg.refl [] w).alloc _).tr0 hc2
  clear x0 x1 hc2
  obtain ⟨x0, x1⟩ := cells2 hg2
  cases hr : rightB g with
  | false =>
    rw [hr] at hif
    obtain rfl : e = _ := hif
    have HC := Lib.hid (And.intro hcw hr)
    clear hcw hr hg2
    go_wp2_with fail
    go_ret
    obtain rfl : A = [] := by rw [H.out.2.2.2, toldL, if_neg (fun h => by have h1 := h.1; rw [HC.out.2] at h1; cases h1)]
    exact ⟨none, 0, rfl, World.ownsRow_nil _ _ _ _, HC.out.1⟩
  | true =>
    rw [hr, if_pos rfl] at hif
    obtain ⟨B, R, hB, hR, rfl, hw⟩ := hif
    have hn2 : n2 ≤ 2048 := by have := (right_sizes hr).2.2; have := H.out.2.2.1; omega
    have HC := Lib.hid (And.intro hcw (And.intro hw (And.intro hr hB)))
    clear hcw hr hg2 hB hR hw
    by_cases h0 : n < 0
    · have hd0 : decide (n < 0) = true := by simpa using h0
      go_wp2_with fail
      go_ret
      obtain rfl : A = [] := by rw [H.out.2.2.2, toldL, if_neg (fun h => by omega)]
      exact ⟨none, 0, rfl, World.ownsRow_nil _ _ _ _, HC.out.1⟩
    · obtain ⟨q, rfl⟩ : ∃ q : Nat, n = q := ⟨n.toNat, by omega⟩
      have hd0 : decide ((q : Int) < 0) = false := by simpa using h0
      by_cases h1 : q < n2
      · go_wp2_with fail
        have hq : q < g.nodes.length := by have := H.out.2.2.1; omega
        have hAe : A = ownG g q := by rw [H.out.2.2.2, toldL, if_pos ⟨HC.out.2.2.1, by omega, by omega⟩]
        refine (nodesLeft_any w2 B R a1 n1 c1 a2 n2 c2 g HC.out.2.1 q hq).mono ?_
        rintro e w5 ⟨al, cl, rfl, hf, hc5⟩
        rw [← hAe] at hf ⊢
        have H5 := Lib.hid (And.intro (row_base hf HC.out.1.size) (HC.out.1.tr hc5))
        clear hf hc5 hq hAe x0 x1
        go_wp2_with fail
        go_ret
        exact ⟨al, cl, rfl, H5.out.1, H5.out.2⟩
      · go_wp2_with fail
        go_ret
        obtain rfl : A = [] := by rw [H.out.2.2.2, toldL, if_neg (fun h => by have := H.out.2.2.1; omega)]
        exact ⟨none, 0, rfl, World.ownsRow_nil _ _ _ _, HC.out.1⟩

set_option maxRecDepth 100000 in
theorem leftNodes_any (w : World) (a1 : Option Addr) (n1 c1 : Nat) (a2 : Option Addr) (n2 c2 : Nat) (g : Gr) (hg : GramAt w a1 n1 c1 a2 n2 c2 g) (hre : Reach g) (n : Int) :
    Calls Try.prog 67 #[.agg #[.slice a1 n1 c1, .slice a2 n2 c2], .int .i64 n] w (ClonedInts w (toldL g (ownG g) n)) := by
  obtain ⟨A, hA⟩ : ∃ A, A = toldL g (ownG g) n := ⟨_, rfl⟩
  have hp := toldNodes_any (w.alloc (.cells #[.slice a1 n1 c1, .slice a2 n2 c2] 25)) a1 n1 c1 a2 n2 c2 g (hg.keep ((Chg.refl [] w).alloc _).kp) hre n
  rw [← hA] at hp ⊢
  have H := Lib.hid hp
  clear hp hg hre hA
  go_enter Try.func67, Try.ntmps67
  obtain ⟨x0, x1⟩ := cells2 (heap_alloc_same w (.cells #[.slice a1 n1 c1, .slice a2 n2 c2] 25))
  go_wp2_with fail
  refine H.out.mono ?_
  rintro e w5 ⟨al, cl, rfl, hf, hc5⟩
  have hcw := ((Chg.refl [] w).alloc _).tr0 hc5
  have H5 := Lib.hid (And.intro (row_base hf ((Chg.refl [] w).alloc _).size) hcw)
  clear hf hc5 hcw x0 x1
  go_wp2_with fail
  go_ret
  exact ⟨al, cl, rfl, H5.out.1, H5.out.2⟩

set_option maxRecDepth 100000 in
set_option maxHeartbeats 4000000 in
theorem toldCalls_any (w : World) (a1 : Option Addr) (n1 c1 : Nat) (a2 : Option Addr) (n2 c2 : Nat) (g : Gr) (hg : GramAt w a1 n1 c1 a2 n2 c2 g) (hre : Reach g) (n : Int) :
    Calls Try.prog 118 #[.agg #[.slice a1 n1 c1, .slice a2 n2 c2], .int .i64 n, .func (.func 112) #[] #[]] w (ClonedInts w (toldL g (callsG g) n)) := by
  obtain ⟨A, hA⟩ : ∃ A, A = toldL g (callsG g) n := ⟨_, rfl⟩
  rw [← hA]
  have H := Lib.hid (And.intro hg (And.intro hre (And.intro hg.e2 hA)))
  clear hg hre hA
  go_enter Try.func118, Try.ntmps118
  obtain ⟨x0, x1⟩ := cells2 (heap_alloc_same w (.cells #[.slice a1 n1 c1, .slice a2 n2 c2] 25))
  go_wp2_with fail
  refine (ofLeft_any _ a1 n1 c1 a2 n2 c2 g (H.out.1.keep ((Chg.refl [] w).alloc _).kp) H.out.2.1).mono ?_
  rintro e w2 ⟨hc2, hif⟩
  have hg2 := hc2.heap (heap_alloc_same w (.cells #[.slice a1 n1 c1, .slice a2 n2 c2] 25)) (by simp)
  have hcw := ((Chg.refl [] w).alloc _).tr0 hc2
  clear x0 x1 hc2
  obtain ⟨x0, x1⟩ := cells2 hg2
  cases hr : rightB g with
  | false =>
    rw [hr] at hif
    obtain rfl : e = _ := hif
    have HC := Lib.hid (And.intro hcw hr)
    clear hcw hr hg2
    go_wp2_with fail
    go_ret
    obtain rfl : A = [] := by rw [H.out.2.2.2, toldL, if_neg (fun h => by have h1 := h.1; rw [HC.out.2] at h1; cases h1)]
    exact ⟨none, 0, rfl, World.ownsRow_nil _ _ _ _, HC.out.1⟩
  | true =>
    rw [hr, if_pos rfl] at hif
    obtain ⟨B, R, hB, hR, rfl, hw⟩ := hif
    have hn2 : n2 ≤ 2048 := by have := (right_sizes hr).2.2; have := H.out.2.2.1; omega
    have HC := Lib.hid (And.intro hcw (And.intro hw (And.intro hr hB)))
    clear hcw hr hg2 hB hR hw
    by_cases h0 : n < 0
    · have hd0 : decide (n < 0) = true := by simpa using h0
      go_wp2_with fail
      go_ret
      obtain rfl : A = [] := by rw [H.out.2.2.2, toldL, if_neg (fun h => by omega)]
      exact ⟨none, 0, rfl, World.ownsRow_nil _ _ _ _, HC.out.1⟩
    · obtain ⟨q, rfl⟩ : ∃ q : Nat, n = q := ⟨n.toNat, by omega⟩
      have hd0 : decide ((q : Int) < 0) = false := by simpa using h0
      by_cases h1 : q < n2
      · go_wp2_with fail
        have hq : q < g.nodes.length := by have := H.out.2.2.1; omega
        have hAe : A = callsG g q := by rw [H.out.2.2.2, toldL, if_pos ⟨HC.out.2.2.1, by omega, by omega⟩]
        refine (calls_any w2 B R a1 n1 c1 a2 n2 c2 g HC.out.2.1 q hq).mono ?_
        rintro e w5 ⟨al, cl, rfl, hf, hc5⟩
        rw [← hAe] at hf ⊢
        have H5 := Lib.hid (And.intro (row_base hf HC.out.1.size) (HC.out.1.tr hc5))
        clear hf hc5 hq hAe x0 x1
        go_wp2_with fail
        go_ret
        exact ⟨al, cl, rfl, H5.out.1, H5.out.2⟩
      · go_wp2_with fail
        go_ret
        obtain rfl : A = [] := by rw [H.out.2.2.2, toldL, if_neg (fun h => by have := H.out.2.2.1; omega)]
        exact ⟨none, 0, rfl, World.ownsRow_nil _ _ _ _, HC.out.1⟩

set_option maxRecDepth 100000 in
theorem leftCalls_any (w : World) (a1 : Option Addr) (n1 c1 : Nat) (a2 : Option Addr) (n2 c2 : Nat) (g : Gr) (hg : GramAt w a1 n1 c1 a2 n2 c2 g) (hre : Reach g) (n : Int) :
    Calls Try.prog 68 #[.agg #[.slice a1 n1 c1, .slice a2 n2 c2], .int .i64 n] w (ClonedInts w (toldL g (callsG g) n)) := by
  obtain ⟨A, hA⟩ : ∃ A, A = toldL g (callsG g) n := ⟨_, rfl⟩
  have hp := toldCalls_any (w.alloc (.cells #[.slice a1 n1 c1, .slice a2 n2 c2] 25)) a1 n1 c1 a2 n2 c2 g (hg.keep ((Chg.refl [] w).alloc _).kp) hre n
  rw [← hA] at hp ⊢
  have H := Lib.hid hp
  clear hp hg hre hA
  go_enter Try.func68, Try.ntmps68
  obtain ⟨x0, x1⟩ := cells2 (heap_alloc_same w (.cells #[.slice a1 n1 c1, .slice a2 n2 c2] 25))
  go_wp2_with fail
  refine H.out.mono ?_
  rintro e w5 ⟨al, cl, rfl, hf, hc5⟩
  have hcw := ((Chg.refl [] w).alloc _).tr0 hc5
  have H5 := Lib.hid (And.intro (row_base hf ((Chg.refl [] w).alloc _).size) hcw)
  clear hf hc5 hcw x0 x1
  go_wp2_with fail
  go_ret
  exact ⟨al, cl, rfl, H5.out.1, H5.out.2⟩
end Go.Proofs.Ytibgfgfmljhimaa

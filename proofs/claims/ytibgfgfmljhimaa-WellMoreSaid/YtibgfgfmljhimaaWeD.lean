/-
  Package well: all idle nodes, the first, whether a node is, whether a grammar is well.
  Conditions: the grammar reads as data, within the reach.
-/
import Derived.Test.YtibgfgfmljhimaaWeC
import Derived.Test.YtibgfgfmljhimaaGCol
set_option linter.unusedVariables false
set_option linter.unusedSimpArgs false
set_option linter.unnecessarySimpa false
namespace Go.Proofs.Ytibgfgfmljhimaa
open Go.RowKit Go.MapKept Go.Shelf

/-- What lay below n₀ lies as it lay, but S. -/
structure KeepF (S : List Nat) (n₀ : Nat) (A B : World) : Prop where
  size : A.heap.size ≤ B.heap.size
  old : ∀ k o, k < n₀ → k ∉ S → A.heap[k]? = some o → B.heap[k]? = some o
theorem KeepF.refl (S : List Nat) (n₀ : Nat) (A : World) : KeepF S n₀ A A := ⟨Nat.le_refl _, fun _ _ _ _ h => h⟩
theorem KeepF.trans {S : List Nat} {n₀ : Nat} {A B C : World} (h : KeepF S n₀ A B) (k : KeepF S n₀ B C) : KeepF S n₀ A C := ⟨Nat.le_trans h.size k.size, fun j o hj hS ho => k.old j o hj hS (h.old j o hj hS ho)⟩
theorem KeepF.of_chg {S T : List Nat} {n₀ : Nat} {A B : World} (h : Chg T A B) (hT : ∀ k ∈ T, n₀ ≤ k ∨ k ∈ S) : KeepF S n₀ A B :=
  ⟨h.size, fun k o hk hS ho => h.heap ho (fun hm => by rcases hT k hm with h | h; omega; exact hS h)⟩
theorem KeepF.of_chg0 {S : List Nat} {n₀ : Nat} {A B : World} (h : Chg [] A B) : KeepF S n₀ A B := .of_chg h (by simp)
theorem KeepF.of_turn {S : List Nat} {n₀ B' : Nat} {A B : World} (h : Turn B' A B) (hn : n₀ ≤ B') : KeepF S n₀ A B := by
  obtain ⟨l, hl, hc⟩ := h.chg
  exact .of_chg hc (fun k hk => .inl (by simp at hk; omega))
theorem KeepF.row {S : List Nat} {n₀ B e size n : Nat} {W W' : World} {v : Value} {xs : List Value} (h : KeepF S n₀ W W') (hr : W.ownsRow B e size v n xs) (hn : ∀ k, v.ownBlock = some k → k < n₀ ∧ k ∉ S) : W'.ownsRow B e size v n xs := by
  refine ⟨hr.1, ?_⟩
  rcases hr.2 with h1 | ⟨g, cap, cur, rfl, hb, hg, rest⟩
  · exact .inl h1
  · exact .inr ⟨g, cap, cur, rfl, hb, h.old _ _ (hn g rfl).1 (hn g rfl).2 hg, rest⟩
/-- What the first part is kept in whole keeps its cells. -/
theorem KeepF.kp {S : List Nat} {n₀ : Nat} {w A B : World} (h : KeepF S n₀ A B) (hw : Chg [] w A) (hn : w.heap.size ≤ n₀) (hS : ∀ k ∈ S, w.heap.size ≤ k) : Kp w B := by
  refine ⟨Nat.le_trans hw.size h.size, fun p v hc => ?_⟩
  obtain ⟨o, ho, _⟩ := cells_of_cell hc
  have hlt := World.block_lt_of_cell? _ _ hc
  exact (World.cell?_of_block ((h.old _ _ (by omega) (fun hm => by have := hS _ hm; omega) (hw.heap ho (by simp))).trans ho.symm)).trans hc

/-- What a grammar at work is: itself, or nothing. -/
def OfIs (a1 : Option Addr) (n1 c1 : Nat) (a2 : Option Addr) (n2 c2 : Nat) (g : Gr) (A1 : Option Addr) (N1 C1 : Nat) (A2 : Option Addr) (N2 C2 : Nat) (g' : Gr) (zs : List Int) : Prop :=
  (rightB g = true ∧ A1 = a1 ∧ N1 = n1 ∧ C1 = c1 ∧ A2 = a2 ∧ N2 = n2 ∧ C2 = c2 ∧ g' = g ∧ zs = nodesN g) ∨ (rightB g = false ∧ A1 = none ∧ N1 = 0 ∧ C1 = 0 ∧ A2 = none ∧ N2 = 0 ∧ C2 = 0 ∧ g' = ⟨[], []⟩ ∧ zs = [])
theorem ofWell2_any (w : World) (a1 : Option Addr) (n1 c1 : Nat) (a2 : Option Addr) (n2 c2 : Nat) (g : Gr) (hg : GramAt w a1 n1 c1 a2 n2 c2 g) (hre : Reach g) :
    Calls Try.prog 122 #[.agg #[.slice a1 n1 c1, .slice a2 n2 c2]] w fun e w' => ∃ A1 N1 C1 A2 N2 C2 A3 C3 g' zs, e = .returned (workV A1 N1 C1 A2 N2 C2 A3 zs.length C3) ∧ OfIs a1 n1 c1 a2 n2 c2 g A1 N1 C1 A2 N2 C2 g' zs ∧ FreshInts w.heap.size w' A3 C3 zs ∧ Chg [] w w' := by
  refine (ofWell_any w a1 n1 c1 a2 n2 c2 g hg hre).mono ?_
  rintro e w' ⟨hc, hif⟩
  split at hif
  · rename_i hr
    obtain ⟨a3, c3, rfl, hf⟩ := hif
    exact ⟨_, _, _, _, _, _, _, _, _, _, rfl, .inl ⟨hr, rfl, rfl, rfl, rfl, rfl, rfl, rfl, rfl⟩, hf, hc⟩
  · rename_i hr
    subst hif
    exact ⟨_, _, _, _, _, _, _, _, _, [], rfl, .inr ⟨by simpa using hr, rfl, rfl, rfl, rfl, rfl, rfl, rfl, rfl⟩, World.ownsRow_nil _ _ _ _, hc⟩
theorem nodesN_few {g : Gr} : (nodesN g).length ≤ 2048 := by
  unfold nodesN
  split
  · rename_i hr
    exact Nat.le_trans (pickL_le _ _) (right_sizes hr).2.2
  · simp
theorem OfIs.few {a1 : Option Addr} {n1 c1 : Nat} {a2 : Option Addr} {n2 c2 : Nat} {g : Gr} {A1 : Option Addr} {N1 C1 : Nat} {A2 : Option Addr} {N2 C2 : Nat} {g' : Gr} {zs : List Int} (h : OfIs a1 n1 c1 a2 n2 c2 g A1 N1 C1 A2 N2 C2 g' zs) : zs.length ≤ 2048 := by
  rcases h with ⟨_, _, _, _, _, _, _, _, rfl⟩ | ⟨_, _, _, _, _, _, _, _, rfl⟩
  · exact nodesN_few
  · simp
theorem OfIs.list {a1 : Option Addr} {n1 c1 : Nat} {a2 : Option Addr} {n2 c2 : Nat} {g : Gr} {A1 : Option Addr} {N1 C1 : Nat} {A2 : Option Addr} {N2 C2 : Nat} {g' : Gr} {zs : List Int} (h : OfIs a1 n1 c1 a2 n2 c2 g A1 N1 C1 A2 N2 C2 g' zs) : pickL g'.nodes.length (testB g' zs) = idleL g := by
  rcases h with ⟨hr, _, _, _, _, _, _, rfl, rfl⟩ | ⟨hr, _, _, _, _, _, _, rfl, rfl⟩
  · exact (idle_tests hr).symm
  · rw [idleL, if_neg (by rw [hr]; simp)]; rfl
theorem OfIs.ready {a1 : Option Addr} {n1 c1 : Nat} {a2 : Option Addr} {n2 c2 : Nat} {g : Gr} {A1 : Option Addr} {N1 C1 : Nat} {A2 : Option Addr} {N2 C2 : Nat} {g' : Gr} {zs : List Int} (h : OfIs a1 n1 c1 a2 n2 c2 g A1 N1 C1 A2 N2 C2 g' zs)
    {W : World} {B B1 B2 BT : Nat} {A3 : Option Addr} {C3 : Nat} (hg : GramAt W a1 n1 c1 a2 n2 c2 g) (hf : FreshInts B W A3 C3 zs) (hb1 : W.heap[B1]? = some (.cells #[.slice A1 N1 C1, .slice A2 N2 C2, .slice A3 zs.length C3] 140 (0, 0)))
    (hb2 : W.heap[B2]? = some (.cells #[.slice (some ⟨BT, 0, none⟩) 2 2] 167 (0, 0))) (hbT : W.heap[BT]? = some (.cells #[.func (.func 150) #[] #[], .func (.func 151) #[] #[]] 161 (0, 0))) :
    IdleW W B1 B2 BT A1 N1 C1 A2 N2 C2 A3 zs.length C3 g' zs := by
  have hfew := h.few
  have hi := (ownInts_read hf.own).1
  rcases h with ⟨hr, rfl, rfl, rfl, rfl, rfl, rfl, rfl, rfl⟩ | ⟨hr, rfl, rfl, rfl, rfl, rfl, rfl, rfl, rfl⟩
  · refine ⟨hb1, hb2, hbT, hg, hi, rfl, by omega, ?_, fun n hn hk => by rw [right_rep hr hn hk]; omega⟩
    rw [nodesN, if_pos hr]
    exact pickW_sorted _ _
  · refine ⟨hb1, hb2, hbT, ⟨rfl, Nat.le_refl _, Nat.zero_le _, fun i hi => (by cases hi), rfl, Nat.le_refl _, Nat.zero_le _, fun i hi => (by cases hi), ⟨by simp, by simp, by simp⟩⟩, hi, rfl, by omega, List.Pairwise.nil, fun n hn => by cases hn⟩
theorem idle_few {g : Gr} : (idleL g).length ≤ 2048 := by
  unfold idleL
  split
  · rename_i hr
    exact Nat.le_trans (pickL_le _ _) (right_sizes hr).2.2
  · simp

set_option maxRecDepth 100000 in
set_option maxHeartbeats 4000000 in
theorem wellAll_any (w : World) (a1 : Option Addr) (n1 c1 : Nat) (a2 : Option Addr) (n2 c2 : Nat) (g : Gr) (hg : GramAt w a1 n1 c1 a2 n2 c2 g) (hre : Reach g) :
    Calls Try.prog 72 #[.agg #[.slice a1 n1 c1, .slice a2 n2 c2]] w (ClonedInts w (idleL g)) := by
  have H := Lib.hid (And.intro hg hre)
  clear hg hre
  go_enter Try.func72, Try.ntmps72
  have hc1 := (Chg.refl [] w).alloc (.cells #[.slice a1 n1 c1, .slice a2 n2 c2] 25)
  obtain ⟨x0, x1⟩ := cells2 (heap_alloc_same w (.cells #[.slice a1 n1 c1, .slice a2 n2 c2] 25))
  have H1 := Lib.hid hc1
  clear hc1
  go_wp2_with fail
  refine (ofWell2_any _ a1 n1 c1 a2 n2 c2 g (H.out.1.keep H1.out.kp) H.out.2).mono ?_
  rintro e w2 ⟨A1, N1, C1, A2, N2, C2, A3, C3, g', zs, rfl, hof, hf2, hc2⟩
  have H2 := Lib.hid (And.intro hof (And.intro hf2 (H1.out.tr hc2)))
  clear hof hf2 hc2 x0 x1
  go_wp2_with fail
  refine (idleIter_any _ _ _ _ _ _ _ _ _ _).mono ?_
  rintro e w3 ⟨rfl, hc3, hb1, hb2, hbT⟩
  have hcw := H2.out.2.2.tr hc3
  have hl3 := hc3.size
  have hlb := lt_of_block hb2
  have hf3 := hc3.row H2.out.2.1 (fun _ _ => by simp)
  have hgives := All_gives w3 _ _ _ _ _ _ _ _ _ _ _ _ g' zs (KeepF [] w3.heap.size) (fun _ _ h => .of_chg0 h) (fun _ _ _ h k => h.trans k)
    (fun W hW => H2.out.1.ready (H.out.1.keep (hW.kp hcw hcw.size (by simp))) (hW.row hf3 (fun k hk => ⟨(row_beyond hf3 hk).2.1, by simp⟩)) (hW.old _ _ (lt_of_block hb1) (by simp) hb1) (hW.old _ _ (lt_of_block hb2) (by simp) hb2) (hW.old _ _ (lt_of_block hbT) (by simp) hbT))
  rw [H2.out.1.list] at hgives
  have hcol := collect_gives w3 160 _ (enters_of Try.func160 (by kernel_rfl) rfl) (idleL g) (by have := idle_few (g := g); omega) hgives (fun _ _ _ h => h) (fun _ _ _ => Stays.pure _)
    (fun B' pre x A A1 A2 C C' hB hc ht k1 ht2 => (((KeepF.of_chg0 hc).trans (.of_turn ht hB)).trans k1).trans (.of_turn ht2 hB))
    (fun pre x S A A' hc hS => .of_chg hc (fun k hk => .inl (hS k hk).1))
  have H3 := Lib.hid (And.intro hcol hcw)
  clear hcol hcw hgives hf3 hb1 hb2 hbT hc3
  go_wp2_with fail
  refine H3.out.1.mono ?_
  rintro e w4 ⟨a4, c4, rfl, hf4, hc4⟩
  have H4 := Lib.hid (And.intro (row_base hf4 H3.out.2.size) (H3.out.2.tr hc4))
  clear hf4 hc4
  go_wp2_with fail
  go_ret
  exact ⟨a4, c4, rfl, H4.out.1, H4.out.2⟩

set_option maxRecDepth 100000 in
set_option maxHeartbeats 1000000 in
theorem wellIdle_any (w : World) (a1 : Option Addr) (n1 c1 : Nat) (a2 : Option Addr) (n2 c2 : Nat) (g : Gr) (hg : GramAt w a1 n1 c1 a2 n2 c2 g) (hre : Reach g) (n : Int) :
    Calls Try.prog 75 #[.agg #[.slice a1 n1 c1, .slice a2 n2 c2], .int .i64 n] w fun e w' => e = .returned (.bool (decide (n ∈ idleL g))) ∧ Chg [] w w' := by
  obtain ⟨r, hr⟩ : ∃ r, r = decide (n ∈ idleL g) := ⟨_, rfl⟩
  rw [← hr]
  have H := Lib.hid (And.intro hg (And.intro hre hr))
  clear hg hre hr
  go_enter Try.func75, Try.ntmps75
  have hc1 := (Chg.refl [] w).alloc (.cells #[.slice a1 n1 c1, .slice a2 n2 c2] 25)
  obtain ⟨x0, x1⟩ := cells2 (heap_alloc_same w (.cells #[.slice a1 n1 c1, .slice a2 n2 c2] 25))
  have H1 := Lib.hid hc1
  clear hc1
  go_wp2_with fail
  refine (wellAll_any _ a1 n1 c1 a2 n2 c2 g (H.out.1.keep H1.out.kp) H.out.2.1).mono ?_
  rintro e w2 ⟨a4, c4, rfl, hf4, hc4⟩
  have hi := (ownInts_read hf4.own).1
  have hcon := contains_any w2 a4 (idleL g).length c4 (idleL g) n rfl (by have := idle_few (g := g); omega) hi
  rw [← H.out.2.2] at hcon
  have H2 := Lib.hid (And.intro hcon (H1.out.tr hc4))
  clear hf4 hc4 hi hcon x0 x1
  go_wp2_with fail
  refine H2.out.1.mono ?_
  rintro e w3 ⟨rfl, rfl⟩
  go_wp2_with fail
  go_ret
  exact ⟨rfl, H2.out.2⟩
end Go.Proofs.Ytibgfgfmljhimaa

/-
  Package well: all idle nodes, the first, whether a node is, whether a grammar is well.
  Conditions: the grammar reads as data, within the reach.
-/
import Derived.Test.YtibgfgfmljhimaaGreatWe9WeC
import Derived.Test.YtibgfgfmljhimaaGreatWe9GCol
import Derived.Test.YtibgfgfmljhimaaGreatWe9GRnd
import Derived.Test.YtibgfgfmljhimaaGreatWe9GFresh
set_option linter.unusedVariables false
set_option linter.unusedSimpArgs false
set_option linter.unnecessarySimpa false
namespace Go.Proofs.YtibgfgfmljhimaaGreat
open Go.RowKit Go.MapKept Go.Shelf

/-- What lay below n₀ lies as it lay, but S. -/
structure KeepF (S : List Nat) (n₀ : Nat) (A B : World) : Prop where
  size : A.heap.size ≤ B.heap.size
  old : ∀ k o, k < n₀ → k ∉ S → A.heap[k]? = some o → B.heap[k]? = some o
theorem KeepF.refl (S : List Nat) (n₀ : Nat) (A : World) : KeepF S n₀ A A := ⟨Nat.le_refl _, fun _ _ _ _ h => h⟩
theorem KeepF.trans {S : List Nat} {n₀ : Nat} {A B C : World} (h : KeepF S n₀ A B) (k : KeepF S n₀ B C) : KeepF S n₀ A C := ⟨Nat.le_trans h.size k.size, fun j o hj hS ho => k.old j o hj hS (h.old j o hj hS ho)⟩
theorem KeepF.of_chg {S T : List Nat} {n₀ : Nat} {A B : World} (h : Chg T A B) (hT : ∀ k ∈ T, n₀ ≤ k ∨ k ∈ S) : KeepF S n₀ A B :=
  ⟨h.size, fun k o hk hS ho => h.heap ho (fun hm => by rcases hT k hm with h | h; omega; exact hS h)⟩
theorem KeepF.of_chg0 {S : List Nat} {n₀ : Nat} {A B : World} (h : Chg [] A B) : KeepF S n₀ A B := .of_chg h (by simp)
theorem KeepF.of_turn {S : List Nat} {n₀ B' : Nat} {A B : World} (h : Turn B' A B) (hn : n₀ ≤ B') : KeepF S n₀ A B := by
  obtain ⟨l, hl, hc⟩ := h.chg
  exact .of_chg hc (fun k hk => .inl (by simp at hk; omega))
theorem KeepF.row {S : List Nat} {n₀ B e size n : Nat} {W W' : World} {v : Value} {xs : List Value} (h : KeepF S n₀ W W') (hr : W.ownsRow B e size v n xs) (hn : ∀ k, v.ownBlock = some k → k < n₀ ∧ k ∉ S) : W'.ownsRow B e size v n xs := by
  refine ⟨hr.1, ?_⟩
  rcases hr.2 with h1 | ⟨g, cap, cur, rfl, hb, hg, rest⟩
  · exact .inl h1
  · exact .inr ⟨g, cap, cur, rfl, hb, h.old _ _ (hn g rfl).1 (hn g rfl).2 hg, rest⟩
/-- What the first part is kept in whole keeps its cells. -/
theorem KeepF.kp {S : List Nat} {n₀ : Nat} {w A B : World} (h : KeepF S n₀ A B) (hw : Chg [] w A) (hn : w.heap.size ≤ n₀) (hS : ∀ k ∈ S, w.heap.size ≤ k) : Kp w B := by
  refine ⟨Nat.le_trans hw.size h.size, fun p v hc => ?_⟩
  obtain ⟨o, ho, _⟩ := cells_of_cell hc
  have hlt := World.block_lt_of_cell? _ _ hc
  exact (World.cell?_of_block ((h.old _ _ (by omega) (fun hm => by have := hS _ hm; omega) (hw.heap ho (by simp))).trans ho.symm)).trans hc

/-- What a grammar at work is: itself, or nothing. -/
def OfIs (a1 : Option Addr) (n1 c1 : Nat) (a2 : Option Addr) (n2 c2 : Nat) (g : Gr) (A1 : Option Addr) (N1 C1 : Nat) (A2 : Option Addr) (N2 C2 : Nat) (g' : Gr) (zs : List Int) : Prop :=
  (rightB g = true ∧ A1 = a1 ∧ N1 = n1 ∧ C1 = c1 ∧ A2 = a2 ∧ N2 = n2 ∧ C2 = c2 ∧ g' = g ∧ zs = nodesN g) ∨ (rightB g = false ∧ A1 = none ∧ N1 = 0 ∧ C1 = 0 ∧ A2 = none ∧ N2 = 0 ∧ C2 = 0 ∧ g' = ⟨[], []⟩ ∧ zs = [])
theorem ofWell2_any (w : World) (a1 : Option Addr) (n1 c1 : Nat) (a2 : Option Addr) (n2 c2 : Nat) (g : Gr) (hg : GramAt w a1 n1 c1 a2 n2 c2 g) (hre : Reach g) :
    Calls Tryz.prog 108 #[.agg #[.slice a1 n1 c1, .slice a2 n2 c2]] w fun e w' => ∃ A1 N1 C1 A2 N2 C2 A3 C3 g' zs, e = .returned (workV A1 N1 C1 A2 N2 C2 A3 zs.length C3) ∧ OfIs a1 n1 c1 a2 n2 c2 g A1 N1 C1 A2 N2 C2 g' zs ∧ FreshInts w.heap.size w' A3 C3 zs ∧ Chg [] w w' := by
  refine (ofWell_any w a1 n1 c1 a2 n2 c2 g hg hre).mono ?_
  rintro e w' ⟨hc, hif⟩
  split at hif
  · rename_i hr
    obtain ⟨a3, c3, rfl, hf⟩ := hif
    exact ⟨_, _, _, _, _, _, _, _, _, _, rfl, .inl ⟨hr, rfl, rfl, rfl, rfl, rfl, rfl, rfl, rfl⟩, hf, hc⟩
  · rename_i hr
    subst hif
    exact ⟨_, _, _, _, _, _, _, _, _, [], rfl, .inr ⟨by simpa using hr, rfl, rfl, rfl, rfl, rfl, rfl, rfl, rfl⟩, World.ownsRow_nil _ _ _ _, hc⟩
theorem nodesN_few {g : Gr} : (nodesN g).length ≤ 2048 := by
  unfold nodesN
  split
  · rename_i hr
    exact Nat.le_trans (pickL_le _ _) (right_sizes hr).2.2
  · simp
theorem OfIs.few {a1 : Option Addr} {n1 c1 : Nat} {a2 : Option Addr} {n2 c2 : Nat} {g : Gr} {A1 : Option Addr} {N1 C1 : Nat} {A2 : Option Addr} {N2 C2 : Nat} {g' : Gr} {zs : List Int} (h : OfIs a1 n1 c1 a2 n2 c2 g A1 N1 C1 A2 N2 C2 g' zs) : zs.length ≤ 2048 := by
  rcases h with ⟨_, _, _, _, _, _, _, _, rfl⟩ | ⟨_, _, _, _, _, _, _, _, rfl⟩
  · exact nodesN_few
  · simp
theorem OfIs.list {a1 : Option Addr} {n1 c1 : Nat} {a2 : Option Addr} {n2 c2 : Nat} {g : Gr} {A1 : Option Addr} {N1 C1 : Nat} {A2 : Option Addr} {N2 C2 : Nat} {g' : Gr} {zs : List Int} (h : OfIs a1 n1 c1 a2 n2 c2 g A1 N1 C1 A2 N2 C2 g' zs) : pickL g'.nodes.length (testB g' zs) = idleL g := by
  rcases h with ⟨hr, _, _, _, _, _, _, rfl, rfl⟩ | ⟨hr, _, _, _, _, _, _, rfl, rfl⟩
  · exact (idle_tests hr).symm
  · rw [idleL, if_neg (by rw [hr]; simp)]; rfl
theorem OfIs.ready {a1 : Option Addr} {n1 c1 : Nat} {a2 : Option Addr} {n2 c2 : Nat} {g : Gr} {A1 : Option Addr} {N1 C1 : Nat} {A2 : Option Addr} {N2 C2 : Nat} {g' : Gr} {zs : List Int} (h : OfIs a1 n1 c1 a2 n2 c2 g A1 N1 C1 A2 N2 C2 g' zs)
    {W : World} {B B1 B2 BT : Nat} {A3 : Option Addr} {C3 : Nat} (hg : GramAt W a1 n1 c1 a2 n2 c2 g) (hf : FreshInts B W A3 C3 zs) (hb1 : W.heap[B1]? = some (.cells #[.slice A1 N1 C1, .slice A2 N2 C2, .slice A3 zs.length C3] 131 (0, 0)))
    (hb2 : W.heap[B2]? = some (.cells #[.slice (some ⟨BT, 0, none⟩) 2 2] 209 (0, 0))) (hbT : W.heap[BT]? = some (.cells #[.func (.func 149) #[] #[], .func (.func 150) #[] #[]] 171 (0, 0))) :
    IdleW W B1 B2 BT A1 N1 C1 A2 N2 C2 A3 zs.length C3 g' zs := by
  have hfew := h.few
  have hi := (ownInts_read hf.own).1
  rcases h with ⟨hr, rfl, rfl, rfl, rfl, rfl, rfl, rfl, rfl⟩ | ⟨hr, rfl, rfl, rfl, rfl, rfl, rfl, rfl, rfl⟩
  · refine ⟨hb1, hb2, hbT, hg, hi, rfl, by omega, ?_, fun n hn hk => by rw [right_rep hr hn hk]; omega⟩
    rw [nodesN, if_pos hr]
    exact pickW_sorted _ _
  · refine ⟨hb1, hb2, hbT, ⟨rfl, Nat.le_refl _, Nat.zero_le _, fun i hi => (by cases hi), rfl, Nat.le_refl _, Nat.zero_le _, fun i hi => (by cases hi), ⟨by simp, by simp, by simp⟩⟩, hi, rfl, by omega, List.Pairwise.nil, fun n hn => by cases hn⟩
theorem idle_few {g : Gr} : (idleL g).length ≤ 2048 := by
  unfold idleL
  split
  · rename_i hr
    exact Nat.le_trans (pickL_le _ _) (right_sizes hr).2.2
  · simp

set_option maxRecDepth 100000 in
set_option maxHeartbeats 4000000 in
theorem wellAll_any (w : World) (a1 : Option Addr) (n1 c1 : Nat) (a2 : Option Addr) (n2 c2 : Nat) (g : Gr) (hg : GramAt w a1 n1 c1 a2 n2 c2 g) (hre : Reach g) :
    Calls Tryz.prog 70 #[.agg #[.slice a1 n1 c1, .slice a2 n2 c2]] w (ClonedInts w (idleL g)) := by
  have H := Lib.hid (And.intro hg hre)
  clear hg hre
  go_enter Tryz.func70, Tryz.ntmps70
  have hc1 := (Chg.refl [] w).alloc (.cells #[.slice a1 n1 c1, .slice a2 n2 c2] 25)
  obtain ⟨x0, x1⟩ := cells2 (heap_alloc_same w (.cells #[.slice a1 n1 c1, .slice a2 n2 c2] 25))
  have H1 := Lib.hid hc1
  clear hc1
  go_wp2_with fail
  refine (ofWell2_any _ a1 n1 c1 a2 n2 c2 g (H.out.1.keep H1.out.kp) H.out.2).mono ?_
  rintro e w2 ⟨A1, N1, C1, A2, N2, C2, A3, C3, g', zs, rfl, hof, hf2, hc2⟩
  have H2 := Lib.hid (And.intro hof (And.intro hf2 (H1.out.tr hc2)))
  clear hof hf2 hc2 x0 x1
  go_wp2_with fail
  refine (idleIter_any _ _ _ _ _ _ _ _ _ _).mono ?_
  rintro e w3 ⟨rfl, hc3, hb1, hb2, hbT⟩
  have hcw := H2.out.2.2.tr hc3
  have hl3 := hc3.size
  have hlb := lt_of_block hb2
  have hf3 := hc3.row H2.out.2.1 (fun _ _ => by simp)
  have hgives := All_gives w3 _ _ _ _ _ _ _ _ _ _ _ _ g' zs (KeepF [] w3.heap.size) (fun _ _ h => .of_chg0 h) (fun _ _ _ h k => h.trans k)
    (fun W hW => H2.out.1.ready (H.out.1.keep (hW.kp hcw hcw.size (by simp))) (hW.row hf3 (fun k hk => ⟨(row_beyond hf3 hk).2.1, by simp⟩)) (hW.old _ _ (lt_of_block hb1) (by simp) hb1) (hW.old _ _ (lt_of_block hb2) (by simp) hb2) (hW.old _ _ (lt_of_block hbT) (by simp) hbT))
  rw [H2.out.1.list] at hgives
  have hcol := collect_gives w3 172 _ (enters_of Tryz.func172 (by kernel_rfl) rfl) (idleL g) (by have := idle_few (g := g); omega) hgives (fun _ _ _ h => h) (fun _ _ _ => Stays.pure _)
    (fun B' pre x A A1 A2 C C' hB hc ht k1 ht2 => (((KeepF.of_chg0 hc).trans (.of_turn ht hB)).trans k1).trans (.of_turn ht2 hB))
    (fun pre x S A A' hc hS => .of_chg hc (fun k hk => .inl (hS k hk).1))
  have H3 := Lib.hid (And.intro hcol hcw)
  clear hcol hcw hgives hf3 hb1 hb2 hbT hc3
  go_wp2_with fail
  refine H3.out.1.mono ?_
  rintro e w4 ⟨a4, c4, rfl, hf4, hc4⟩
  have H4 := Lib.hid (And.intro (row_base hf4 H3.out.2.size) (H3.out.2.tr hc4))
  clear hf4 hc4
  go_wp2_with fail
  go_ret
  exact ⟨a4, c4, rfl, H4.out.1, H4.out.2⟩

set_option maxRecDepth 100000 in
set_option maxHeartbeats 1000000 in
theorem wellIdle_any (w : World) (a1 : Option Addr) (n1 c1 : Nat) (a2 : Option Addr) (n2 c2 : Nat) (g : Gr) (hg : GramAt w a1 n1 c1 a2 n2 c2 g) (hre : Reach g) (n : Int) :
    Calls Tryz.prog 73 #[.agg #[.slice a1 n1 c1, .slice a2 n2 c2], .int .i64 n] w fun e w' => e = .returned (.bool (decide (n ∈ idleL g))) ∧ Chg [] w w' := by
  obtain ⟨r, hr⟩ : ∃ r, r = decide (n ∈ idleL g) := ⟨_, rfl⟩
  rw [← hr]
  have H := Lib.hid (And.intro hg (And.intro hre hr))
  clear hg hre hr
  go_enter Tryz.func73, Tryz.ntmps73
  have hc1 := (Chg.refl [] w).alloc (.cells #[.slice a1 n1 c1, .slice a2 n2 c2] 25)
  obtain ⟨x0, x1⟩ := cells2 (heap_alloc_same w (.cells #[.slice a1 n1 c1, .slice a2 n2 c2] 25))
  have H1 := Lib.hid hc1
  clear hc1
  go_wp2_with fail
  refine (wellAll_any _ a1 n1 c1 a2 n2 c2 g (H.out.1.keep H1.out.kp) H.out.2.1).mono ?_
  rintro e w2 ⟨a4, c4, rfl, hf4, hc4⟩
  have hi := (ownInts_read hf4.own).1
  have hcon := contains_any w2 a4 (idleL g).length c4 (idleL g) n rfl (by have := idle_few (g := g); omega) hi
  rw [← H.out.2.2] at hcon
  have H2 := Lib.hid (And.intro hcon (H1.out.tr hc4))
  clear hf4 hc4 hi hcon x0 x1
  go_wp2_with fail
  refine H2.out.1.mono ?_
  rintro e w3 ⟨rfl, rfl⟩
  go_wp2_with fail
  go_ret
  exact ⟨rfl, H2.out.2⟩
end Go.Proofs.YtibgfgfmljhimaaGreat
set_option linter.unusedVariables false
set_option linter.unusedSimpArgs false
set_option linter.unnecessarySimpa false
namespace Go.Proofs.YtibgfgfmljhimaaGreat
open Go.RowKit Go.MapKept Go.Shelf

def firstV (l : List Int) : Value := .tuple #[.int .i64 (l.headD 0), .bool (!l.isEmpty)]

section
attribute [local go_sem] Oper.semAt_some
set_option maxRecDepth 100000 in
set_option maxHeartbeats 4000000 in
theorem wellFirst_any (w : World) (a1 : Option Addr) (n1 c1 : Nat) (a2 : Option Addr) (n2 c2 : Nat) (g : Gr) (hg : GramAt w a1 n1 c1 a2 n2 c2 g) (hre : Reach g) :
    Calls Tryz.prog 68 #[.agg #[.slice a1 n1 c1, .slice a2 n2 c2]] w fun e w' => e = .returned (firstV (idleL g)) ∧ Chg [] w w' := by
  have H := Lib.hid (And.intro hg hre)
  clear hg hre
  refine (callsIn_wide (n := 3)).1 ?_
  refine callsIn_of_wp_marks Tryz.func68 rfl trivial ?_ rfl
  simp only [Tryz.ntmps68, List.size_toArray, List.length_cons, List.length_nil, Nat.reduceAdd, Nat.reduceSub, Array.replicate_succ, Array.replicate_zero, List.push_toArray, List.append_toArray, List.nil_append, List.cons_append]
  refine wpIn_wide.2 ?_
  have hc1 := (((Chg.refl [] w).alloc (.cells #[.slice a1 n1 c1, .slice a2 n2 c2] 25)).alloc (.cells #[.int .i64 0] 3)).alloc (.cells #[.bool false] 4)
  have hb0 := heap_alloc_lt (heap_alloc_lt (heap_alloc_same w (.cells #[.slice a1 n1 c1, .slice a2 n2 c2] 25)) (.cells #[.int .i64 0] 3)) (.cells #[.bool false] 4)
  have hb1 := heap_alloc_lt (heap_alloc_same (w.alloc (.cells #[.slice a1 n1 c1, .slice a2 n2 c2] 25)) (.cells #[.int .i64 0] 3)) (.cells #[.bool false] 4)
  have hb2 := heap_alloc_same ((w.alloc (.cells #[.slice a1 n1 c1, .slice a2 n2 c2] 25)).alloc (.cells #[.int .i64 0] 3)) (.cells #[.bool false] 4)
  simp only [World.size_alloc, Nat.add_assoc, Nat.reduceAdd] at hb1 hb2
  obtain ⟨x0, x1⟩ := cells2 hb0
  have H1 := Lib.hid (And.intro hc1 (And.intro hb1 hb2))
  clear hc1 hb0 hb1 hb2
  go_wp2_with fail
  refine (ofWell2_any _ a1 n1 c1 a2 n2 c2 g (H.out.1.keep H1.out.1.kp) H.out.2).mono ?_
  rintro e w2 ⟨A1, N1, C1, A2, N2, C2, A3, C3, g', zs, rfl, hof, hf2, hc2⟩
  have H2 := Lib.hid (And.intro hof (And.intro hf2 (And.intro (H1.out.1.tr hc2) (And.intro (hc2.heap H1.out.2.1 (by simp)) (hc2.heap H1.out.2.2 (by simp))))))
  clear hof hf2 hc2 x0 x1
  go_wp2_with fail
  refine (idleIter_any _ _ _ _ _ _ _ _ _ _).mono ?_
  rintro e w3 ⟨rfl, hc3, hb1, hb2, hbT⟩
  have hcw := H2.out.2.2.1.tr hc3
  have hf3 := hc3.row H2.out.2.1 (fun _ _ => by simp)
  have hgives := All_gives w3 _ _ _ _ _ _ _ _ _ _ _ _ g' zs (KeepF [] w3.heap.size) (fun _ _ h => .of_chg0 h) (fun _ _ _ h k => h.trans k)
    (fun W hW => H2.out.1.ready (H.out.1.keep (hW.kp hcw hcw.size (by simp))) (hW.row hf3 (fun k hk => ⟨(row_beyond hf3 hk).2.1, by simp⟩)) (hW.old _ _ (lt_of_block hb1) (by simp) hb1) (hW.old _ _ (lt_of_block hb2) (by simp) hb2) (hW.old _ _ (lt_of_block hbT) (by simp) hbT))
  rw [H2.out.1.list] at hgives
  have hl3 := lt_of_block (hc3.heap H2.out.2.2.2.2 (by simp))
  have H3 := Lib.hid (And.intro hcw (And.intro (hc3.heap H2.out.2.2.2.1 (by simp)) (hc3.heap H2.out.2.2.2.2 (by simp))))
  clear hcw hf3 hb1 hb2 hbT hc3
  go_wp2_with fail
  refine (wpIn_wide (n := 3)).1 ?_
  obtain ⟨b1, hb1⟩ : ∃ b1, b1 = w2.heap.size + 2 := ⟨_, rfl⟩
  obtain ⟨b2, hb2⟩ : ∃ b2, b2 = w2.heap.size + 3 := ⟨_, rfl⟩
  rw [← hb1, ← hb2] at hgives ⊢
  clear hb1 hb2
  refine range_gives (n := 3) (gf := 172) (lb := #[.pointer (some ⟨b1, 0, none⟩), .pointer (some ⟨b2, 0, none⟩)]) rfl (enters_of Tryz.func172 (by kernel_rfl) rfl) hgives (fun pre x => Stays.pure _) ?hK (Chg.refl [] _) (fun _ => rfl)
    (fun pre W => pre = [] ∧ W.heap[w.heap.size + 1]? = some (.cells #[.int .i64 0] 3 (0, 0)) ∧ W.heap[w.heap.size + 2]? = some (.cells #[.bool false] 4 (0, 0)) ∧ Chg [] w W)
    (fun c pre W => c = .ret ∧ ∃ x, [x] <+: idleL g ∧ W.heap[w.heap.size + 1]? = some (.cells #[.int .i64 x] 3 (0, 0)) ∧ W.heap[w.heap.size + 2]? = some (.cells #[.bool true] 4 (0, 0)) ∧ Chg [] w W)
    (fun s => (Stays.pure _).and ((Stays.block _ _ _ rfl).and ((Stays.block _ _ _ rfl).and (Stays.since _ _ _ H3.out.1.size)))) (fun _ _ => (Stays.pure _).and (Stays.ex fun x => (Stays.pure _).and ((Stays.block _ _ _ rfl).and ((Stays.block _ _ _ rfl).and (Stays.since _ _ _ H3.out.1.size))))) ?h0
    (fun x a' W => a' = { tmps := #[.agg #[.slice a1 n1 c1, .slice a2 n2 c2], .pointer (some ⟨w.heap.size, 0, none⟩), .pointer (some ⟨w.heap.size + 1, 0, none⟩), .pointer (some ⟨w.heap.size + 2, 0, none⟩), .int .i64 x, .agg #[.slice a1 n1 c1, .slice a2 n2 c2], workV A1 N1 C1 A2 N2 C2 A3 zs.length C3, .func (.func 172) #[] #[.pointer (some ⟨b1, 0, none⟩), .pointer (some ⟨b2, 0, none⟩)], .int .i64 x, undef], defers := [] }) (fun x a' => Stays.pure _) ?assign ?body ?done ?stop
  case hK => exact fun pre x A A1 A2 C C' hc ht k1 ht2 => (((KeepF.of_chg0 hc).trans (.of_turn ht (Nat.le_refl _))).trans k1).trans (.of_turn ht2 (Nat.le_refl _))
  case h0 => exact ⟨rfl, H3.out.2.1, H3.out.2.2, H3.out.1⟩
  case assign =>
    rintro l pre x W K hi hx hK
    gi_wp2
    exact hK _ _ (Chg.refl _ _) rfl
  case body =>
    rintro l pre x a' W ⟨rfl, h1, h2, hch⟩ hx rfl
    have r1 := cells1 h1
    have r2 := cells1 h2
    have f1 := free_of_cells h1 0
    have f2 := free_of_cells h2 0
    have h2' := heap_set_ne (c := w.heap.size + 1) (i := 0) (u := .int .i64 x) h2 (by omega)
    have r2' := cells1 h2'
    have f2' := free_of_cells h2' 0
    have hz1 := heap_set_ne (c := w.heap.size + 2) (i := 0) (u := .bool true) (heap_setCell_same h1 0 (.int .i64 x)) (by omega)
    have hz2 := heap_setCell_same h2' 0 (.bool true)
    simp at hz1 hz2
    have hcA := ((Chg.refl [w.heap.size + 1, w.heap.size + 2] W).setCell (p := ⟨w.heap.size + 1, 0, none⟩) (.inl (by simp)) (.int .i64 x)).setCell (p := ⟨w.heap.size + 2, 0, none⟩) (.inl (by simp)) (.bool true)
    have HB := Lib.hid (And.intro hz1 (And.intro hz2 (And.intro hcA (And.intro hch hx))))
    clear hz1 hz2 hcA hch hx h2' h1 h2
    gi_wp2_with fail
    obtain ⟨hz1, hz2, hcA, hch, hx⟩ := HB.out
    refine ⟨keepsFrom_of_chg hcA (fun i hi => .inl (by simp at hi; omega)), rfl, x, by simpa using hx, hz1, hz2, hch.trans hcA (fun i hi => .inr (by simp at hi; omega))⟩
  case done =>
    rintro D xs W hD hS ⟨rfl, h1, h2, hch⟩ hd
    have r1 := cells1 h1
    have r2 := cells1 h2
    have f1 := free_of_cells h1 0
    have f2 := free_of_cells h2 0
    have h2' := heap_set_ne (c := w.heap.size + 1) (i := 0) (u := .int .i64 0) h2 (by omega)
    have r2' := cells1 h2'
    have f2' := free_of_cells h2' 0
    have hz1 := heap_set_ne (c := w.heap.size + 2) (i := 0) (u := .bool false) (heap_setCell_same h1 0 (.int .i64 0)) (by omega)
    have hz2 := heap_setCell_same h2' 0 (.bool false)
    simp at hz1 hz2
    have hcA := ((Chg.refl [w.heap.size + 1, w.heap.size + 2] W).setCell (p := ⟨w.heap.size + 1, 0, none⟩) (.inl (by simp)) (.int .i64 0)).setCell (p := ⟨w.heap.size + 2, 0, none⟩) (.inl (by simp)) (.bool false)
    have hd2 := hcA.heap hd (by simp; omega)
    have HB := Lib.hid (And.intro hz1 (And.intro hz2 (And.intro (hch.trans hcA (fun i hi => .inr (by simp at hi; omega))) (And.intro hS (And.intro hd2 hD)))))
    clear hz1 hz2 hcA hch h2' h1 h2 hS hd hd2 hD
    dsimp only
    go_wp2_with fail
    obtain ⟨hz1, hz2, hch, hS, hd, hD⟩ := HB.out
    refine leave_one (v := .tuple #[.int .i64 0, .bool false]) (B := w3.heap.size) (I := fun W' => W'.heap[w.heap.size + 1]? = some (.cells #[.int .i64 0] 3 (0, 0)) ∧ W'.heap[w.heap.size + 2]? = some (.cells #[.bool false] 4 (0, 0)) ∧ Chg [] w W') hd hD ((Stays.block _ _ _ rfl).and ((Stays.block _ _ _ rfl).and (Stays.since _ _ _ H3.out.1.size))) ⟨hz1, hz2, hch⟩ ?_
    rintro W' ⟨q1, q2, q3⟩
    have c1' := cells1 q1
    have c2' := cells1 q2
    exact ⟨by simp [results, Tryz.results68, go_sem, c1', c2'], by rw [← hS]; rfl, q3⟩
  case stop =>
    rintro D c pre W hD _ ⟨rfl, x, hx, h1, h2, hch⟩ hd
    have HB := Lib.hid (And.intro h1 (And.intro h2 (And.intro hch (And.intro hx (And.intro hd hD)))))
    clear h1 h2 hch hx hd hD
    gi_wp2_with fail
    obtain ⟨hz1, hz2, hch, hx, hd, hD⟩ := HB.out
    refine leave_one (v := .tuple #[.int .i64 x, .bool true]) (B := w3.heap.size) (I := fun W' => W'.heap[w.heap.size + 1]? = some (.cells #[.int .i64 x] 3 (0, 0)) ∧ W'.heap[w.heap.size + 2]? = some (.cells #[.bool true] 4 (0, 0)) ∧ Chg [] w W') hd hD ((Stays.block _ _ _ rfl).and ((Stays.block _ _ _ rfl).and (Stays.since _ _ _ H3.out.1.size))) ⟨hz1, hz2, hch⟩ ?_
    rintro W' ⟨q1, q2, q3⟩
    have c1' := cells1 q1
    have c2' := cells1 q2
    refine ⟨by simp [results, Tryz.results68, go_sem, c1', c2'], ?_, q3⟩
    obtain ⟨l, hl⟩ := hx
    rw [← hl]
    rfl
end
end Go.Proofs.YtibgfgfmljhimaaGreat
set_option linter.unusedVariables false
set_option linter.unusedSimpArgs false
set_option linter.unnecessarySimpa false
namespace Go.Proofs.YtibgfgfmljhimaaGreat
open Go.RowKit Go.MapKept Go.Shelf

theorem right_posW {g : Gr} (h : rightB g = true) : 0 < g.nodes.length := by
  obtain ⟨q, _, hq⟩ := right_body h (k := 0) (by have := (right_sizes h).1; omega)
  omega
def wellB (g : Gr) : Bool := rightB g && (idleL g).isEmpty

set_option maxRecDepth 100000 in
set_option maxHeartbeats 1000000 in
theorem wellWell_any (w : World) (a1 : Option Addr) (n1 c1 : Nat) (a2 : Option Addr) (n2 c2 : Nat) (g : Gr) (hg : GramAt w a1 n1 c1 a2 n2 c2 g) (hre : Reach g) :
    Calls Tryz.prog 71 #[.agg #[.slice a1 n1 c1, .slice a2 n2 c2]] w fun e w' => e = .returned (.bool (wellB g)) ∧ Chg [] w w' := by
  obtain ⟨r, hr⟩ : ∃ r, r = rightB g := ⟨_, rfl⟩
  obtain ⟨s, hs⟩ : ∃ s, s = (idleL g).isEmpty := ⟨_, rfl⟩
  obtain ⟨v, hv⟩ : ∃ v, v = (idleL g).headD 0 := ⟨_, rfl⟩
  rw [wellB, ← hr, ← hs]
  have H := Lib.hid (And.intro hg (And.intro hre (And.intro hr (And.intro hs hv))))
  clear hg hre hr hs hv
  go_enter Tryz.func71, Tryz.ntmps71
  have hc1 := (Chg.refl [] w).alloc (.cells #[.slice a1 n1 c1, .slice a2 n2 c2] 25)
  obtain ⟨x0, x1⟩ := cells2 (heap_alloc_same w (.cells #[.slice a1 n1 c1, .slice a2 n2 c2] 25))
  have H1 := Lib.hid (And.intro hc1 (heap_alloc_same w (.cells #[.slice a1 n1 c1, .slice a2 n2 c2] 25)))
  clear hc1
  go_wp2_with fail
  refine (wellFirst_any _ a1 n1 c1 a2 n2 c2 g (H.out.1.keep H1.out.1.kp) H.out.2.1).mono ?_
  rintro e w2 ⟨rfl, hc2⟩
  unfold firstV
  rw [← H.out.2.2.2.1, ← H.out.2.2.2.2]
  have H2 := Lib.hid (And.intro (H1.out.1.tr hc2) (hc2.heap H1.out.2 (by simp)))
  clear hc2 x0 x1
  obtain ⟨x0, x1⟩ := cells2 H2.out.2
  cases s with
  | false =>
    go_wp2_with fail
    go_ret
    exact ⟨by simp, H2.out.1⟩
  | true =>
    have hR := Right_any w2 a1 n1 c1 a2 n2 c2 g (H.out.1.keep H2.out.1.kp)
    rw [← H.out.2.2.1] at hR
    go_wp2_with fail
    refine hR.mono ?_
    clear hR
    rintro e w3 ⟨rfl, hc3⟩
    have H3 := Lib.hid (H2.out.1.tr hc3)
    clear hc3 x0 x1
    go_wp2_with fail
    go_ret
    exact ⟨by simp, H3.out⟩

/-! ### A kind is written -/
def Nd.setK (x : Nd) (k : Int) : Nd := { x with k := k }
def Cp.setK (p : Cp) (k : Int) : Cp := (p.1.setK k, p.2.1, p.2.2)
theorem setK_own (p : Cp) (k : Int) : (p.setK k).own = p.own := rfl
theorem setK_cells (p : Cp) (k : Int) : (p.setK k).cells = p.cells.set 0 (.int .i64 k) := rfl
theorem nodesCells_setK : ∀ (L : List Cp) (i : Nat) (hi : i < L.length) (k : Int), (nodesCells L).set (i * 9) (.int .i64 k) = nodesCells (L.set i (L[i].setK k))
  | p :: L, 0, _, k => by
    simp only [nodesCells, List.flatMap_cons, List.set_cons_zero, List.getElem_cons_zero, Nat.zero_mul]
    rw [List.set_append_left _ _ (by rw [cp_len]; omega), setK_cells]
  | p :: L, i + 1, hi, k => by
    have ih := nodesCells_setK L i (by simpa using hi) k
    simp only [nodesCells, List.flatMap_cons, List.set_cons_succ, List.getElem_cons_succ] at ih ⊢
    rw [List.set_append_right _ _ (by rw [cp_len]; omega), cp_len, show (i + 1) * 9 - 9 = i * 9 by omega, ih]
theorem OwnG.kindPut {B : Nat} {w : World} {b1 : Option Addr} {d1 : Nat} {b2 : Option Addr} {d2 : Nat} {L : List Cp} {rs : List Rl} (h : OwnG B w b1 d1 b2 d2 L rs) {i : Nat} (hi : i < L.length) {G : Nat} (hG : b2 = some ⟨G, 0, none⟩) :
    B ≤ G ∧ w.cell? ⟨G, i * 9, none⟩ = some (.int .i64 L[i].1.k) ∧ w.frozen? ⟨G, i * 9, none⟩ = false ∧ (∃ cur, w.heap[G]? = some (.cells cur 53 (0, 0))) ∧
      ∀ v, OwnG B (w.setCell ⟨G, i * 9, none⟩ (.int .i64 v)) b1 d1 b2 d2 (L.set i (L[i].setK v)) rs := by
  subst hG
  rcases h.nodes.2 with ⟨h0, h1⟩ | ⟨g, cap, cur, h0, hb, hg, hn, hcm, hcs, ht⟩
  · cases h0
  cases h0
  have hlen : (nodesCells L).length = L.length * 9 := by
    have : ∀ M : List Cp, (nodesCells M).length = M.length * 9 := fun M => by
      induction M with
      | nil => rfl
      | cons p M ih => rw [nodesCells, List.flatMap_cons, List.length_append, cp_len]; rw [nodesCells] at ih; rw [ih, List.length_cons]; omega
    exact this L
  have hcell : w.cell? ⟨G, i * 9, none⟩ = some (.int .i64 L[i].1.k) := by
    rw [cell_of_cells hg]
    have h1 := flat_get Cp.cells 9 cp_len L i 0 (by omega)
    rw [List.getElem?_eq_getElem hi] at h1
    simp only [Nat.add_zero, Option.bind_some] at h1
    have h2 : (nodesCells L)[i * 9]? = some (.int .i64 L[i].1.k) := h1
    rw [← ht, List.getElem?_take] at h2
    split at h2
    · simpa using h2
    · cases h2
  refine ⟨hb, hcell, free_of_cells hg _, ⟨_, hg⟩, fun v => ?_⟩
  have hc := (Chg.refl [G] w).setCell (p := ⟨G, i * 9, none⟩) (.inl (by simp)) (.int .i64 v)
  have hN : ∀ e, 53 ≠ e → ∀ k ∈ [G], NotRow w e k := fun e he k hk => by simp only [List.mem_singleton] at hk; subst hk; exact .of_cells hg he
  refine ⟨hc.rowOf h.rules (hN _ (by decide)), ?_, ?_, ?_⟩
  · rw [List.length_set, ← nodesCells_setK L i hi v]
    refine ⟨by rw [List.length_set]; exact h.nodes.1, .inr ⟨G, d2, _, rfl, hb, heap_setCell_same hg _ _, hn, hcm, by simpa using hcs, ?_⟩⟩
    rw [Array.toList_setIfInBounds, List.take_set, ht]
  · intro p hp
    obtain ⟨j, hj, rfl⟩ := List.mem_iff_getElem.1 hp
    have hj' : j < L.length := by simpa using hj
    rw [List.getElem_set]
    split
    · rename_i hij
      subst hij
      exact (show FreshInts B _ L[i].2.1 L[i].2.2 L[i].1.kids from hc.rowOf (h.kids _ (List.getElem_mem hi)) (hN _ (by decide)))
    · exact hc.rowOf (h.kids _ (List.getElem_mem hj')) (hN _ (by decide))
  · rw [List.pairwise_iff_getElem]
    intro a b ha hb hab x y hx hy
    have ha' : a < L.length := by simpa using ha
    have hb' : b < L.length := by simpa using hb
    have key : ∀ c (hc : c < L.length) (hc' : c < (L.set i (L[i].setK v)).length), ((L.set i (L[i].setK v))[c]).own = L[c].own := by
      intro c hc hc'
      rw [List.getElem_set]
      split
      · rename_i hic; subst hic; exact setK_own _ _
      · rfl
    rw [key a ha' ha] at hx
    rw [key b hb' hb] at hy
    exact List.pairwise_iff_getElem.1 h.apart a b ha' hb' hab x y hx hy

/-! ### Mended -/
def mendL (ns : List Nd) (l : List Int) : List Nd := ns.mapIdx fun j x => if (j : Int) ∈ l then x.setK 10 else x
def mendG (g : Gr) : Gr := ⟨g.rules, mendL g.nodes (idleL g)⟩
theorem mendL_len (ns : List Nd) (l : List Int) : (mendL ns l).length = ns.length := by simp [mendL]
theorem mendL_nil (ns : List Nd) : mendL ns [] = ns := by
  refine List.ext_getElem (by simp [mendL]) (fun j h1 h2 => ?_)
  simp [mendL]
theorem mendL_at {ns : List Nd} {l : List Int} {j : Nat} (hj : j < ns.length) : (mendL ns l)[j]'(by rw [mendL_len]; exact hj) = if (j : Int) ∈ l then ns[j].setK 10 else ns[j] := by simp [mendL]
theorem mendL_snoc {ns : List Nd} {l : List Int} {q : Nat} (hq : q < ns.length) : (mendL ns l).set q (((mendL ns l)[q]'(by rw [mendL_len]; exact hq)).setK 10) = mendL ns (l ++ [(q : Int)]) := by
  refine List.ext_getElem (by simp [mendL]) (fun j h1 h2 => ?_)
  have hj : j < ns.length := by rw [mendL_len] at h2; exact h2
  rw [List.getElem_set, mendL_at hj, mendL_at hj, mendL_at hq]
  by_cases e : q = j
  · subst e
    rw [if_pos rfl, if_pos (show (q : Int) ∈ l ++ [(q : Int)] by simp)]
    split <;> rfl
  · rw [if_neg e]
    have : ((j : Int) ∈ l ++ [(q : Int)]) ↔ (j : Int) ∈ l := by
      rw [List.mem_append, List.mem_singleton]
      constructor
      · rintro (h | h)
        · exact h
        · omega
      · exact .inl
    simp only [this]
end Go.Proofs.YtibgfgfmljhimaaGreat

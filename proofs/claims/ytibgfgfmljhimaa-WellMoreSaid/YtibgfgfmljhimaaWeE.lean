/-
  Package well: the first idle node, whether a grammar is well.
  Conditions: the grammar reads as data, within the reach.
-/
import Derived.Test.YtibgfgfmljhimaaWeD
import Derived.Test.YtibgfgfmljhimaaGRnd
set_option linter.unusedVariables false
set_option linter.unusedSimpArgs false
set_option linter.unnecessarySimpa false
namespace Go.Proofs.Ytibgfgfmljhimaa
open Go.RowKit Go.MapKept Go.Shelf

def firstV (l : List Int) : Value := .tuple #[.int .i64 (l.headD 0), .bool (!l.isEmpty)]

section
attribute [local go_sem] Oper.semAt_some
set_option maxRecDepth 100000 in
set_option maxHeartbeats 4000000 in
theorem wellFirst_any (w : World) (a1 : Option Addr) (n1 c1 : Nat) (a2 : Option Addr) (n2 c2 : Nat) (g : Gr) (hg : GramAt w a1 n1 c1 a2 n2 c2 g) (hre : Reach g) :
    Calls Try.prog 76 #[.agg #[.slice a1 n1 c1, .slice a2 n2 c2]] w fun e w' => e = .returned (firstV (idleL g)) ∧ Chg [] w w' := by
  have H := Lib.hid (And.intro hg hre)
  clear hg hre
  refine (callsIn_wide (n := 3)).1 ?_
  refine callsIn_of_wp_marks Try.func76 rfl trivial ?_ rfl
  simp only [Try.ntmps76, List.size_toArray, List.length_cons, List.length_nil, Nat.reduceAdd, Nat.reduceSub, Array.replicate_succ, Array.replicate_zero, List.push_toArray, List.append_toArray, List.nil_append, List.cons_append]
  refine wpIn_wide.2 ?_
  have hc1 := (((Chg.refl [] w).alloc (.cells #[.slice a1 n1 c1, .slice a2 n2 c2] 25)).alloc (.cells #[.int .i64 0] 3)).alloc (.cells #[.bool false] 4)
  have hb0 := heap_alloc_lt (heap_alloc_lt (heap_alloc_same w (.cells #[.slice a1 n1 c1, .slice a2 n2 c2] 25)) (.cells #[.int .i64 0] 3)) (.cells #[.bool false] 4)
  have hb1 := heap_alloc_lt (heap_alloc_same (w.alloc (.cells #[.slice a1 n1 c1, .slice a2 n2 c2] 25)) (.cells #[.int .i64 0] 3)) (.cells #[.bool false] 4)
  have hb2 := heap_alloc_same ((w.alloc (.cells #[.slice a1 n1 c1, .slice a2 n2 c2] 25)).alloc (.cells #[.int .i64 0] 3)) (.cells #[.bool false] 4)
  simp only [World.size_alloc, Nat.add_assoc, Nat.reduceAdd] at hb1 hb2
  obtain ⟨x0, x1⟩ := cells2 hb0
  have H1 := Lib.hid (And.intro hc1 (And.intro hb1 hb2))
  clear hc1 hb0 hb1 hb2
  go_wp2_with fail
  refine (ofWell2_any _ a1 n1 c1 a2 n2 c2 g (H.out.1.keep H1.out.1.kp) H.out.2).mono ?_
  rintro e w2 ⟨A1, N1, C1, A2, N2, C2, A3, C3, g', zs, rfl, hof, hf2, hc2⟩
  have H2 := Lib.hid (And.intro hof (And.intro hf2 (And.intro (H1.out.1.tr hc2) (And.intro (hc2.heap H1.out.2.1 (by simp)) (hc2.heap H1.out.2.2 (by simp))))))
  clear hof hf2 hc2 x0 x1
  go_wp2_with fail
  refine (idleIter_any _ _ _ _ _ _ _ _ _ _).mono ?_
  rintro e w3 ⟨rfl, hc3, hb1, hb2, hbT⟩
  have hcw := H2.out.2.2.1.tr hc3
  have hf3 := hc3.row H2.out.2.1 (fun _ _ => by simp)
  have hgives := All_gives w3 _ _ _ _ _ _ _ _ _ _ _ _ g' zs (KeepF [] w3.heap.size) (fun _ _ h => .of_chg0 h) (fun _ _ _ h k => h.trans k)
    (fun W hW => H2.out.1.ready (H.out.1.keep (hW.kp hcw hcw.size (by simp))) (hW.row hf3 (fun k hk => ⟨(row_beyond hf3 hk).2.1, by simp⟩)) (hW.old _ _ (lt_of_block hb1) (by simp) hb1) (hW.old _ _ (lt_of_block hb2) (by simp) hb2) (hW.old _ _ (lt_of_block hbT) (by simp) hbT))
  rw [H2.out.1.list] at hgives
  have hl3 := lt_of_block (hc3.heap H2.out.2.2.2.2 (by simp))
  have H3 := Lib.hid (And.intro hcw (And.intro (hc3.heap H2.out.2.2.2.1 (by simp)) (hc3.heap H2.out.2.2.2.2 (by simp))))
  clear hcw hf3 hb1 hb2 hbT hc3
  go_wp2_with fail
  refine (wpIn_wide (n := 3)).1 ?_
  obtain ⟨b1, hb1⟩ : ∃ b1, b1 = w2.heap.size + 2 := ⟨_, rfl⟩
  obtain ⟨b2, hb2⟩ : ∃ b2, b2 = w2.heap.size + 3 := ⟨_, rfl⟩
  rw [← hb1, ← hb2] at hgives ⊢
  clear hb1 hb2
  refine range_gives (n := 3) (gf := 160) (lb := #[.pointer (some ⟨b1, 0, none⟩), .pointer (some ⟨b2, 0, none⟩)]) rfl (enters_of Try.func160 (by kernel_rfl) rfl) hgives (fun pre x => Stays.pure _) ?hK (Chg.refl [] _) (fun _ => rfl)
    (fun pre W => pre = [] ∧ W.heap[w.heap.size + 1]? = some (.cells #[.int .i64 0] 3 (0, 0)) ∧ W.heap[w.heap.size + 2]? = some (.cells #[.bool false] 4 (0, 0)) ∧ Chg [] w W)
    (fun c pre W => c = .ret ∧ ∃ x, [x] <+: idleL g ∧ W.heap[w.heap.size + 1]? = some (.cells #[.int .i64 x] 3 (0, 0)) ∧ W.heap[w.heap.size + 2]? = some (.cells #[.bool true] 4 (0, 0)) ∧ Chg [] w W)
    (fun s => (Stays.pure _).and ((Stays.block _ _ _ rfl).and ((Stays.block _ _ _ rfl).and (Stays.since _ _ _ H3.out.1.size)))) (fun _ _ => (Stays.pure _).and (Stays.ex fun x => (Stays.pure _).and ((Stays.block _ _ _ rfl).and ((Stays.block _ _ _ rfl).and (Stays.since _ _ _ H3.out.1.size))))) ?h0
    (fun x a' W => a' = { tmps := #[.agg #[.slice a1 n1 c1, .slice a2 n2 c2], .pointer (some ⟨w.heap.size, 0, none⟩), .pointer (some ⟨w.heap.size + 1, 0, none⟩), .pointer (some ⟨w.heap.size + 2, 0, none⟩), .int .i64 x, .agg #[.slice a1 n1 c1, .slice a2 n2 c2], workV A1 N1 C1 A2 N2 C2 A3 zs.length C3, .func (.func 160) #[] #[.pointer (some ⟨b1, 0, none⟩), .pointer (some ⟨b2, 0, none⟩)], .int .i64 x, undef], defers := [] }) (fun x a' => Stays.pure _) ?assign ?body ?done ?stop
  case hK => exact fun pre x A A1 A2 C C' hc ht k1 ht2 => (((KeepF.of_chg0 hc).trans (.of_turn ht (Nat.le_refl _))).trans k1).trans (.of_turn ht2 (Nat.le_refl _))
  case h0 => exact ⟨rfl, H3.out.2.1, H3.out.2.2, H3.out.1⟩
  case assign =>
    rintro l pre x W K hi hx hK
    gi_wp2
    exact hK _ _ (Chg.refl _ _) rfl
  case body =>
    rintro l pre x a' W ⟨rfl, h1, h2, hch⟩ hx rfl
    have r1 := cells1 h1
    have r2 := cells1 h2
    have f1 := free_of_cells h1 0
    have f2 := free_of_cells h2 0
    have h2' := heap_set_ne (c := w.heap.size + 1) (i := 0) (u := .int .i64 x) h2 (by omega)
    have r2' := cells1 h2'
    have f2' := free_of_cells h2' 0
    have hz1 := heap_set_ne (c := w.heap.size + 2) (i := 0) (u := .bool true) (heap_setCell_same h1 0 (.int .i64 x)) (by omega)
    have hz2 := heap_setCell_same h2' 0 (.bool true)
    simp at hz1 hz2
    have hcA := ((Chg.refl [w.heap.size + 1, w.heap.size + 2] W).setCell (p := ⟨w.heap.size + 1, 0, none⟩) (.inl (by simp)) (.int .i64 x)).setCell (p := ⟨w.heap.size + 2, 0, none⟩) (.inl (by simp)) (.bool true)
    have HB := Lib.hid (And.intro hz1 (And.intro hz2 (And.intro hcA (And.intro hch hx))))
    clear hz1 hz2 hcA hch hx h2' h1 h2
    gi_wp2_with fail
    obtain ⟨hz1, hz2, hcA, hch, hx⟩ := HB.out
    refine ⟨keepsFrom_of_chg hcA (fun i hi => .inl (by simp at hi; omega)), rfl, x, by simpa using hx, hz1, hz2, hch.trans hcA (fun i hi => .inr (by simp at hi; omega))⟩
  case done =>
    rintro D xs W hD hS ⟨rfl, h1, h2, hch⟩ hd
    have r1 := cells1 h1
    have r2 := cells1 h2
    have f1 := free_of_cells h1 0
    have f2 := free_of_cells h2 0
    have h2' := heap_set_ne (c := w.heap.size + 1) (i := 0) (u := .int .i64 0) h2 (by omega)
    have r2' := cells1 h2'
    have f2' := free_of_cells h2' 0
    have hz1 := heap_set_ne (c := w.heap.size + 2) (i := 0) (u := .bool false) (heap_setCell_same h1 0 (.int .i64 0)) (by omega)
    have hz2 := heap_setCell_same h2' 0 (.bool false)
    simp at hz1 hz2
    have hcA := ((Chg.refl [w.heap.size + 1, w.heap.size + 2] W).setCell (p := ⟨w.heap.size + 1, 0, none⟩) (.inl (by simp)) (.int .i64 0)).setCell (p := ⟨w.heap.size + 2, 0, none⟩) (.inl (by simp)) (.bool false)
    have hd2 := hcA.heap hd (by simp; omega)
    have HB := Lib.hid (And.intro hz1 (And.intro hz2 (And.intro (hch.trans hcA (fun i hi => .inr (by simp at hi; omega))) (And.intro hS (And.intro hd2 hD)))))
    clear hz1 hz2 hcA hch h2' h1 h2 hS hd hd2 hD
    dsimp only
    go_wp2_with fail
    obtain ⟨hz1, hz2, hch, hS, hd, hD⟩ := HB.out
    refine leave_one (v := .tuple #[.int .i64 0, .bool false]) (B := w3.heap.size) (I := fun W' => W'.heap[w.heap.size + 1]? = some (.cells #[.int .i64 0] 3 (0, 0)) ∧ W'.heap[w.heap.size + 2]? = some (.cells #[.bool false] 4 (0, 0)) ∧ Chg [] w W') hd hD ((Stays.block _ _ _ rfl).and ((Stays.block _ _ _ rfl).and (Stays.since _ _ _ H3.out.1.size))) ⟨hz1, hz2, hch⟩ ?_
    rintro W' ⟨q1, q2, q3⟩
    have c1' := cells1 q1
    have c2' := cells1 q2
    exact ⟨by simp [results, Try.results76, go_sem, c1', c2'], by rw [← hS]; rfl, q3⟩
  case stop =>
    rintro D c pre W hD _ ⟨rfl, x, hx, h1, h2, hch⟩ hd
    have HB := Lib.hid (And.intro h1 (And.intro h2 (And.intro hch (And.intro hx (And.intro hd hD)))))
    clear h1 h2 hch hx hd hD
    gi_wp2_with fail
    obtain ⟨hz1, hz2, hch, hx, hd, hD⟩ := HB.out
    refine leave_one (v := .tuple #[.int .i64 x, .bool true]) (B := w3.heap.size) (I := fun W' => W'.heap[w.heap.size + 1]? = some (.cells #[.int .i64 x] 3 (0, 0)) ∧ W'.heap[w.heap.size + 2]? = some (.cells #[.bool true] 4 (0, 0)) ∧ Chg [] w W') hd hD ((Stays.block _ _ _ rfl).and ((Stays.block _ _ _ rfl).and (Stays.since _ _ _ H3.out.1.size))) ⟨hz1, hz2, hch⟩ ?_
    rintro W' ⟨q1, q2, q3⟩
    have c1' := cells1 q1
    have c2' := cells1 q2
    refine ⟨by simp [results, Try.results76, go_sem, c1', c2'], ?_, q3⟩
    obtain ⟨l, hl⟩ := hx
    rw [← hl]
    rfl
end
end Go.Proofs.Ytibgfgfmljhimaa

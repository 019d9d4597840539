/-
  A copy of a grammar, in memory of its own.
  Conditions: the grammar reads as data; it is small.
-/
import Derived.Test.YtibgfgfmljhimaaGCopy3
set_option linter.unusedVariables false
set_option linter.unusedSimpArgs false
namespace Go.Proofs.Ytibgfgfmljhimaa
open Go.RowKit Go.MapKept Go.Shelf

/-- A block of two slices. -/
def TwoS (w : World) (T : Nat) (ty : TypeId) : Prop := ∃ a1 n1 c1 a2 n2 c2, w.heap[T]? = some (.cells #[.slice a1 n1 c1, .slice a2 n2 c2] ty (0, 0))
theorem two_ne {w : World} {T : Nat} {ty : TypeId} (hT : TwoS w T ty) {p : Addr} {v : Value} (h : w.cell? p = some v) (hv : ∀ a n c, v ≠ .slice a n c) : p.block ≠ T := by
  intro he
  obtain ⟨a1, n1, c1, a2, n2, c2, hT⟩ := hT
  obtain ⟨b, o, s⟩ := p
  simp only at he
  subst he
  have hs : s = none := by
    cases s with
    | none => rfl
    | some _ => simp [World.cell?, hT] at h
  subst hs
  rw [cell_of_cells hT] at h
  rcases o with _ | _ | o
  · simp at h; exact hv _ _ _ h.symm
  · simp at h; exact hv _ _ _ h.symm
  · simp at h
theorem Ints.two {w w' : World} {T : Nat} {ty : TypeId} {a : Option Addr} {zs : List Int} (h : Ints w a zs) (hT : TwoS w T ty) (hc : Chg [T] w w') : Ints w' a zs := fun i hi => by
  obtain ⟨b, o, h1, h2⟩ := h i hi
  have := two_ne hT h2 (by intro a n c e; cases e)
  exact ⟨b, o, h1, hc.cell h2 (by simpa using this)⟩
theorem Rules.two {w w' : World} {T : Nat} {ty : TypeId} {a : Option Addr} {rs : List Rl} (h : Rules w a rs) (hT : TwoS w T ty) (hc : Chg [T] w w') : Rules w' a rs := fun i hi => by
  obtain ⟨b, o, h1, h2, h3⟩ := h i hi
  have := two_ne hT h2 (by intro a n c e; cases e)
  exact ⟨b, o, h1, hc.cell h2 (by simpa using this), hc.cell h3 (by simpa using this)⟩
theorem Nodes.two {w w' : World} {T : Nat} {ty : TypeId} {a : Option Addr} {ns : List Nd} (h : Nodes w a ns) (hT : TwoS w T ty) (hc : Chg [T] w w') : Nodes w' a ns := fun i hi => by
  obtain ⟨b, o, ak, nk, ck, h1, h2⟩ := h i hi
  have hb := two_ne hT h2.k (by intro a n c e; cases e)
  have key : ∀ {q : Nat} {v : Value}, w.cell? ⟨b, q, none⟩ = some v → w'.cell? ⟨b, q, none⟩ = some v := fun h => hc.cell h (by simpa using hb)
  exact ⟨b, o, ak, nk, ck, h1, ⟨key h2.k, key h2.c0, key h2.c1, key h2.c2, key h2.c3, key h2.s, key h2.r, key h2.l, key h2.kids, h2.len, h2.le, h2.cap, h2.ints.two hT hc⟩⟩

def NewGram (w : World) (g : Gr) (e : Ending) (w' : World) : Prop :=
  ∃ b1 d1 b2 d2, e = .returned (.agg #[.slice b1 g.rules.length d1, .slice b2 g.nodes.length d2]) ∧ GramAt w' b1 g.rules.length d1 b2 g.nodes.length d2 g ∧ Chg [] w w'

set_option maxRecDepth 100000 in
set_option maxHeartbeats 2000000 in
theorem CopyGrammar_any (w : World) (a1 : Option Addr) (n1 c1 : Nat) (a2 : Option Addr) (n2 c2 : Nat) (g : Gr) (hg : GramAt w a1 n1 c1 a2 n2 c2 g) (hs1 : n1 ≤ 300) (hs2 : n2 ≤ 300) (hk : ∀ x ∈ g.nodes, x.kids.length ≤ 300) :
    Calls Try.prog 20 #[.agg #[.slice a1 n1 c1, .slice a2 n2 c2]] w (NewGram w g) := by
  have HG := Lib.hid (And.intro hg (And.intro hs1 (And.intro hs2 hk)))
  clear hg hs1 hs2 hk
  go_enter Try.func20, Try.ntmps20
  go_wp2_with fail
  refine (CopyRules_any _ _ _ _ g.rules HG.out.1.e1 HG.out.2.1 (HG.out.1.rules.keep (((Chg.refl [] w).alloc _).alloc _).kp)).mono ?_
  rintro e w3 ⟨b1, d1, rfl, hR, hle1, hcap1, hc3⟩
  have hb0 := hc3.heap (heap_alloc_lt (heap_alloc_same _ _) _) (by simp)
  have hb1 := hc3.heap (heap_alloc_same _ _) (by simp)
  have hl := hc3.size
  simp only [World.size_alloc] at hb1 hl
  have hcw := (((Chg.refl [] w).alloc _).alloc _).tr0 hc3
  have H3 := Lib.hid (And.intro hR (And.intro hle1 (And.intro hcap1 (And.intro hcw (And.intro hb0 hb1)))))
  clear hR hle1 hcap1 hcw hb0 hb1 hc3
  obtain ⟨x0, x1⟩ := cells2 H3.out.2.2.2.2.1
  have f0 := free_of_cells H3.out.2.2.2.2.1 0
  go_wp2_with fail
  clear x0 x1 f0
  have hs0 := heap_setCell_same H3.out.2.2.2.2.1 0 (.slice b1 g.rules.length d1)
  have hs1 := heap_set_ne (c := w.heap.size) (i := 0) (u := .slice b1 g.rules.length d1) H3.out.2.2.2.2.2 (by omega)
  have hcs := (Chg.refl [w.heap.size] w3).setCell (p := ⟨w.heap.size, 0, none⟩) (.inl (by simp)) (.slice b1 g.rules.length d1)
  have hR4 := H3.out.1.two ⟨_, _, _, _, _, _, H3.out.2.2.2.2.1⟩ hcs
  have hN4 := (HG.out.1.nodes.keep H3.out.2.2.2.1.kp).two ⟨_, _, _, _, _, _, H3.out.2.2.2.2.1⟩ hcs
  have hc4 := H3.out.2.2.2.1.trans hcs (fun j hj => .inr (by simp at hj; omega))
  have hsz := hcs.size
  obtain ⟨w4, e4⟩ : ∃ w4, w4 = w3.setCell ⟨w.heap.size, 0, none⟩ (.slice b1 g.rules.length d1) := ⟨_, rfl⟩
  rw [← e4] at hs0 hs1 hcs hR4 hN4 hc4 hsz ⊢
  clear e4 hcs
  simp at hs0
  refine (CopyNodes_any _ _ _ _ g.nodes HG.out.1.e2 HG.out.2.2.1 hN4 HG.out.2.2.2).mono ?_
  rintro e w5 ⟨b2, d2, rfl, hN, hle2, hcap2, hc5⟩
  have hb0 := hc5.heap hs0 (by simp)
  have hb1 := hc5.heap hs1 (by simp)
  have H5 := Lib.hid (And.intro hN (And.intro hle2 (And.intro hcap2 (And.intro (hc4.tr0 hc5) (And.intro hb0 (And.intro hb1 (hR4.keep hc5.kp)))))))
  clear hN hle2 hcap2 hc5 hb0 hb1 hs0 hs1 hR4 hN4 hc4
  obtain ⟨x0, x1⟩ := cells2 H5.out.2.2.2.2.1
  have f1 := free_of_cells H5.out.2.2.2.2.1 1
  obtain ⟨y0, y1⟩ := cells2 H5.out.2.2.2.2.2.1
  have g0 := free_of_cells H5.out.2.2.2.2.2.1 0
  have g1 := free_of_cells H5.out.2.2.2.2.2.1 1
  go_wp2_with fail
  have hc6 := (Chg.refl [w.heap.size] w5).setCell (p := ⟨w.heap.size, 1, none⟩) (.inl (by simp)) (.slice b2 g.nodes.length d2)
  have hz0 := heap_set_ne (c := w.heap.size) (i := 1) (u := .slice b2 g.nodes.length d2) H5.out.2.2.2.2.2.1 (by omega)
  have hR6 := H5.out.2.2.2.2.2.2.two ⟨_, _, _, _, _, _, H5.out.2.2.2.2.1⟩ hc6
  have hN6 := H5.out.1.two ⟨_, _, _, _, _, _, H5.out.2.2.2.2.1⟩ hc6
  have hsz6 := hc6.size
  have hsz5 := H5.out.2.2.2.1.size
  have hw6 := H5.out.2.2.2.1.trans hc6 (fun j hj => .inr (by simp at hj; omega))
  obtain ⟨w6, e6⟩ : ∃ w6, w6 = w5.setCell ⟨w.heap.size, 1, none⟩ (.slice b2 g.nodes.length d2) := ⟨_, rfl⟩
  rw [← e6] at hc6 hz0 hR6 hN6 hsz6 hw6 ⊢
  clear e6 hc6 x0 x1 y0 y1 f1 g0 g1
  have hc7 := ((Chg.refl [w.heap.size + 1] w6).setCell (p := ⟨w.heap.size + 1, 0, none⟩) (.inl (by simp)) (.slice b1 g.rules.length d1)).setCell (p := ⟨w.heap.size + 1, 1, none⟩) (.inl (by simp)) (.slice b2 g.nodes.length d2)
  have hz1 := heap_setCell_same (heap_setCell_same hz0 0 (.slice b1 g.rules.length d1)) 1 (.slice b2 g.nodes.length d2)
  have hR7 := hR6.two ⟨_, _, _, _, _, _, hz0⟩ hc7
  have hN7 := hN6.two ⟨_, _, _, _, _, _, hz0⟩ hc7
  have hw7 := hw6.trans hc7 (fun j hj => .inr (by simp at hj; omega))
  obtain ⟨w7, e7⟩ : ∃ w7, w7 = (w6.setCell ⟨w.heap.size + 1, 0, none⟩ (.slice b1 g.rules.length d1)).setCell ⟨w.heap.size + 1, 1, none⟩ (.slice b2 g.nodes.length d2) := ⟨_, rfl⟩
  rw [← e7] at hz1 hR7 hN7 hw7 ⊢
  clear e7 hc7 hz0
  simp at hz1
  obtain ⟨c0, c1'⟩ := cells2 hz1
  have hTl := lt_of_block hz1
  refine bodyPost_ret (v := .agg #[.slice b1 g.rules.length d1, .slice b2 g.nodes.length d2]) (by simp [results, Try.results20, go_sem, c0, c1', hTl]) rfl ?_
  exact ⟨b1, d1, b2, d2, rfl, ⟨rfl, H3.out.2.1, H3.out.2.2.1, hR7, rfl, H5.out.2.1, H5.out.2.2.1, hN7, HG.out.1.wf⟩, hw7⟩
end Go.Proofs.Ytibgfgfmljhimaa

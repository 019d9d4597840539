/-
  Package well: whether a grammar is well; a grammar mended.
  Conditions: the grammar reads as data, within the reach; for the mended one it is small.
-/
import Derived.Test.YtibgfgfmljhimaaWeE
import Derived.Test.YtibgfgfmljhimaaGDup
set_option linter.unusedVariables false
set_option linter.unusedSimpArgs false
set_option linter.unnecessarySimpa false
namespace Go.Proofs.Ytibgfgfmljhimaa
open Go.RowKit Go.MapKept Go.Shelf

theorem right_posW {g : Gr} (h : rightB g = true) : 0 < g.nodes.length := by
  obtain ⟨q, _, hq⟩ := right_body h (k := 0) (by have := (right_sizes h).1; omega)
  omega
def wellB (g : Gr) : Bool := rightB g && (idleL g).isEmpty

set_option maxRecDepth 100000 in
set_option maxHeartbeats 1000000 in
theorem wellWell_any (w : World) (a1 : Option Addr) (n1 c1 : Nat) (a2 : Option Addr) (n2 c2 : Nat) (g : Gr) (hg : GramAt w a1 n1 c1 a2 n2 c2 g) (hre : Reach g) :
    Calls Try.prog 73 #[.agg #[.slice a1 n1 c1, .slice a2 n2 c2]] w fun e w' => e = .returned (.bool (wellB g)) ∧ Chg [] w w' := by
  obtain ⟨r, hr⟩ : ∃ r, r = rightB g := ⟨_, rfl⟩
  obtain ⟨s, hs⟩ : ∃ s, s = (idleL g).isEmpty := ⟨_, rfl⟩
  obtain ⟨v, hv⟩ : ∃ v, v = (idleL g).headD 0 := ⟨_, rfl⟩
  rw [wellB, ← hr, ← hs]
  have H := Lib.hid (And.intro hg (And.intro hre (And.intro hr (And.intro hs hv))))
  clear hg hre hr hs hv
  go_enter Try.func73, Try.ntmps73
  have hc1 := (Chg.refl [] w).alloc (.cells #[.slice a1 n1 c1, .slice a2 n2 c2] 25)
  obtain ⟨x0, x1⟩ := cells2 (heap_alloc_same w (.cells #[.slice a1 n1 c1, .slice a2 n2 c2] 25))
  have H1 := Lib.hid (And.intro hc1 (heap_alloc_same w (.cells #[.slice a1 n1 c1, .slice a2 n2 c2] 25)))
  clear hc1
  go_wp2_with fail
  refine (wellFirst_any _ a1 n1 c1 a2 n2 c2 g (H.out.1.keep H1.out.1.kp) H.out.2.1).mono ?_
  rintro e w2 ⟨rfl, hc2⟩
  unfold firstV
  rw [← H.out.2.2.2.1, ← H.out.2.2.2.2]
  have H2 := Lib.hid (And.intro (H1.out.1.tr hc2) (hc2.heap H1.out.2 (by simp)))
  clear hc2 x0 x1
  obtain ⟨x0, x1⟩ := cells2 H2.out.2
  cases s with
  | false =>
    go_wp2_with fail
    go_ret
    exact ⟨by simp, H2.out.1⟩
  | true =>
    have hR := Right_any w2 a1 n1 c1 a2 n2 c2 g (H.out.1.keep H2.out.1.kp)
    rw [← H.out.2.2.1] at hR
    go_wp2_with fail
    refine hR.mono ?_
    clear hR
    rintro e w3 ⟨rfl, hc3⟩
    have H3 := Lib.hid (H2.out.1.tr hc3)
    clear hc3 x0 x1
    go_wp2_with fail
    go_ret
    exact ⟨by simp, H3.out⟩

/-! ### A kind is written -/
def Nd.setK (x : Nd) (k : Int) : Nd := { x with k := k }
def Cp.setK (p : Cp) (k : Int) : Cp := (p.1.setK k, p.2.1, p.2.2)
theorem setK_own (p : Cp) (k : Int) : (p.setK k).own = p.own := rfl
theorem setK_cells (p : Cp) (k : Int) : (p.setK k).cells = p.cells.set 0 (.int .i64 k) := rfl
theorem nodesCells_setK : ∀ (L : List Cp) (i : Nat) (hi : i < L.length) (k : Int), (nodesCells L).set (i * 9) (.int .i64 k) = nodesCells (L.set i (L[i].setK k))
  | p :: L, 0, _, k => by
    simp only [nodesCells, List.flatMap_cons, List.set_cons_zero, List.getElem_cons_zero, Nat.zero_mul]
    rw [List.set_append_left _ _ (by rw [cp_len]; omega), setK_cells]
  | p :: L, i + 1, hi, k => by
    have ih := nodesCells_setK L i (by simpa using hi) k
    simp only [nodesCells, List.flatMap_cons, List.set_cons_succ, List.getElem_cons_succ] at ih ⊢
    rw [List.set_append_right _ _ (by rw [cp_len]; omega), cp_len, show (i + 1) * 9 - 9 = i * 9 by omega, ih]
theorem OwnG.kindPut {B : Nat} {w : World} {b1 : Option Addr} {d1 : Nat} {b2 : Option Addr} {d2 : Nat} {L : List Cp} {rs : List Rl} (h : OwnG B w b1 d1 b2 d2 L rs) {i : Nat} (hi : i < L.length) {G : Nat} (hG : b2 = some ⟨G, 0, none⟩) :
    B ≤ G ∧ w.cell? ⟨G, i * 9, none⟩ = some (.int .i64 L[i].1.k) ∧ w.frozen? ⟨G, i * 9, none⟩ = false ∧ (∃ cur, w.heap[G]? = some (.cells cur 32 (0, 0))) ∧
      ∀ v, OwnG B (w.setCell ⟨G, i * 9, none⟩ (.int .i64 v)) b1 d1 b2 d2 (L.set i (L[i].setK v)) rs := by
  subst hG
  rcases h.nodes.2 with ⟨h0, h1⟩ | ⟨g, cap, cur, h0, hb, hg, hn, hcm, hcs, ht⟩
  · cases h0
  cases h0
  have hlen : (nodesCells L).length = L.length * 9 := by
    have : ∀ M : List Cp, (nodesCells M).length = M.length * 9 := fun M => by
      induction M with
      | nil => rfl
      | cons p M ih => rw [nodesCells, List.flatMap_cons, List.length_append, cp_len]; rw [nodesCells] at ih; rw [ih, List.length_cons]; omega
    exact this L
  have hcell : w.cell? ⟨G, i * 9, none⟩ = some (.int .i64 L[i].1.k) := by
    rw [cell_of_cells hg]
    have h1 := flat_get Cp.cells 9 cp_len L i 0 (by omega)
    rw [List.getElem?_eq_getElem hi] at h1
    simp only [Nat.add_zero, Option.bind_some] at h1
    have h2 : (nodesCells L)[i * 9]? = some (.int .i64 L[i].1.k) := h1
    rw [← ht, List.getElem?_take] at h2
    split at h2
    · simpa using h2
    · cases h2
  refine ⟨hb, hcell, free_of_cells hg _, ⟨_, hg⟩, fun v => ?_⟩
  have hc := (Chg.refl [G] w).setCell (p := ⟨G, i * 9, none⟩) (.inl (by simp)) (.int .i64 v)
  have hN : ∀ e, 32 ≠ e → ∀ k ∈ [G], NotRow w e k := fun e he k hk => by simp only [List.mem_singleton] at hk; subst hk; exact .of_cells hg he
  refine ⟨hc.rowOf h.rules (hN _ (by decide)), ?_, ?_, ?_⟩
  · rw [List.length_set, ← nodesCells_setK L i hi v]
    refine ⟨by rw [List.length_set]; exact h.nodes.1, .inr ⟨G, d2, _, rfl, hb, heap_setCell_same hg _ _, hn, hcm, by simpa using hcs, ?_⟩⟩
    rw [Array.toList_setIfInBounds, List.take_set, ht]
  · intro p hp
    obtain ⟨j, hj, rfl⟩ := List.mem_iff_getElem.1 hp
    have hj' : j < L.length := by simpa using hj
    rw [List.getElem_set]
    split
    · rename_i hij
      subst hij
      exact (show FreshInts B _ L[i].2.1 L[i].2.2 L[i].1.kids from hc.rowOf (h.kids _ (List.getElem_mem hi)) (hN _ (by decide)))
    · exact hc.rowOf (h.kids _ (List.getElem_mem hj')) (hN _ (by decide))
  · rw [List.pairwise_iff_getElem]
    intro a b ha hb hab x y hx hy
    have ha' : a < L.length := by simpa using ha
    have hb' : b < L.length := by simpa using hb
    have key : ∀ c (hc : c < L.length) (hc' : c < (L.set i (L[i].setK v)).length), ((L.set i (L[i].setK v))[c]).own = L[c].own := by
      intro c hc hc'
      rw [List.getElem_set]
      split
      · rename_i hic; subst hic; exact setK_own _ _
      · rfl
    rw [key a ha' ha] at hx
    rw [key b hb' hb] at hy
    exact List.pairwise_iff_getElem.1 h.apart a b ha' hb' hab x y hx hy

/-! ### Mended -/
def mendL (ns : List Nd) (l : List Int) : List Nd := ns.mapIdx fun j x => if (j : Int) ∈ l then x.setK 10 else x
def mendG (g : Gr) : Gr := ⟨g.rules, mendL g.nodes (idleL g)⟩
theorem mendL_len (ns : List Nd) (l : List Int) : (mendL ns l).length = ns.length := by simp [mendL]
theorem mendL_nil (ns : List Nd) : mendL ns [] = ns := by
  refine List.ext_getElem (by simp [mendL]) (fun j h1 h2 => ?_)
  simp [mendL]
theorem mendL_at {ns : List Nd} {l : List Int} {j : Nat} (hj : j < ns.length) : (mendL ns l)[j]'(by rw [mendL_len]; exact hj) = if (j : Int) ∈ l then ns[j].setK 10 else ns[j] := by simp [mendL]
theorem mendL_snoc {ns : List Nd} {l : List Int} {q : Nat} (hq : q < ns.length) : (mendL ns l).set q (((mendL ns l)[q]'(by rw [mendL_len]; exact hq)).setK 10) = mendL ns (l ++ [(q : Int)]) := by
  refine List.ext_getElem (by simp [mendL]) (fun j h1 h2 => ?_)
  have hj : j < ns.length := by rw [mendL_len] at h2; exact h2
  rw [List.getElem_set, mendL_at hj, mendL_at hj, mendL_at hq]
  by_cases e : q = j
  · subst e
    rw [if_pos rfl, if_pos (show (q : Int) ∈ l ++ [(q : Int)] by simp)]
    split <;> rfl
  · rw [if_neg e]
    have : ((j : Int) ∈ l ++ [(q : Int)]) ↔ (j : Int) ∈ l := by
      rw [List.mem_append, List.mem_singleton]
      constructor
      · rintro (h | h)
        · exact h
        · omega
      · exact .inl
    simp only [this]
end Go.Proofs.Ytibgfgfmljhimaa

/-
  Two copies of a grammar made in one statement: what is known in whatever order it is carried out.
  Conditions: none.
-/
import Derived.Test.YtibgfgfmljhimaaGDup
import Derived.Test.YtibgfgfmljhimaaGAny
set_option linter.unusedVariables false
set_option linter.unusedSimpArgs false
namespace Go.Proofs.Ytibgfgfmljhimaa
open Go.RowKit Go.MapKept Go.Shelf

/-- A copy, all of it between lo and hi. -/
structure DupIn (lo hi : Nat) (w : World) (g : Gr) (v : Value) (b1 : Option Addr) (d1 : Nat) (b2 : Option Addr) (d2 : Nat) (L : List Cp) : Prop where
  val : v = .agg #[.slice b1 g.rules.length d1, .slice b2 g.nodes.length d2]
  nds : L.map (·.1) = g.nodes
  own : OwnG lo w b1 d1 b2 d2 L g.rules
  hi1 : ∀ k, (Value.slice b1 g.rules.length d1).ownBlock = some k → k < hi
  hi2 : ∀ k, (Value.slice b2 L.length d2).ownBlock = some k → k < hi
  hi3 : ∀ p ∈ L, ∀ k, p.own = some k → k < hi
def IsDup (lo hi : Nat) (w : World) (g : Gr) (v : Value) : Prop := ∃ b1 d1 b2 d2 L, DupIn lo hi w g v b1 d1 b2 d2 L
theorem IsDup.of {w w' : World} {g : Gr} {v : Value} (h : DupG w g (.returned v) w') : IsDup w.heap.size w'.heap.size w' g v := by
  obtain ⟨b1, d1, b2, d2, L, hv, hL, ho, _⟩ := h
  cases hv
  exact ⟨b1, d1, b2, d2, L, rfl, hL, ho, fun k hk => (row_beyond ho.rules hk).2.1, fun k hk => (row_beyond ho.nodes hk).2.1, fun p hp k hk => (row_beyond (ho.kids p hp) hk).2.1⟩
theorem IsDup.chg {lo hi : Nat} {w w' : World} {g : Gr} {v : Value} {S : List Nat} (h : IsDup lo hi w g v) (hc : Chg S w w') (hS : ∀ k ∈ S, NotRow w 46 k ∧ NotRow w 32 k ∧ NotRow w 3 k) : IsDup lo hi w' g v := by
  obtain ⟨b1, d1, b2, d2, L, h1, h2, h3, h4, h5, h6⟩ := h
  exact ⟨b1, d1, b2, d2, L, h1, h2, h3.chg hc hS, h4, h5, h6⟩
theorem IsDup.chg0 {lo hi : Nat} {w w' : World} {g : Gr} {v : Value} (h : IsDup lo hi w g v) (hc : Chg [] w w') : IsDup lo hi w' g v := h.chg hc (by simp)
theorem TwoS.chg0 {w w' : World} {T : Nat} {ty : TypeId} (h : TwoS w T ty) (hc : Chg [] w w') : TwoS w' T ty := by
  obtain ⟨a1, n1, c1, a2, n2, c2, h⟩ := h
  exact ⟨a1, n1, c1, a2, n2, c2, hc.heap h (by simp)⟩

def upd (l : Nat → Bool) (i : Nat) : Nat → Bool := fun j => if j = i then true else l j
/-- What is known while the statement is carried out. -/
structure TwoI (wr : World) (g : Gr) (A : Value) (l : Nat → Bool) (u5 u6 u19 u20 u21 u22 : Value) (w : World) : Prop where
  chg : Chg [] wr w
  f0 : l 0 = true → u19 = A
  f2 : l 2 = true → u21 = A
  f4 : l 4 = true → ∃ B, u5 = .pointer (some ⟨B, 0, none⟩) ∧ wr.heap.size ≤ B ∧ TwoS w B 25
  f5 : l 5 = true → ∃ B, u6 = .pointer (some ⟨B, 0, none⟩) ∧ wr.heap.size ≤ B ∧ TwoS w B 25
  ne : l 4 = true → l 5 = true → u5 ≠ u6
  c : l 1 = true → ∃ M, IsDup wr.heap.size M w g u20 ∧ M ≤ w.heap.size ∧ wr.heap.size ≤ M ∧ (l 3 = true → ∃ M', IsDup M M' w g u22 ∧ M' ≤ w.heap.size)
  d3 : l 3 = true → l 1 = true
  d6 : l 6 = true → l 1 = true ∧ l 4 = true
  d7 : l 7 = true → l 3 = true ∧ l 5 = true
  s6 : l 6 = true → ∀ B, u5 = .pointer (some ⟨B, 0, none⟩) → ∃ cs, w.heap[B]? = some (.cells cs 25 (0, 0)) ∧ u20 = .agg cs
  s7 : l 7 = true → ∀ B, u6 = .pointer (some ⟨B, 0, none⟩) → ∃ cs, w.heap[B]? = some (.cells cs 25 (0, 0)) ∧ u22 = .agg cs

section
variable {wr : World} {g : Gr} {A : Value} {l : Nat → Bool} {u5 u6 u19 u20 u21 u22 : Value} {w : World}
theorem TwoI.start (wr : World) (g : Gr) (A u5 u6 u19 u20 u21 u22 : Value) : TwoI wr g A (fun _ => false) u5 u6 u19 u20 u21 u22 wr.drew :=
  ⟨(Chg.refl [] wr).drew, nofun, nofun, nofun, nofun, nofun, nofun, nofun, nofun, nofun, nofun, nofun⟩
theorem TwoI.step0 (h : TwoI wr g A l u5 u6 u19 u20 u21 u22 w) : TwoI wr g A (upd l 0) u5 u6 A u20 u21 u22 w :=
  ⟨h.chg, fun _ => rfl, h.f2, h.f4, h.f5, h.ne, h.c, h.d3, h.d6, h.d7, h.s6, h.s7⟩
theorem TwoI.step2 (h : TwoI wr g A l u5 u6 u19 u20 u21 u22 w) : TwoI wr g A (upd l 2) u5 u6 u19 u20 A u22 w :=
  ⟨h.chg, h.f0, fun _ => rfl, h.f4, h.f5, h.ne, h.c, h.d3, h.d6, h.d7, h.s6, h.s7⟩
theorem TwoI.world {w' : World} (h : TwoI wr g A l u5 u6 u19 u20 u21 u22 w) (hc : Chg [] w w') : TwoI wr g A l u5 u6 u19 u20 u21 u22 w' := by
  refine ⟨h.chg.tr hc, h.f0, h.f2, fun hl => ?_, fun hl => ?_, h.ne, fun hl => ?_, h.d3, h.d6, h.d7, fun hl B hB => ?_, fun hl B hB => ?_⟩
  · obtain ⟨B, h1, h2, h3⟩ := h.f4 hl; exact ⟨B, h1, h2, h3.chg0 hc⟩
  · obtain ⟨B, h1, h2, h3⟩ := h.f5 hl; exact ⟨B, h1, h2, h3.chg0 hc⟩
  · obtain ⟨M, h1, h2, h2', h3⟩ := h.c hl
    refine ⟨M, h1.chg0 hc, Nat.le_trans h2 hc.size, h2', fun h4 => ?_⟩
    obtain ⟨M', h5, h6⟩ := h3 h4
    exact ⟨M', h5.chg0 hc, Nat.le_trans h6 hc.size⟩
  · obtain ⟨cs, h1, h2⟩ := h.s6 hl B hB; exact ⟨cs, hc.heap h1 (by simp), h2⟩
  · obtain ⟨cs, h1, h2⟩ := h.s7 hl B hB; exact ⟨cs, hc.heap h1 (by simp), h2⟩
theorem TwoI.step1 {w' : World} {v : Value} (h : TwoI wr g A l u5 u6 u19 u20 u21 u22 w) (h1 : l 1 = false) (hc : Chg [] w w') (hv : DupG w g (.returned v) w') : TwoI wr g A (upd l 1) u5 u6 u19 v u21 u22 w' := by
  have hw := h.world hc
  have n3 : l 3 = true → False := fun e => by have := h.d3 e; rw [h1] at this; cases this
  have n6 : l 6 = true → False := fun e => by have := (h.d6 e).1; rw [h1] at this; cases this
  have hs := h.chg.size
  have hs2 := hc.size
  exact ⟨hw.chg, hw.f0, hw.f2, hw.f4, hw.f5, hw.ne, fun _ => ⟨w'.heap.size, by obtain ⟨b1, d1, b2, d2, L, q⟩ := IsDup.of hv; exact ⟨b1, d1, b2, d2, L, q.val, q.nds, q.own.below hs, q.hi1, q.hi2, q.hi3⟩, Nat.le_refl _, by omega, fun e => (n3 e).elim⟩,
    fun _ => rfl, fun e => (n6 e).elim, hw.d7, fun e => (n6 e).elim, hw.s7⟩
theorem TwoI.step3 {w' : World} {v : Value} (h : TwoI wr g A l u5 u6 u19 u20 u21 u22 w) (h1 : l 1 = true) (h3 : l 3 = false) (hc : Chg [] w w') (hv : DupG w g (.returned v) w') : TwoI wr g A (upd l 3) u5 u6 u19 u20 u21 v w' := by
  have hw := h.world hc
  have n7 : l 7 = true → False := fun e => by have := (h.d7 e).1; rw [h3] at this; cases this
  obtain ⟨M, q1, q2, q2', _⟩ := h.c h1
  refine ⟨hw.chg, hw.f0, hw.f2, hw.f4, hw.f5, hw.ne, fun _ => ⟨M, q1.chg0 hc, Nat.le_trans q2 hc.size, q2', fun _ => ⟨w'.heap.size, ?_, Nat.le_refl _⟩⟩, fun _ => h1, hw.d6, fun e => (n7 e).elim, hw.s6, fun e => (n7 e).elim⟩
  obtain ⟨b1, d1, b2, d2, L, q⟩ := IsDup.of hv
  exact ⟨b1, d1, b2, d2, L, q.val, q.nds, q.own.below q2, q.hi1, q.hi2, q.hi3⟩
theorem TwoI.step4 (h : TwoI wr g A l u5 u6 u19 u20 u21 u22 w) (h4 : l 4 = false) : TwoI wr g A (upd l 4) (.pointer (some ⟨w.heap.size, 0, none⟩)) u6 u19 u20 u21 u22 (w.alloc (.cells #[.slice none 0 0, .slice none 0 0] 25)) := by
  have hw := h.world ((Chg.refl [] w).alloc (.cells #[.slice none 0 0, .slice none 0 0] 25))
  have n6 : l 6 = true → False := fun e => by have := (h.d6 e).2; rw [h4] at this; cases this
  refine ⟨hw.chg, hw.f0, hw.f2, fun _ => ⟨_, rfl, h.chg.size, ⟨_, _, _, _, _, _, heap_alloc_same _ _⟩⟩, hw.f5, fun _ e he => ?_, hw.c, hw.d3, fun e => (n6 e).elim, hw.d7, fun e => (n6 e).elim, hw.s7⟩
  obtain ⟨B, h1, _, _, _, _, _, _, _, h2⟩ := h.f5 e
  have := lt_of_block h2
  rw [h1] at he
  cases he
  omega
theorem TwoI.step5 (h : TwoI wr g A l u5 u6 u19 u20 u21 u22 w) (h5 : l 5 = false) : TwoI wr g A (upd l 5) u5 (.pointer (some ⟨w.heap.size, 0, none⟩)) u19 u20 u21 u22 (w.alloc (.cells #[.slice none 0 0, .slice none 0 0] 25)) := by
  have hw := h.world ((Chg.refl [] w).alloc (.cells #[.slice none 0 0, .slice none 0 0] 25))
  have n7 : l 7 = true → False := fun e => by have := (h.d7 e).2; rw [h5] at this; cases this
  refine ⟨hw.chg, hw.f0, hw.f2, hw.f4, fun _ => ⟨_, rfl, h.chg.size, ⟨_, _, _, _, _, _, heap_alloc_same _ _⟩⟩, fun e _ he => ?_, hw.c, hw.d3, hw.d6, fun e => (n7 e).elim, hw.s6, fun e => (n7 e).elim⟩
  obtain ⟨B, h1, _, _, _, _, _, _, _, h2⟩ := h.f4 e
  have := lt_of_block h2
  rw [h1] at he
  cases he
  omega
/-- A store into one of the two variables. -/
theorem TwoI.put (h : TwoI wr g A l u5 u6 u19 u20 u21 u22 w) {B : Nat} (hB : wr.heap.size ≤ B) (hT : TwoS w B 25) (s1 s2 : Value) :
    let w' := (w.setCell ⟨B, 0, none⟩ s1).setCell ⟨B, 1, none⟩ s2
    Chg [B] w w' ∧ Chg [] wr w' ∧ w'.heap[B]? = some (.cells #[s1, s2] 25 (0, 0)) ∧ (∀ {lo hi v}, IsDup lo hi w g v → IsDup lo hi w' g v) := by
  obtain ⟨a1, n1, c1, a2, n2, c2, hT⟩ := hT
  have hc := ((Chg.refl [B] w).setCell (p := ⟨B, 0, none⟩) (.inl (by simp)) s1).setCell (p := ⟨B, 1, none⟩) (.inl (by simp)) s2
  have hz := heap_setCell_same (heap_setCell_same hT 0 s1) 1 s2
  simp at hz
  refine ⟨hc, h.chg.trans hc (fun j hj => .inr (by simp at hj; omega)), hz, fun q => q.chg hc (fun k hk => ?_)⟩
  simp only [List.mem_singleton] at hk
  subst hk
  exact ⟨.of_cells hT (by decide), .of_cells hT (by decide), .of_cells hT (by decide)⟩
theorem TwoI.step6 {B : Nat} {s1 s2 : Value} (h : TwoI wr g A l u5 u6 u19 u20 u21 u22 w) (h1 : l 1 = true) (h4 : l 4 = true) (h5 : u5 = .pointer (some ⟨B, 0, none⟩)) (hs1 : ∃ a n c, s1 = .slice a n c) (hs2 : ∃ a n c, s2 = .slice a n c) (hv : u20 = .agg #[s1, s2]) :
    TwoI wr g A (upd l 6) u5 u6 u19 u20 u21 u22 ((w.setCell ⟨B, 0, none⟩ s1).setCell ⟨B, 1, none⟩ s2) := by
  obtain ⟨B', e1, hB, hT⟩ := h.f4 h4
  rw [h5] at e1
  cases e1
  obtain ⟨hc, hc0, hz, hd⟩ := h.put hB hT s1 s2
  obtain ⟨x1, y1, z1, rfl⟩ := hs1
  obtain ⟨x2, y2, z2, rfl⟩ := hs2
  refine ⟨hc0, h.f0, h.f2, fun _ => ⟨B, h5, hB, ⟨_, _, _, _, _, _, hz⟩⟩, fun e => ?_, h.ne, fun e => ?_, h.d3, fun _ => ⟨h1, h4⟩, h.d7, fun _ B2 hB2 => ?_, fun e B2 hB2 => ?_⟩
  · obtain ⟨B2, q1, q2, a1, n1, c1, a2, n2, c2, q3⟩ := h.f5 e
    have hne := h.ne h4 e
    rw [h5, q1] at hne
    exact ⟨B2, q1, q2, a1, n1, c1, a2, n2, c2, hc.heap q3 (by intro hm; simp at hm; subst hm; exact hne rfl)⟩
  · obtain ⟨M, q1, q2, q2', q3⟩ := h.c e
    refine ⟨M, hd q1, Nat.le_trans q2 hc.size, q2', fun e3 => ?_⟩
    obtain ⟨M', q4, q5⟩ := q3 e3
    exact ⟨M', hd q4, Nat.le_trans q5 hc.size⟩
  · rw [h5] at hB2; cases hB2
    exact ⟨_, hz, hv⟩
  · obtain ⟨cs, q1, q2⟩ := h.s7 e B2 hB2
    have hne := h.ne h4 (h.d7 e).2
    rw [h5, hB2] at hne
    exact ⟨cs, hc.heap q1 (by intro hm; simp at hm; subst hm; exact hne rfl), q2⟩
theorem TwoI.step7 {B : Nat} {s1 s2 : Value} (h : TwoI wr g A l u5 u6 u19 u20 u21 u22 w) (h3 : l 3 = true) (h5 : l 5 = true) (h6 : u6 = .pointer (some ⟨B, 0, none⟩)) (hs1 : ∃ a n c, s1 = .slice a n c) (hs2 : ∃ a n c, s2 = .slice a n c) (hv : u22 = .agg #[s1, s2]) :
    TwoI wr g A (upd l 7) u5 u6 u19 u20 u21 u22 ((w.setCell ⟨B, 0, none⟩ s1).setCell ⟨B, 1, none⟩ s2) := by
  obtain ⟨B', e1, hB, hT⟩ := h.f5 h5
  rw [h6] at e1
  cases e1
  obtain ⟨hc, hc0, hz, hd⟩ := h.put hB hT s1 s2
  obtain ⟨x1, y1, z1, rfl⟩ := hs1
  obtain ⟨x2, y2, z2, rfl⟩ := hs2
  refine ⟨hc0, h.f0, h.f2, fun e => ?_, fun _ => ⟨B, h6, hB, ⟨_, _, _, _, _, _, hz⟩⟩, h.ne, fun e => ?_, h.d3, h.d6, fun _ => ⟨h3, h5⟩, fun e B2 hB2 => ?_, fun _ B2 hB2 => ?_⟩
  · obtain ⟨B2, q1, q2, a1, n1, c1, a2, n2, c2, q3⟩ := h.f4 e
    have hne := h.ne e h5
    rw [h6, q1] at hne
    exact ⟨B2, q1, q2, a1, n1, c1, a2, n2, c2, hc.heap q3 (by intro hm; simp at hm; subst hm; exact hne rfl)⟩
  · obtain ⟨M, q1, q2, q2', q3⟩ := h.c e
    refine ⟨M, hd q1, Nat.le_trans q2 hc.size, q2', fun e3 => ?_⟩
    obtain ⟨M', q4, q5⟩ := q3 e3
    exact ⟨M', hd q4, Nat.le_trans q5 hc.size⟩
  · obtain ⟨cs, q1, q2⟩ := h.s6 e B2 hB2
    have hne := h.ne (h.d6 e).2 h5
    rw [h6, hB2] at hne
    exact ⟨cs, hc.heap q1 (by intro hm; simp at hm; subst hm; exact hne rfl), q2⟩
  · rw [h6] at hB2; cases hB2
    exact ⟨_, hz, hv⟩
/-- Behind the statement. -/
theorem TwoI.stop (h : TwoI wr g A l u5 u6 u19 u20 u21 u22 w) (hl : ∀ i, i < 8 → l i = true) :
    ∃ B5 B6 M M' b1 d1 b2 d2 L b1' d1' b2' d2' L', u5 = .pointer (some ⟨B5, 0, none⟩) ∧ u6 = .pointer (some ⟨B6, 0, none⟩) ∧ wr.heap.size ≤ B5 ∧ wr.heap.size ≤ B6 ∧ B5 ≠ B6 ∧ Chg [] wr w ∧ wr.heap.size ≤ M ∧ M ≤ w.heap.size ∧
      w.heap[B5]? = some (.cells #[.slice b1 g.rules.length d1, .slice b2 g.nodes.length d2] 25 (0, 0)) ∧ w.heap[B6]? = some (.cells #[.slice b1' g.rules.length d1', .slice b2' g.nodes.length d2'] 25 (0, 0)) ∧
      DupIn wr.heap.size M w g u20 b1 d1 b2 d2 L ∧ DupIn M M' w g u22 b1' d1' b2' d2' L' := by
  obtain ⟨B5, p1, p2, p3⟩ := h.f4 (hl 4 (by decide))
  obtain ⟨B6, q1, q2, q3⟩ := h.f5 (hl 5 (by decide))
  obtain ⟨M, ⟨b1, d1, b2, d2, L, i1⟩, i2, i3, i4⟩ := h.c (hl 1 (by decide))
  obtain ⟨M', ⟨b1', d1', b2', d2', L', j1⟩, j2⟩ := i4 (hl 3 (by decide))
  obtain ⟨cs, r1, r2⟩ := h.s6 (hl 6 (by decide)) B5 p1
  obtain ⟨cs', r1', r2'⟩ := h.s7 (hl 7 (by decide)) B6 q1
  have hne := h.ne (hl 4 (by decide)) (hl 5 (by decide))
  rw [i1.val] at r2
  rw [j1.val] at r2'
  cases r2
  cases r2'
  refine ⟨B5, B6, M, M', b1, d1, b2, d2, L, b1', d1', b2', d2', L', p1, q1, p2, q2, fun e => hne (by rw [p1, q1, e]), h.chg, i3, i2, r1, r1', i1, j1⟩
end
end Go.Proofs.Ytibgfgfmljhimaa

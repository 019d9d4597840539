/-
  Lists of bodies in rows of their own; bodies with something ahead, or over them.
  Conditions: none.
-/
import Derived.Test.YtibgfgfmljhimaaKB5
import Derived.Test.YtibgfgfmljhimaaKB6
import Derived.Test.YtibgfgfmljhimaaNN1
set_option linter.unusedVariables false
set_option linter.unusedSimpArgs false
set_option linter.unnecessarySimpa false
namespace Go.Proofs.Ytibgfgfmljhimaa
open Go.RowKit Go.MapKept Go.Shelf

theorem Try.infoBodies : (Try.prog.info? 23).map (fun i => (i.zero, i.size, i.bytes)) = some (some (.slice none 0 0), 1, 24) := by kernel_rfl
abbrev Vs := Option Addr × Nat × List Cp
def Vs.cell (p : Vs) : Value := .slice p.1 p.2.2.length p.2.1
def Vs.data (p : Vs) : List Nd := p.2.2.map (·.1)
structure OwnBs (B : Nat) (w : World) (a : Option Addr) (c : Nat) (VS : List Vs) : Prop where
  row : w.ownsRow B 23 1 (.slice a VS.length c) VS.length (VS.map Vs.cell)
  each : ∀ p ∈ VS, OwnN B w p.1 p.2.1 p.2.2
theorem OwnBs.nil (B : Nat) (w : World) : OwnBs B w none 0 [] := ⟨World.ownsRow_nil _ _ _ _, by simp⟩
theorem OwnBs.chg0 {B : Nat} {w w' : World} {a : Option Addr} {c : Nat} {VS : List Vs} (h : OwnBs B w a c VS) (hc : Chg [] w w') : OwnBs B w' a c VS := ⟨hc.row h.row (fun _ _ => by simp), fun p hp => (h.each p hp).chg0 hc⟩
theorem OwnBs.apart {B : Nat} {w w' : World} {S : List Nat} {a : Option Addr} {c : Nat} {VS : List Vs} (h : OwnBs B w a c VS) (hc : Chg S w w') (hS : ∀ k ∈ S, NotRow w 32 k ∧ NotRow w 3 k) (hr : ∀ k, (Value.slice a VS.length c).ownBlock = some k → k ∉ S) : OwnBs B w' a c VS :=
  ⟨hc.row h.row hr, fun p hp => (h.each p hp).chg hc hS⟩
theorem OwnBs.bodies {B : Nat} {w : World} {a : Option Addr} {c : Nat} {VS : List Vs} (h : OwnBs B w a c VS) : Bodies w a (VS.map Vs.data) := by
  intro i hi
  have hi' : i < VS.length := by simpa using hi
  rcases h.row.2 with ⟨h0, h1⟩ | ⟨g, cap, cur, h0, hb, hg, hn, hc, hs, ht⟩
  · omega
  · cases h0
    refine ⟨g, 0, VS[i].1, VS[i].2.1, rfl, ?_, ?_⟩
    · rw [cell_of_cells hg, Nat.zero_add]
      have h1 : (VS.map Vs.cell)[i]? = some VS[i].cell := by simp [hi']
      rw [← ht, List.getElem?_take] at h1
      split at h1
      · have h2 : cur[i]? = some VS[i].cell := by simpa using h1
        rw [h2]
        simp [Vs.cell, Vs.data]
      · cases h1
    · have := (h.each _ (List.getElem_mem hi')).read.1
      simpa [Vs.data] using this
theorem OwnBs.snoc {B : Nat} {w w1 : World} {a a' : Option Addr} {c c' : Nat} {VS : List Vs} {p : Vs} (h : OwnBs B w a c VS) (hp : OwnN B w p.1 p.2.1 p.2.2)
    (hr : w1.ownsRow B 23 1 (.slice a' (VS.length + 1) c') (VS.length + 1) (VS.map Vs.cell ++ [p.cell])) (hg : w.grownBy w1 (Value.slice a VS.length c).ownBlock) : OwnBs B w1 a' c' (VS ++ [p]) := by
  have hc : Chg (Value.slice a VS.length c).ownBlock.toList w w1 := (Chg.refl _ w).grown hg (fun k hk => .inl (by rw [hk]; simp))
  have hS : ∀ k ∈ (Value.slice a VS.length c).ownBlock.toList, NotRow w 32 k ∧ NotRow w 3 k := by
    intro k hk
    simp only [Option.mem_toList] at hk
    exact ⟨row_notrow h.row hk (by decide), row_notrow h.row hk (by decide)⟩
  refine ⟨by rw [List.length_append, List.map_append]; exact hr, fun q hq => ?_⟩
  rcases List.mem_append.1 hq with hq | hq
  · exact (h.each q hq).chg hc hS
  · simp only [List.mem_singleton] at hq
    subst hq
    exact hp.chg hc hS

/-! ### The bodies -/
theorem ofL_hard (b : List Nd) : ofL 6 [[bareN 2], b] = hardP ++ movedL b 2 := by simp [ofL, gramO, gramN, hardP, movedL, bareN, Nd.shift]
theorem ofL_soft (b : List Nd) : ofL 10 [b] = softP ++ movedL b 1 := by simp [ofL, gramO, gramN, softP, movedL, bareN]
/-- Few nodes, few kids, all near. -/
structure Tight (ns : List Nd) : Prop where
  len : ns.length ≤ 300
  one : ns ≠ []
  kids : ∀ x ∈ ns, x.kids.length ≤ 300 ∧ ∀ z ∈ x.kids, -1000 ≤ z ∧ z ≤ 1000
theorem Tight.small {ns : List Nd} (h : Tight ns) : Small ns := ⟨by have := h.len; omega, h.one, fun x hx => ⟨by have := (h.kids x hx).1; omega, fun z hz => by have := (h.kids x hx).2 z hz; omega⟩⟩
theorem Tight.wrap {ns : List Nd} (h : Tight ns) {P : List Nd} (hP : P.length ≤ 10) (hp : ∀ x ∈ P, x.kids.length ≤ 10 ∧ ∀ z ∈ x.kids, 0 ≤ z ∧ z ≤ 10) {d : Nat} (hd : d ≤ 10) : Small (P ++ movedL ns d) := by
  refine ⟨by rw [List.length_append, movedL_len]; have := h.len; omega, ?_, fun x hx => ?_⟩
  · intro e
    have h1 := congrArg List.length e
    rw [List.length_append, movedL_len] at h1
    have h2 : P.length + ns.length = 0 := h1
    exact h.one (List.eq_nil_of_length_eq_zero (by omega))
  · rcases List.mem_append.1 hx with hx | hx
    · exact ⟨by have := (hp x hx).1; omega, fun z hz => by have := (hp x hx).2 z hz; omega⟩
    · simp only [movedL, List.mem_map] at hx
      obtain ⟨y, hy, rfl⟩ := hx
      refine ⟨by have := (h.kids y hy).1; simpa [Nd.shift] using Nat.le_trans this (by decide), fun z hz => ?_⟩
      simp only [Nd.shift, List.mem_map] at hz
      obtain ⟨v, hv, rfl⟩ := hz
      have := (h.kids y hy).2 v hv
      omega
theorem body_tight {g : Gr} (hr : rightB g = true) (hn : g.nodes.length ≤ 300) (hk : ∀ x ∈ g.nodes, x.kids.length ≤ 300) {i : Nat} (hi : i < g.rules.length) : Tight (bodyOf g g.rules[i].body) := by
  obtain ⟨q, hq, hqn⟩ := right_body hr hi
  obtain ⟨t, ht, htab, -⟩ := right_tab hr
  obtain ⟨z, hh, hz0, hz1, -, -, hz2⟩ := right_aft ht hqn
  obtain ⟨e1, e2⟩ := bodyOf_at hr hz2
  have hle := (size_aft hr hz2).2.2
  rw [hq]
  refine ⟨by rw [e2]; omega, fun e => by rw [e] at e2; simp at e2; omega, fun x hx => ?_⟩
  rw [e1] at hx
  simp only [movedL, List.mem_map] at hx
  obtain ⟨y, hy, rfl⟩ := hx
  have hy' := List.mem_of_mem_drop (List.mem_of_mem_take hy)
  refine ⟨by have := hk y hy'; simpa [Nd.shift] using this, fun v hv => ?_⟩
  simp only [Nd.shift, List.mem_map] at hv
  obtain ⟨u, hu, rfl⟩ := hv
  obtain ⟨m, hm, rfl⟩ := List.mem_iff_getElem.1 hy'
  have := right_kids hr hm u hu
  omega
theorem wrapL_len (P : List Nd) (g : Gr) : (wrapL P g).length = g.rules.length := by simp [wrapL]
theorem wrapL_at (P : List Nd) (g : Gr) {i : Nat} (hi : i < g.rules.length) : (wrapL P g)[i]'(by rw [wrapL_len]; exact hi) = P ++ movedL (bodyOf g g.rules[i].body) P.length := by simp [wrapL]
theorem wrap_small {P : List Nd} (hP : P.length ≤ 10) (hp : ∀ x ∈ P, x.kids.length ≤ 10 ∧ ∀ z ∈ x.kids, 0 ≤ z ∧ z ≤ 10) {g : Gr} (hr : rightB g = true) (hn : g.nodes.length ≤ 300) (hk : ∀ x ∈ g.nodes, x.kids.length ≤ 300) : (∀ b ∈ wrapL P g, Small b) ∧ sumL (wrapL P g) ≤ 3000 ∧ g.nodes.length + P.length * g.rules.length ≤ 2048 := by
  have h32 := (right_sizes hr).2.1
  have hmul : P.length * g.rules.length ≤ 10 * 32 := Nat.mul_le_mul hP h32
  refine ⟨fun b hb => ?_, ?_, by omega⟩
  · obtain ⟨i, hi, rfl⟩ := List.mem_iff_getElem.1 hb
    have hi' : i < g.rules.length := by rw [wrapL_len] at hi; exact hi
    rw [wrapL_at P g hi']
    exact (body_tight hr hn hk hi').wrap hP hp hP
  · have h0 := hr
    simp only [rightB, Bool.and_eq_true, beq_iff_eq] at h0
    have := wrap_sum (P := P) hr g.rules 0 0 h0.2
    simp only [sumL, wrapL]
    omega
theorem gramRs_bodies : ∀ (KL : List (List Nd)) (i o : Nat), (gramRs KL i o).map (·.body) = gramO KL o := by
  intro KL
  induction KL with
  | nil => intro i o; rfl
  | cons b bs ih => intro i o; simp [gramRs, gramO, ih]
theorem wrapG_of (P : List Nd) (g : Gr) : (⟨wrapR g.rules ((gramL (wrapL P g)).rules.map (·.body)), (gramL (wrapL P g)).nodes⟩ : Gr) = wrapG P g := by
  simp only [gramL, gramRs_bodies, wrapG]
end Go.Proofs.Ytibgfgfmljhimaa

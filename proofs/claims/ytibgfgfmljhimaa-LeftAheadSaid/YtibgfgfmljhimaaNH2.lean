/-
  Lists of bodies in rows of their own; bodies with something ahead, or over them.
  Conditions: none.
-/
import Derived.Test.YtibgfgfmljhimaaKB4
import Derived.Test.YtibgfgfmljhimaaNuE
import Derived.Test.YtibgfgfmljhimaaGRight
import Derived.Test.YtibgfgfmljhimaaGAw
set_option linter.unusedVariables false
set_option linter.unusedSimpArgs false
set_option linter.unnecessarySimpa false
namespace Go.Proofs.Ytibgfgfmljhimaa
open Go.RowKit Go.MapKept Go.Shelf

theorem Try.infoBodies : (Try.prog.info? 23).map (fun i => (i.zero, i.size, i.bytes)) = some (some (.slice none 0 0), 1, 24) := by kernel_rfl
abbrev Vs := Option Addr × Nat × List Cp
def Vs.cell (p : Vs) : Value := .slice p.1 p.2.2.length p.2.1
def Vs.data (p : Vs) : List Nd := p.2.2.map (·.1)
structure OwnBs (B : Nat) (w : World) (a : Option Addr) (c : Nat) (VS : List Vs) : Prop where
  row : w.ownsRow B 23 1 (.slice a VS.length c) VS.length (VS.map Vs.cell)
  each : ∀ p ∈ VS, OwnN B w p.1 p.2.1 p.2.2
theorem OwnBs.nil (B : Nat) (w : World) : OwnBs B w none 0 [] := ⟨World.ownsRow_nil _ _ _ _, by simp⟩
theorem OwnBs.chg0 {B : Nat} {w w' : World} {a : Option Addr} {c : Nat} {VS : List Vs} (h : OwnBs B w a c VS) (hc : Chg [] w w') : OwnBs B w' a c VS := ⟨hc.row h.row (fun _ _ => by simp), fun p hp => (h.each p hp).chg0 hc⟩
theorem OwnBs.apart {B : Nat} {w w' : World} {S : List Nat} {a : Option Addr} {c : Nat} {VS : List Vs} (h : OwnBs B w a c VS) (hc : Chg S w w') (hS : ∀ k ∈ S, NotRow w 32 k ∧ NotRow w 3 k) (hr : ∀ k, (Value.slice a VS.length c).ownBlock = some k → k ∉ S) : OwnBs B w' a c VS :=
  ⟨hc.row h.row hr, fun p hp => (h.each p hp).chg hc hS⟩
theorem OwnBs.bodies {B : Nat} {w : World} {a : Option Addr} {c : Nat} {VS : List Vs} (h : OwnBs B w a c VS) : Bodies w a (VS.map Vs.data) := by
  intro i hi
  have hi' : i < VS.length := by simpa using hi
  rcases h.row.2 with ⟨h0, h1⟩ | ⟨g, cap, cur, h0, hb, hg, hn, hc, hs, ht⟩
  · omega
  · cases h0
    refine ⟨g, 0, VS[i].1, VS[i].2.1, rfl, ?_, ?_⟩
    · rw [cell_of_cells hg, Nat.zero_add]
      have h1 : (VS.map Vs.cell)[i]? = some VS[i].cell := by simp [hi']
      rw [← ht, List.getElem?_take] at h1
      split at h1
      · have h2 : cur[i]? = some VS[i].cell := by simpa using h1
        rw [h2]
        simp [Vs.cell, Vs.data]
      · cases h1
    · have := (h.each _ (List.getElem_mem hi')).read.1
      simpa [Vs.data] using this
theorem OwnBs.snoc {B : Nat} {w w1 : World} {a a' : Option Addr} {c c' : Nat} {VS : List Vs} {p : Vs} (h : OwnBs B w a c VS) (hp : OwnN B w p.1 p.2.1 p.2.2)
    (hr : w1.ownsRow B 23 1 (.slice a' (VS.length + 1) c') (VS.length + 1) (VS.map Vs.cell ++ [p.cell])) (hg : w.grownBy w1 (Value.slice a VS.length c).ownBlock) : OwnBs B w1 a' c' (VS ++ [p]) := by
  have hc : Chg (Value.slice a VS.length c).ownBlock.toList w w1 := (Chg.refl _ w).grown hg (fun k hk => .inl (by rw [hk]; simp))
  have hS : ∀ k ∈ (Value.slice a VS.length c).ownBlock.toList, NotRow w 32 k ∧ NotRow w 3 k := by
    intro k hk
    simp only [Option.mem_toList] at hk
    exact ⟨row_notrow h.row hk (by decide), row_notrow h.row hk (by decide)⟩
  refine ⟨by rw [List.length_append, List.map_append]; exact hr, fun q hq => ?_⟩
  rcases List.mem_append.1 hq with hq | hq
  · exact (h.each q hq).chg hc hS
  · simp only [List.mem_singleton] at hq
    subst hq
    exact hp.chg hc hS

/-! ### The bodies -/
theorem ofL_hard (b : List Nd) : ofL 6 [[bareN 2], b] = hardP ++ movedL b 2 := by simp [ofL, gramO, gramN, hardP, movedL, bareN, Nd.shift]
theorem ofL_soft (b : List Nd) : ofL 10 [b] = softP ++ movedL b 1 := by simp [ofL, gramO, gramN, softP, movedL, bareN]
/-- Few nodes, few kids, all near. -/
structure Tight (ns : List Nd) : Prop where
  len : ns.length ≤ 300
  one : ns ≠ []
  kids : ∀ x ∈ ns, x.kids.length ≤ 300 ∧ ∀ z ∈ x.kids, -1000 ≤ z ∧ z ≤ 1000
theorem Tight.small {ns : List Nd} (h : Tight ns) : Small ns := ⟨by have := h.len; omega, h.one, fun x hx => ⟨by have := (h.kids x hx).1; omega, fun z hz => by have := (h.kids x hx).2 z hz; omega⟩⟩
theorem Tight.wrap {ns : List Nd} (h : Tight ns) {P : List Nd} (hP : P.length ≤ 10) (hp : ∀ x ∈ P, x.kids.length ≤ 10 ∧ ∀ z ∈ x.kids, 0 ≤ z ∧ z ≤ 10) {d : Nat} (hd : d ≤ 10) : Small (P ++ movedL ns d) := by
  refine ⟨by rw [List.length_append, movedL_len]; have := h.len; omega, ?_, fun x hx => ?_⟩
  · intro e
    have h1 := congrArg List.length e
    rw [List.length_append, movedL_len] at h1
    have h2 : P.length + ns.length = 0 := h1
    exact h.one (List.eq_nil_of_length_eq_zero (by omega))
  · rcases List.mem_append.1 hx with hx | hx
    · exact ⟨by have := (hp x hx).1; omega, fun z hz => by have := (hp x hx).2 z hz; omega⟩
    · simp only [movedL, List.mem_map] at hx
      obtain ⟨y, hy, rfl⟩ := hx
      refine ⟨by have := (h.kids y hy).1; simpa [Nd.shift] using Nat.le_trans this (by decide), fun z hz => ?_⟩
      simp only [Nd.shift, List.mem_map] at hz
      obtain ⟨v, hv, rfl⟩ := hz
      have := (h.kids y hy).2 v hv
      omega
theorem body_tight {g : Gr} (hr : rightB g = true) (hn : g.nodes.length ≤ 300) (hk : ∀ x ∈ g.nodes, x.kids.length ≤ 300) {i : Nat} (hi : i < g.rules.length) : Tight (bodyOf g g.rules[i].body) := by
  obtain ⟨q, hq, hqn⟩ := right_body hr hi
  obtain ⟨t, ht, htab, -⟩ := right_tab hr
  obtain ⟨z, hh, hz0, hz1, -, -, hz2⟩ := right_aft ht hqn
  obtain ⟨e1, e2⟩ := bodyOf_at hr hz2
  have hle := (size_aft hr hz2).2.2
  rw [hq]
  refine ⟨by rw [e2]; omega, fun e => by rw [e] at e2; simp at e2; omega, fun x hx => ?_⟩
  rw [e1] at hx
  simp only [movedL, List.mem_map] at hx
  obtain ⟨y, hy, rfl⟩ := hx
  have hy' := List.mem_of_mem_drop (List.mem_of_mem_take hy)
  refine ⟨by have := hk y hy'; simpa [Nd.shift] using this, fun v hv => ?_⟩
  simp only [Nd.shift, List.mem_map] at hv
  obtain ⟨u, hu, rfl⟩ := hv
  obtain ⟨m, hm, rfl⟩ := List.mem_iff_getElem.1 hy'
  have := right_kids hr hm u hu
  omega
theorem wrapL_len (P : List Nd) (g : Gr) : (wrapL P g).length = g.rules.length := by simp [wrapL]
theorem wrapL_at (P : List Nd) (g : Gr) {i : Nat} (hi : i < g.rules.length) : (wrapL P g)[i]'(by rw [wrapL_len]; exact hi) = P ++ movedL (bodyOf g g.rules[i].body) P.length := by simp [wrapL]
theorem wrap_small {P : List Nd} (hP : P.length ≤ 10) (hp : ∀ x ∈ P, x.kids.length ≤ 10 ∧ ∀ z ∈ x.kids, 0 ≤ z ∧ z ≤ 10) {g : Gr} (hr : rightB g = true) (hn : g.nodes.length ≤ 300) (hk : ∀ x ∈ g.nodes, x.kids.length ≤ 300) : (∀ b ∈ wrapL P g, Small b) ∧ sumL (wrapL P g) ≤ 3000 ∧ g.nodes.length + P.length * g.rules.length ≤ 2048 := by
  have h32 := (right_sizes hr).2.1
  have hmul : P.length * g.rules.length ≤ 10 * 32 := Nat.mul_le_mul hP h32
  refine ⟨fun b hb => ?_, ?_, by omega⟩
  · obtain ⟨i, hi, rfl⟩ := List.mem_iff_getElem.1 hb
    have hi' : i < g.rules.length := by rw [wrapL_len] at hi; exact hi
    rw [wrapL_at P g hi']
    exact (body_tight hr hn hk hi').wrap hP hp hP
  · have h0 := hr
    simp only [rightB, Bool.and_eq_true, beq_iff_eq] at h0
    have := wrap_sum (P := P) hr g.rules 0 0 h0.2
    simp only [sumL, wrapL]
    omega
theorem gramRs_bodies : ∀ (KL : List (List Nd)) (i o : Nat), (gramRs KL i o).map (·.body) = gramO KL o := by
  intro KL
  induction KL with
  | nil => intro i o; rfl
  | cons b bs ih => intro i o; simp [gramRs, gramO, ih]
theorem wrapG_of (P : List Nd) (g : Gr) : (⟨wrapR g.rules ((gramL (wrapL P g)).rules.map (·.body)), (gramL (wrapL P g)).nodes⟩ : Gr) = wrapG P g := by
  simp only [gramL, gramRs_bodies, wrapG]
end Go.Proofs.Ytibgfgfmljhimaa
set_option linter.unusedVariables false
set_option linter.unusedSimpArgs false
set_option linter.unnecessarySimpa false
namespace Go.Proofs.Ytibgfgfmljhimaa
open Go.RowKit Go.MapKept Go.Shelf

def updL (l : Nat → Bool) (i : Nat) : Nat → Bool := fun j => if j = i then true else l j
theorem updL_same (l : Nat → Bool) (i : Nat) : updL l i i = true := by simp [updL]
theorem updL_ne (l : Nat → Bool) {i j : Nat} (h : j ≠ i) : updL l i j = l j := by simp [updL, h]
def gramV (P : List Nd) (g : Gr) (b1 : Option Addr) (d1 : Nat) (b2 : Option Addr) (d2 : Nat) : Value := .agg #[.slice b1 g.rules.length d1, .slice b2 (wrapG P g).nodes.length d2]
def zeroCells : Array Value := #[.slice none 0 0, .slice none 0 0]
/-- One grammar: made, named. -/
structure Item (n₀ : Nat) (W : World) (P : List Nd) (g : Gr) (named : Bool) (b1 : Option Addr) (d1 : Nat) (b2 : Option Addr) (d2 : Nat) (L : List Cp) : Prop where
  nds : L.map (·.1) = (wrapG P g).nodes
  own : OwnN n₀ W b2 d2 L
  rls : FreshRules n₀ W b1 d1 (if named then (wrapG P g).rules else (gramL (wrapL P g)).rules)
theorem gramL_rules (P : List Nd) (g : Gr) : (gramL (wrapL P g)).rules.length = g.rules.length := by simp [gramL, gramRs_len, wrapL]
theorem Item.rlen {n₀ : Nat} {W : World} {P : List Nd} {g : Gr} {nm : Bool} {b1 : Option Addr} {d1 : Nat} {b2 : Option Addr} {d2 : Nat} {L : List Cp} (h : Item n₀ W P g nm b1 d1 b2 d2 L) : (if nm then (wrapG P g).rules else (gramL (wrapL P g)).rules).length = g.rules.length := by
  cases nm
  · exact gramL_rules P g
  · exact wrap_rules P g
theorem Item.world {n₀ : Nat} {W W' : World} {P : List Nd} {g : Gr} {nm : Bool} {b1 : Option Addr} {d1 : Nat} {b2 : Option Addr} {d2 : Nat} {L : List Cp} (h : Item n₀ W P g nm b1 d1 b2 d2 L) (hc : Chg [] W W') : Item n₀ W' P g nm b1 d1 b2 d2 L :=
  ⟨h.nds, h.own.chg0 hc, hc.row h.rls (fun _ _ => by simp)⟩
theorem Item.apart {n₀ : Nat} {W W' : World} {S : List Nat} {P : List Nd} {g : Gr} {nm : Bool} {b1 : Option Addr} {d1 : Nat} {b2 : Option Addr} {d2 : Nat} {L : List Cp} (h : Item n₀ W P g nm b1 d1 b2 d2 L) (hc : Chg S W W') (hS : ∀ k ∈ S, NotRow W 32 k ∧ NotRow W 3 k)
    (hr : ∀ k, (Value.slice b1 g.rules.length d1).ownBlock = some k → k ∉ S) : Item n₀ W' P g nm b1 d1 b2 d2 L :=
  ⟨h.nds, h.own.chg hc hS, hc.row h.rls (fun k hk => hr k (by rw [h.rlen] at hk; exact hk))⟩
theorem Item.lt {n₀ : Nat} {W : World} {P : List Nd} {g : Gr} {nm : Bool} {b1 : Option Addr} {d1 : Nat} {b2 : Option Addr} {d2 : Nat} {L : List Cp} (h : Item n₀ W P g nm b1 d1 b2 d2 L) {k : Nat} (hk : (Value.slice b1 g.rules.length d1).ownBlock = some k) : n₀ ≤ k ∧ k < W.heap.size ∧ NotRow W 32 k ∧ NotRow W 3 k ∧ ∃ cur, W.heap[k]? = some (.cells cur 46 (0, 0)) := by
  have h1 := h.rls
  rw [FreshRules, h.rlen] at h1
  obtain ⟨q1, q2, q3⟩ := row_beyond h1 hk
  exact ⟨q1, q2, row_notrow h1 hk (by decide), row_notrow h1 hk (by decide), q3⟩
theorem Item.gram {n₀ : Nat} {W : World} {P : List Nd} {g : Gr} {b1 : Option Addr} {d1 : Nat} {b2 : Option Addr} {d2 : Nat} {L : List Cp} (h : Item n₀ W P g true b1 d1 b2 d2 L) (wf : (wrapG P g).Wf) : GramAt W b1 g.rules.length d1 b2 (wrapG P g).nodes.length d2 (wrapG P g) := by
  have h1 := h.rls
  rw [if_pos rfl] at h1
  obtain ⟨k1, k2, k3, k4⟩ := rules_row (row_base h1 (Nat.zero_le _))
  obtain ⟨m1, m2, m3⟩ := h.own.read
  rw [h.nds] at m1
  have hl : L.length = (wrapG P g).nodes.length := by rw [← h.nds]; simp
  rw [hl] at m2
  have e := wrap_rules P g
  rw [e] at k3
  exact ⟨e.symm, k3, k4, k1, rfl, m2, m3, m1, wf⟩

/-- Between two operations: which are made, named, boxed. -/
structure PairI (w0 : World) (P Q : List Nd) (g : Gr) (l : Nat → Bool) (u43 u45 u47 u49 u7 u8 : Value) (b1 : Option Addr) (d1 : Nat) (b2 : Option Addr) (d2 : Nat) (L : List Cp) (e1 : Option Addr) (f1 : Nat) (e2 : Option Addr) (f2 : Nat) (M : List Cp) (B7 B8 : Nat) (W : World) : Prop where
  chg : Chg [] w0 W
  x1 : l 1 = true → u43 = gramV P g b1 d1 b2 d2 ∧ Item w0.heap.size W P g (l 3) b1 d1 b2 d2 L
  x3 : l 3 = true → u45 = gramV P g b1 d1 b2 d2 ∧ l 1 = true
  y5 : l 5 = true → u47 = gramV Q g e1 f1 e2 f2 ∧ Item w0.heap.size W Q g (l 7) e1 f1 e2 f2 M
  y7 : l 7 = true → u49 = gramV Q g e1 f1 e2 f2 ∧ l 5 = true
  dis : l 1 = true → l 5 = true → ∀ k, (Value.slice b1 g.rules.length d1).ownBlock = some k → (Value.slice e1 g.rules.length f1).ownBlock = some k → False
  z8 : l 8 = true → u7 = .pointer (some ⟨B7, 0, none⟩) ∧ w0.heap.size ≤ B7 ∧ W.heap[B7]? = some (.cells (if l 10 then #[.slice b1 g.rules.length d1, .slice b2 (wrapG P g).nodes.length d2] else zeroCells) 25 (0, 0))
  z9 : l 9 = true → u8 = .pointer (some ⟨B8, 0, none⟩) ∧ w0.heap.size ≤ B8 ∧ W.heap[B8]? = some (.cells (if l 11 then #[.slice e1 g.rules.length f1, .slice e2 (wrapG Q g).nodes.length f2] else zeroCells) 25 (0, 0))
  zne : l 8 = true → l 9 = true → B7 ≠ B8
  d10 : l 10 = true → l 3 = true ∧ l 8 = true
  d11 : l 11 = true → l 7 = true ∧ l 9 = true

section
variable {w0 : World} {P Q : List Nd} {g : Gr} {l : Nat → Bool} {u43 u45 u47 u49 u7 u8 : Value} {b1 : Option Addr} {d1 : Nat} {b2 : Option Addr} {d2 : Nat} {L : List Cp} {e1 : Option Addr} {f1 : Nat} {e2 : Option Addr} {f2 : Nat} {M : List Cp} {B7 B8 : Nat} {W W' : World}
theorem PairI.start (w0 : World) (P Q : List Nd) (g : Gr) : PairI w0 P Q g (fun _ => false) undef undef undef undef undef undef none 0 none 0 [] none 0 none 0 [] 0 0 w0.drew := by
  refine ⟨(Chg.refl _ _).drew, ?_, ?_, ?_, ?_, ?_, ?_, ?_, ?_, ?_, ?_⟩ <;> intro h <;> cases h
/-- An operation that leaves all that. -/
theorem PairI.quiet (h : PairI w0 P Q g l u43 u45 u47 u49 u7 u8 b1 d1 b2 d2 L e1 f1 e2 f2 M B7 B8 W) {i : Nat} (hi : i = 0 ∨ i = 2 ∨ i = 4 ∨ i = 6) : PairI w0 P Q g (updL l i) u43 u45 u47 u49 u7 u8 b1 d1 b2 d2 L e1 f1 e2 f2 M B7 B8 W := by
  have e : ∀ j, j ≠ 0 → j ≠ 2 → j ≠ 4 → j ≠ 6 → updL l i j = l j := fun j h0 h2 h4 h6 => updL_ne l (by omega)
  obtain ⟨q1, q2, q3, q4, q5, q6, q7, q8, q9, q10, q11⟩ := h
  constructor
  case chg => exact q1
  all_goals simp only [e 1 (by decide) (by decide) (by decide) (by decide), e 3 (by decide) (by decide) (by decide) (by decide), e 5 (by decide) (by decide) (by decide) (by decide), e 7 (by decide) (by decide) (by decide) (by decide), e 8 (by decide) (by decide) (by decide) (by decide), e 9 (by decide) (by decide) (by decide) (by decide), e 10 (by decide) (by decide) (by decide) (by decide), e 11 (by decide) (by decide) (by decide) (by decide)]
  all_goals assumption
/-- The first one is made. -/
theorem PairI.step1 (h : PairI w0 P Q g l u43 u45 u47 u49 u7 u8 b1 d1 b2 d2 L e1 f1 e2 f2 M B7 B8 W) (hl : l 1 = false) (hc : Chg [] W W') {c1 : Option Addr} {k1 : Nat} {c2 : Option Addr} {k2 : Nat} {N : List Cp}
    (hn : N.map (·.1) = (gramL (wrapL P g)).nodes) (hr : FreshRules W.heap.size W' c1 k1 (gramL (wrapL P g)).rules) (ho : OwnN W.heap.size W' c2 k2 N) :
    PairI w0 P Q g (updL l 1) (gramV P g c1 k1 c2 k2) u45 u47 u49 u7 u8 c1 k1 c2 k2 N e1 f1 e2 f2 M B7 B8 W' := by
  have n3 : l 3 = false := by cases h3 : l 3 with | false => rfl | true => (have := (h.x3 h3).2; rw [hl] at this; cases this)
  have n10 : l 10 = false := by cases h3 : l 10 with | false => rfl | true => (have := (h.d10 h3).1; rw [n3] at this; cases this)
  have e : ∀ j, j ≠ 1 → updL l 1 j = l j := fun j h0 => updL_ne l h0
  have hsz := h.chg.size
  constructor
  case chg => exact h.chg.tr hc
  all_goals simp only [updL_same, e 3 (by decide), e 5 (by decide), e 7 (by decide), e 8 (by decide), e 9 (by decide), e 10 (by decide), e 11 (by decide), n3, n10]
  case x1 => exact fun _ => ⟨by first | rfl | trivial, hn, ho.below hsz, row_base hr hsz⟩
  case x3 => intro h; cases h
  case y5 => exact fun h5 => ⟨(h.y5 h5).1, (h.y5 h5).2.world hc⟩
  case y7 => exact h.y7
  case dis =>
    intro _ h5 k hk hk2
    rw [FreshRules, gramL_rules] at hr
    have q1 := (row_beyond hr hk).1
    have q2 := ((h.y5 h5).2.lt hk2).2.1
    omega
  case z8 =>
    intro h8
    obtain ⟨p1, p2, p3⟩ := h.z8 h8
    rw [n10] at p3
    exact ⟨p1, p2, hc.heap p3 (by simp)⟩
  case z9 => exact fun h9 => ⟨(h.z9 h9).1, (h.z9 h9).2.1, hc.heap (h.z9 h9).2.2 (by simp)⟩
  case zne => exact h.zne
  case d10 => intro h; cases h
  case d11 => exact h.d11
/-- The other one is made. -/
theorem PairI.step5 (h : PairI w0 P Q g l u43 u45 u47 u49 u7 u8 b1 d1 b2 d2 L e1 f1 e2 f2 M B7 B8 W) (hl : l 5 = false) (hc : Chg [] W W') {c1 : Option Addr} {k1 : Nat} {c2 : Option Addr} {k2 : Nat} {N : List Cp}
    (hn : N.map (·.1) = (gramL (wrapL Q g)).nodes) (hr : FreshRules W.heap.size W' c1 k1 (gramL (wrapL Q g)).rules) (ho : OwnN W.heap.size W' c2 k2 N) :
    PairI w0 P Q g (updL l 5) u43 u45 (gramV Q g c1 k1 c2 k2) u49 u7 u8 b1 d1 b2 d2 L c1 k1 c2 k2 N B7 B8 W' := by
  have n3 : l 7 = false := by cases h3 : l 7 with | false => rfl | true => (have := (h.y7 h3).2; rw [hl] at this; cases this)
  have n10 : l 11 = false := by cases h3 : l 11 with | false => rfl | true => (have := (h.d11 h3).1; rw [n3] at this; cases this)
  have e : ∀ j, j ≠ 5 → updL l 5 j = l j := fun j h0 => updL_ne l h0
  have hsz := h.chg.size
  constructor
  case chg => exact h.chg.tr hc
  all_goals simp only [updL_same, e 3 (by decide), e 1 (by decide), e 7 (by decide), e 8 (by decide), e 9 (by decide), e 10 (by decide), e 11 (by decide), n3, n10]
  case y5 => exact fun _ => ⟨by first | rfl | trivial, hn, ho.below hsz, row_base hr hsz⟩
  case y7 => intro h; cases h
  case x1 => exact fun h5 => ⟨(h.x1 h5).1, (h.x1 h5).2.world hc⟩
  case x3 => exact h.x3
  case dis =>
    intro h5 _ k hk hk2
    rw [FreshRules, gramL_rules] at hr
    have q1 := (row_beyond hr hk2).1
    have q2 := ((h.x1 h5).2.lt hk).2.1
    omega
  case z9 =>
    intro h8
    obtain ⟨p1, p2, p3⟩ := h.z9 h8
    rw [n10] at p3
    exact ⟨p1, p2, hc.heap p3 (by simp)⟩
  case z8 => exact fun h9 => ⟨(h.z8 h9).1, (h.z8 h9).2.1, hc.heap (h.z8 h9).2.2 (by simp)⟩
  case zne => exact h.zne
  case d11 => intro h; cases h
  case d10 => exact h.d10
/-- The first one is named. -/
theorem PairI.step3 (h : PairI w0 P Q g l u43 u45 u47 u49 u7 u8 b1 d1 b2 d2 L e1 f1 e2 f2 M B7 B8 W) (hl1 : l 1 = true) (hl : l 3 = false) (hc : Chg (Value.slice b1 g.rules.length d1).ownBlock.toList W W') (hr : FreshRules w0.heap.size W' b1 d1 (wrapG P g).rules) :
    PairI w0 P Q g (updL l 3) u43 (gramV P g b1 d1 b2 d2) u47 u49 u7 u8 b1 d1 b2 d2 L e1 f1 e2 f2 M B7 B8 W' := by
  have n10 : l 10 = false := by cases h3 : l 10 with | false => rfl | true => (have := (h.d10 h3).1; rw [hl] at this; cases this)
  have e : ∀ j, j ≠ 3 → updL l 3 j = l j := fun j h0 => updL_ne l h0
  obtain ⟨hx, hit⟩ := h.x1 hl1
  have hS : ∀ k ∈ (Value.slice b1 g.rules.length d1).ownBlock.toList, NotRow W 32 k ∧ NotRow W 3 k := fun k hk => by
    simp only [Option.mem_toList] at hk
    exact ⟨(hit.lt hk).2.2.1, (hit.lt hk).2.2.2.1⟩
  have hbox : ∀ {B : Nat} {cs : Array Value}, W.heap[B]? = some (.cells cs 25 (0, 0)) → W'.heap[B]? = some (.cells cs 25 (0, 0)) := fun hB => hc.heap hB (fun hm => by
    simp only [Option.mem_toList] at hm
    obtain ⟨cur, hcur⟩ := (hit.lt hm).2.2.2.2
    rw [hB] at hcur
    simp at hcur)
  constructor
  case chg => exact h.chg.trans hc (fun j hj => .inr (by simp only [Option.mem_toList] at hj; exact (hit.lt hj).1))
  all_goals simp only [updL_same, e 1 (by decide), e 5 (by decide), e 7 (by decide), e 8 (by decide), e 9 (by decide), e 10 (by decide), e 11 (by decide), n10]
  case x1 => exact fun _ => ⟨hx, hit.nds, hit.own.chg hc hS, hr⟩
  case x3 => first | exact fun _ => ⟨rfl, hl1⟩ | exact fun _ => ⟨trivial, hl1⟩ | exact fun _ => hl1
  case y5 => exact fun h5 => ⟨(h.y5 h5).1, (h.y5 h5).2.apart hc hS (fun k hk hm => by simp only [Option.mem_toList] at hm; exact h.dis hl1 h5 k hm hk)⟩
  case y7 => exact h.y7
  case dis => exact h.dis
  case z8 =>
    intro h8
    obtain ⟨p1, p2, p3⟩ := h.z8 h8
    rw [n10] at p3
    exact ⟨p1, p2, hbox p3⟩
  case z9 => exact fun h9 => ⟨(h.z9 h9).1, (h.z9 h9).2.1, hbox (h.z9 h9).2.2⟩
  case zne => exact h.zne
  case d10 => intro h; cases h
  case d11 => exact h.d11
/-- The other one is named. -/
theorem PairI.step7 (h : PairI w0 P Q g l u43 u45 u47 u49 u7 u8 b1 d1 b2 d2 L e1 f1 e2 f2 M B7 B8 W) (hl1 : l 5 = true) (hl : l 7 = false) (hc : Chg (Value.slice e1 g.rules.length f1).ownBlock.toList W W') (hr : FreshRules w0.heap.size W' e1 f1 (wrapG Q g).rules) :
    PairI w0 P Q g (updL l 7) u43 u45 u47 (gramV Q g e1 f1 e2 f2) u7 u8 b1 d1 b2 d2 L e1 f1 e2 f2 M B7 B8 W' := by
  have n10 : l 11 = false := by cases h3 : l 11 with | false => rfl | true => (have := (h.d11 h3).1; rw [hl] at this; cases this)
  have e : ∀ j, j ≠ 7 → updL l 7 j = l j := fun j h0 => updL_ne l h0
  obtain ⟨hx, hit⟩ := h.y5 hl1
  have hS : ∀ k ∈ (Value.slice e1 g.rules.length f1).ownBlock.toList, NotRow W 32 k ∧ NotRow W 3 k := fun k hk => by
    simp only [Option.mem_toList] at hk
    exact ⟨(hit.lt hk).2.2.1, (hit.lt hk).2.2.2.1⟩
  have hbox : ∀ {B : Nat} {cs : Array Value}, W.heap[B]? = some (.cells cs 25 (0, 0)) → W'.heap[B]? = some (.cells cs 25 (0, 0)) := fun hB => hc.heap hB (fun hm => by
    simp only [Option.mem_toList] at hm
    obtain ⟨cur, hcur⟩ := (hit.lt hm).2.2.2.2
    rw [hB] at hcur
    simp at hcur)
  constructor
  case chg => exact h.chg.trans hc (fun j hj => .inr (by simp only [Option.mem_toList] at hj; exact (hit.lt hj).1))
  all_goals simp only [updL_same, e 1 (by decide), e 5 (by decide), e 3 (by decide), e 8 (by decide), e 9 (by decide), e 10 (by decide), e 11 (by decide), n10]
  case y5 => exact fun _ => ⟨hx, hit.nds, hit.own.chg hc hS, hr⟩
  case y7 => first | exact fun _ => ⟨rfl, hl1⟩ | exact fun _ => ⟨trivial, hl1⟩ | exact fun _ => hl1
  case x1 => exact fun h5 => ⟨(h.x1 h5).1, (h.x1 h5).2.apart hc hS (fun k hk hm => by simp only [Option.mem_toList] at hm; exact h.dis h5 hl1 k hk hm)⟩
  case x3 => exact h.x3
  case dis => exact h.dis
  case z9 =>
    intro h8
    obtain ⟨p1, p2, p3⟩ := h.z9 h8
    rw [n10] at p3
    exact ⟨p1, p2, hbox p3⟩
  case z8 => exact fun h9 => ⟨(h.z8 h9).1, (h.z8 h9).2.1, hbox (h.z8 h9).2.2⟩
  case zne => exact h.zne
  case d11 => intro h; cases h
  case d10 => exact h.d10
/-- The first box. -/
theorem PairI.step8 (h : PairI w0 P Q g l u43 u45 u47 u49 u7 u8 b1 d1 b2 d2 L e1 f1 e2 f2 M B7 B8 W) (hl : l 8 = false) :
    PairI w0 P Q g (updL l 8) u43 u45 u47 u49 (.pointer (some ⟨W.heap.size, 0, none⟩)) u8 b1 d1 b2 d2 L e1 f1 e2 f2 M W.heap.size B8 (W.alloc (.cells zeroCells 25)) := by
  have n10 : l 10 = false := by cases h3 : l 10 with | false => rfl | true => (have := (h.d10 h3).2; rw [hl] at this; cases this)
  have e : ∀ j, j ≠ 8 → updL l 8 j = l j := fun j h0 => updL_ne l h0
  have hc := (Chg.refl [] W).alloc (.cells zeroCells 25)
  constructor
  case chg => exact h.chg.tr hc
  all_goals simp only [updL_same, e 1 (by decide), e 3 (by decide), e 5 (by decide), e 7 (by decide), e 9 (by decide), e 10 (by decide), e 11 (by decide), n10]
  case x1 => exact fun h5 => ⟨(h.x1 h5).1, (h.x1 h5).2.world hc⟩
  case x3 => exact h.x3
  case y5 => exact fun h5 => ⟨(h.y5 h5).1, (h.y5 h5).2.world hc⟩
  case y7 => exact h.y7
  case dis => exact h.dis
  case z8 => exact fun _ => ⟨by first | rfl | trivial, h.chg.size, heap_alloc_same _ _⟩
  case z9 => exact fun h9 => ⟨(h.z9 h9).1, (h.z9 h9).2.1, hc.heap (h.z9 h9).2.2 (by simp)⟩
  case zne =>
    intro _ h9 e0
    have := lt_of_block (h.z9 h9).2.2
    omega
  case d10 => intro h; cases h
  case d11 => exact h.d11
theorem PairI.step9 (h : PairI w0 P Q g l u43 u45 u47 u49 u7 u8 b1 d1 b2 d2 L e1 f1 e2 f2 M B7 B8 W) (hl : l 9 = false) :
    PairI w0 P Q g (updL l 9) u43 u45 u47 u49 u7 (.pointer (some ⟨W.heap.size, 0, none⟩)) b1 d1 b2 d2 L e1 f1 e2 f2 M B7 W.heap.size (W.alloc (.cells zeroCells 25)) := by
  have n10 : l 11 = false := by cases h3 : l 11 with | false => rfl | true => (have := (h.d11 h3).2; rw [hl] at this; cases this)
  have e : ∀ j, j ≠ 9 → updL l 9 j = l j := fun j h0 => updL_ne l h0
  have hc := (Chg.refl [] W).alloc (.cells zeroCells 25)
  constructor
  case chg => exact h.chg.tr hc
  all_goals simp only [updL_same, e 1 (by decide), e 3 (by decide), e 5 (by decide), e 7 (by decide), e 8 (by decide), e 10 (by decide), e 11 (by decide), n10]
  case x1 => exact fun h5 => ⟨(h.x1 h5).1, (h.x1 h5).2.world hc⟩
  case x3 => exact h.x3
  case y5 => exact fun h5 => ⟨(h.y5 h5).1, (h.y5 h5).2.world hc⟩
  case y7 => exact h.y7
  case dis => exact h.dis
  case z9 => exact fun _ => ⟨by first | rfl | trivial, h.chg.size, heap_alloc_same _ _⟩
  case z8 => exact fun h9 => ⟨(h.z8 h9).1, (h.z8 h9).2.1, hc.heap (h.z8 h9).2.2 (by simp)⟩
  case zne =>
    intro h9 _ e0
    have := lt_of_block (h.z8 h9).2.2
    omega
  case d11 => intro h; cases h
  case d10 => exact h.d10
/-- What is put into a box. -/
theorem PairI.step10 (h : PairI w0 P Q g l u43 u45 u47 u49 u7 u8 b1 d1 b2 d2 L e1 f1 e2 f2 M B7 B8 W) (h3 : l 3 = true) (h8 : l 8 = true) (hl : l 10 = false) :
    PairI w0 P Q g (updL l 10) u43 u45 u47 u49 u7 u8 b1 d1 b2 d2 L e1 f1 e2 f2 M B7 B8 ((W.setCell ⟨B7, 0, none⟩ (.slice b1 g.rules.length d1)).setCell ⟨B7, 1, none⟩ (.slice b2 (wrapG P g).nodes.length d2)) := by
  have e : ∀ j, j ≠ 10 → updL l 10 j = l j := fun j h0 => updL_ne l h0
  obtain ⟨p1, p2, p3⟩ := h.z8 h8
  rw [hl] at p3
  have hc := ((Chg.refl [B7] W).setCell (p := ⟨B7, 0, none⟩) (.inl (by simp)) (.slice b1 g.rules.length d1)).setCell (p := ⟨B7, 1, none⟩) (.inl (by simp)) (.slice b2 (wrapG P g).nodes.length d2)
  have hz := heap_setCell_same (heap_setCell_same p3 0 (.slice b1 g.rules.length d1)) 1 (.slice b2 (wrapG P g).nodes.length d2)
  have hS : ∀ k ∈ [B7], NotRow W 32 k ∧ NotRow W 3 k := fun k hk => by simp only [List.mem_singleton] at hk; subst hk; exact ⟨.of_cells p3 (by decide), .of_cells p3 (by decide)⟩
  have hR : ∀ {nm : Bool} {P' : List Nd} {c1 : Option Addr} {k1 : Nat} {c2 : Option Addr} {k2 : Nat} {N : List Cp}, Item w0.heap.size W P' g nm c1 k1 c2 k2 N → ∀ k, (Value.slice c1 g.rules.length k1).ownBlock = some k → k ∉ [B7] := fun hi k hk hm => by
    simp only [List.mem_singleton] at hm
    subst hm
    obtain ⟨cur, hcur⟩ := (hi.lt hk).2.2.2.2
    rw [p3] at hcur
    simp at hcur
  constructor
  case chg => exact h.chg.trans hc (fun j hj => .inr (by simp at hj; omega))
  all_goals simp only [updL_same, e 1 (by decide), e 3 (by decide), e 5 (by decide), e 7 (by decide), e 8 (by decide), e 9 (by decide), e 11 (by decide)]
  case x1 => exact fun h5 => ⟨(h.x1 h5).1, (h.x1 h5).2.apart hc hS (hR (h.x1 h5).2)⟩
  case x3 => exact h.x3
  case y5 => exact fun h5 => ⟨(h.y5 h5).1, (h.y5 h5).2.apart hc hS (hR (h.y5 h5).2)⟩
  case y7 => exact h.y7
  case dis => exact h.dis
  case z8 => exact fun _ => ⟨p1, p2, by rw [hz]; rfl⟩
  case z9 => exact fun h9 => ⟨(h.z9 h9).1, (h.z9 h9).2.1, hc.heap (h.z9 h9).2.2 (by have := h.zne h8 h9; simp; omega)⟩
  case zne => exact h.zne
  case d10 => exact fun _ => ⟨h3, h8⟩
  case d11 => exact h.d11
theorem PairI.step11 (h : PairI w0 P Q g l u43 u45 u47 u49 u7 u8 b1 d1 b2 d2 L e1 f1 e2 f2 M B7 B8 W) (h3 : l 7 = true) (h8 : l 9 = true) (hl : l 11 = false) :
    PairI w0 P Q g (updL l 11) u43 u45 u47 u49 u7 u8 b1 d1 b2 d2 L e1 f1 e2 f2 M B7 B8 ((W.setCell ⟨B8, 0, none⟩ (.slice e1 g.rules.length f1)).setCell ⟨B8, 1, none⟩ (.slice e2 (wrapG Q g).nodes.length f2)) := by
  have e : ∀ j, j ≠ 11 → updL l 11 j = l j := fun j h0 => updL_ne l h0
  obtain ⟨p1, p2, p3⟩ := h.z9 h8
  rw [hl] at p3
  have hc := ((Chg.refl [B8] W).setCell (p := ⟨B8, 0, none⟩) (.inl (by simp)) (.slice e1 g.rules.length f1)).setCell (p := ⟨B8, 1, none⟩) (.inl (by simp)) (.slice e2 (wrapG Q g).nodes.length f2)
  have hz := heap_setCell_same (heap_setCell_same p3 0 (.slice e1 g.rules.length f1)) 1 (.slice e2 (wrapG Q g).nodes.length f2)
  have hS : ∀ k ∈ [B8], NotRow W 32 k ∧ NotRow W 3 k := fun k hk => by simp only [List.mem_singleton] at hk; subst hk; exact ⟨.of_cells p3 (by decide), .of_cells p3 (by decide)⟩
  have hR : ∀ {nm : Bool} {P' : List Nd} {c1 : Option Addr} {k1 : Nat} {c2 : Option Addr} {k2 : Nat} {N : List Cp}, Item w0.heap.size W P' g nm c1 k1 c2 k2 N → ∀ k, (Value.slice c1 g.rules.length k1).ownBlock = some k → k ∉ [B8] := fun hi k hk hm => by
    simp only [List.mem_singleton] at hm
    subst hm
    obtain ⟨cur, hcur⟩ := (hi.lt hk).2.2.2.2
    rw [p3] at hcur
    simp at hcur
  constructor
  case chg => exact h.chg.trans hc (fun j hj => .inr (by simp at hj; omega))
  all_goals simp only [updL_same, e 1 (by decide), e 3 (by decide), e 5 (by decide), e 7 (by decide), e 8 (by decide), e 9 (by decide), e 10 (by decide)]
  case x1 => exact fun h5 => ⟨(h.x1 h5).1, (h.x1 h5).2.apart hc hS (hR (h.x1 h5).2)⟩
  case x3 => exact h.x3
  case y5 => exact fun h5 => ⟨(h.y5 h5).1, (h.y5 h5).2.apart hc hS (hR (h.y5 h5).2)⟩
  case y7 => exact h.y7
  case dis => exact h.dis
  case z9 => exact fun _ => ⟨p1, p2, by rw [hz]; rfl⟩
  case z8 => exact fun h9 => ⟨(h.z8 h9).1, (h.z8 h9).2.1, hc.heap (h.z8 h9).2.2 (by have := h.zne h9 h8; simp; omega)⟩
  case zne => exact h.zne
  case d11 => exact fun _ => ⟨h3, h8⟩
  case d10 => exact h.d10
end


theorem gramN_from : ∀ (bs : List (List Nd)) (o : Nat) (x : Nd), x ∈ gramN bs o → ∃ b ∈ bs, ∃ y ∈ b, ∃ oi : Nat, oi ≤ o + sumL bs ∧ x = y.shift oi := by
  intro bs
  induction bs with
  | nil => intro o x h; cases h
  | cons b bs ih =>
    intro o x h
    simp only [gramN, List.mem_append, movedL, List.mem_map] at h
    rcases h with ⟨y, hy, rfl⟩ | h
    · exact ⟨b, by simp, y, hy, o, by omega, rfl⟩
    · obtain ⟨c, hc, y, hy, oi, ho, rfl⟩ := ih _ _ h
      refine ⟨c, by simp [hc], y, hy, oi, ?_, rfl⟩
      simp only [sumL, List.map_cons, List.sum_cons] at ho ⊢
      omega
theorem gramO_from : ∀ (bs : List (List Nd)) (o : Nat) (z : Int), z ∈ gramO bs o → 0 ≤ z ∧ z ≤ o + sumL bs := by
  intro bs
  induction bs with
  | nil => intro o x h; cases h
  | cons b bs ih =>
    intro o z h
    simp only [gramO, List.mem_cons] at h
    rcases h with rfl | h
    · omega
    · have := ih _ _ h
      simp only [sumL, List.map_cons, List.sum_cons] at this ⊢
      omega
theorem gramN_length : ∀ (bs : List (List Nd)) (o : Nat), (gramN bs o).length = sumL bs := by
  intro bs
  induction bs with
  | nil => intro o; rfl
  | cons b bs ih => intro o; simp [gramN, movedL_len, ih, sumL]
theorem wrap_wf {P : List Nd} (hP : P.length ≤ 10) (hp : ∀ x ∈ P, x.kids.length ≤ 10 ∧ ∀ z ∈ x.kids, 0 ≤ z ∧ z ≤ 10) (hw : ∀ x ∈ P, I64 x.k ∧ I64 x.r ∧ I64 x.l ∧ x.s.size ≤ maxLen) {g : Gr} (hr : rightB g = true) (hn : g.nodes.length ≤ 300) (hk : ∀ x ∈ g.nodes, x.kids.length ≤ 300) (wf : g.Wf) :
    (wrapG P g).Wf ∧ Reach (wrapG P g) := by
  obtain ⟨hs, hsum, -⟩ := wrap_small hP hp hr hn hk
  have hnode : ∀ x ∈ (wrapG P g).nodes, x.Wf ∧ x.kids.length ≤ 17592186044416 := by
    intro x hx
    obtain ⟨b, hb, y, hy, oi, ho, rfl⟩ := gramN_from _ _ _ hx
    have hsb := hs b hb
    have hkid := hsb.kids y hy
    have hf : I64 y.k ∧ I64 y.r ∧ I64 y.l ∧ y.s.size ≤ maxLen := by
      obtain ⟨i, hi, rfl⟩ := List.mem_iff_getElem.1 hb
      have hi' : i < g.rules.length := by rw [wrapL_len] at hi; exact hi
      rw [wrapL_at P g hi'] at hy
      rcases List.mem_append.1 hy with hy | hy
      · exact hw y hy
      · simp only [movedL, List.mem_map] at hy
        obtain ⟨u, hu, rfl⟩ := hy
        obtain ⟨q, hq, hqn⟩ := right_body hr hi'
        obtain ⟨t, ht, htab, -⟩ := right_tab hr
        obtain ⟨z, hh, hz0, hz1, -, -, hz2⟩ := right_aft ht hqn
        obtain ⟨e1, e2⟩ := bodyOf_at hr hz2
        rw [hq, e1] at hu
        simp only [movedL, List.mem_map] at hu
        obtain ⟨v, hv, rfl⟩ := hu
        have hv' := wf.nodes v (List.mem_of_mem_drop (List.mem_of_mem_take hv))
        exact ⟨hv'.k, hv'.r, hv'.l, hv'.s⟩
    refine ⟨⟨hf.1, hf.2.1, hf.2.2.1, fun z hz => ?_, hf.2.2.2⟩, ?_⟩
    · simp only [Nd.shift, List.mem_map] at hz
      obtain ⟨u, hu, rfl⟩ := hz
      have := hkid.2 u hu
      simp only [I64]
      omega
    · have := hkid.1
      simp only [Nd.shift, List.length_map]
      omega
  have hrules : ∀ r ∈ (wrapG P g).rules, r.name.size ≤ maxLen ∧ I64 r.body := by
    intro r hr2
    have hnm := wrapR_names g.rules (gramO (wrapL P g) 0) (by rw [gramO_len]; simp [wrapL])
    constructor
    · have h1 : r.name ∈ (wrapR g.rules (gramO (wrapL P g) 0)).map (·.name) := List.mem_map_of_mem hr2
      rw [hnm] at h1
      obtain ⟨r0, h2, h3⟩ := List.mem_map.1 h1
      rw [← h3]
      exact wf.names r0 h2
    · obtain ⟨i, hi, rfl⟩ := List.mem_iff_getElem.1 hr2
      have hi2 : i < (gramO (wrapL P g) 0).length := by
        have h5 := hi
        simp only [wrapG, wrapR, List.length_zipWith] at h5
        omega
      have h3 : (wrapG P g).rules[i].body = (gramO (wrapL P g) 0)[i] := by simp [wrapG, wrapR]
      have h4 := gramO_from _ _ _ (List.getElem_mem hi2)
      rw [h3]
      simp only [I64]
      omega
  refine ⟨⟨fun x hx => (hnode x hx).1, fun r h => (hrules r h).1, fun r h => (hrules r h).2⟩, ?_, ?_, fun x hx => (hnode x hx).2⟩
  · rw [wrap_rules]
    have := (right_sizes hr).2.1
    omega
  · show (gramN (wrapL P g) 0).length ≤ _
    rw [gramN_length]
    omega


structure FrontOk (P : List Nd) : Prop where
  len : P.length ≤ 10
  kids : ∀ x ∈ P, x.kids.length ≤ 10 ∧ ∀ z ∈ x.kids, 0 ≤ z ∧ z ≤ 10
  wf : ∀ x ∈ P, I64 x.k ∧ I64 x.r ∧ I64 x.l ∧ x.s.size ≤ maxLen
theorem hard_ok : FrontOk hardP := ⟨by decide, by decide +kernel, by unfold I64; decide +kernel⟩
theorem soft_ok : FrontOk softP := ⟨by decide, by decide +kernel, by unfold I64; decide +kernel⟩
theorem gram_call {w0 W : World} {ah : Option Addr} {qs ch : Nat} {P : List Nd} {g : Gr} {VS : List Vs} {B : Nat} (hP : FrontOk P) (hq : qs = g.rules.length) (hd : VS.map Vs.data = (wrapL P g).take qs) (ho : OwnBs B w0 ah ch VS) (hc : Chg [] w0 W)
    (hr : rightB g = true) (hn : g.nodes.length ≤ 300) (hk : ∀ x ∈ g.nodes, x.kids.length ≤ 300) (hs : qs ≤ 300) :
    Calls Try.prog 55 #[.slice ah qs ch] W fun e w' => ∃ a1 c1 a2 c2 L, e = .returned (gramV P g a1 c1 a2 c2) ∧ L.map (·.1) = (gramL (wrapL P g)).nodes ∧ FreshRules W.heap.size w' a1 c1 (gramL (wrapL P g)).rules ∧ OwnN W.heap.size w' a2 c2 L ∧ Chg [] W w' := by
  have hb := ho.bodies
  rw [hd, List.take_of_length_le (by rw [wrapL_len]; omega)] at hb
  obtain ⟨h1, h2, -⟩ := wrap_small hP.len hP.kids hr hn hk
  refine (Gram_any W ah qs ch (wrapL P g) (by rw [wrapL_len]; exact hq) (hb.keep hc.kp) h1 h2 hs).mono ?_
  rintro e w' ⟨a1, c1, a2, c2, L, rfl, h3⟩
  refine ⟨a1, c1, a2, c2, L, ?_, h3⟩
  rw [gramL_rules]
  rfl
theorem hard_quiet : ∀ x ∈ hardP, ∀ q, nodeB x q = true := by
  intro x hx q
  simp only [hardP, bareN, List.mem_cons, List.not_mem_nil, or_false] at hx
  rcases hx with rfl | rfl <;> simp [nodeB, nodeN] <;> decide +kernel
theorem soft_quiet : ∀ x ∈ softP, ∀ q, nodeB x q = true := by
  intro x hx q
  simp only [softP, bareN, List.mem_cons, List.not_mem_nil, or_false] at hx
  subst hx
  simp [nodeB, nodeN]
  decide +kernel
theorem soft_rules {g : Gr} (h : rightB (wrapG softP g) = true) : (rulesN (wrapG softP g)).length = g.rules.length := by
  simp only [rulesN, h, if_true, pickL, List.length_map, wrap_rules]
  rw [List.filter_eq_self.2 ?_, List.length_range]
  intro i hi
  rw [List.mem_range] at hi
  rw [soft_rank h hi]
  rfl
theorem nullRules_len {w : World} {a1 : Option Addr} {n1 c1 : Nat} {a2 : Option Addr} {n2 c2 : Nat} {g : Gr} (hg : GramAt w a1 n1 c1 a2 n2 c2 g) (hre : Reach g) {n : Nat} (hn : (rulesN g).length = n) :
    Calls Try.prog 42 #[.agg #[.slice a1 n1 c1, .slice a2 n2 c2]] w fun e w' => ∃ a c, e = .returned (.slice a n c) ∧ Chg [] w w' := by
  refine (nullRules_any w a1 n1 c1 a2 n2 c2 g hg hre).mono ?_
  rintro e w' ⟨a, c, rfl, -, hc⟩
  rw [hn]
  exact ⟨a, c, rfl, hc⟩
/-- The bodies, so far. -/
structure Wraps (Q : List Nd) (w3 : World) (g : Gr) (i : Nat) (ah : Option Addr) (ch : Nat) (av : Option Addr) (cs : Nat) (wr : World) : Prop where
  ex : ∃ VH VS : List Vs, VH.length = i ∧ VS.length = i ∧ VH.map Vs.data = (wrapL hardP g).take i ∧ VS.map Vs.data = (wrapL Q g).take i ∧ OwnBs w3.heap.size wr ah ch VH ∧ OwnBs w3.heap.size wr av cs VS
  ne : ∀ k, (Value.slice ah i ch).ownBlock = some k → (Value.slice av i cs).ownBlock = some k → False
  chg : Chg [] w3 wr
theorem Wraps.start (Q : List Nd) (w3 : World) (g : Gr) : Wraps Q w3 g 0 none 0 none 0 w3 := ⟨⟨[], [], rfl, rfl, rfl, rfl, OwnBs.nil _ _, OwnBs.nil _ _⟩, (fun k h => by cases h), Chg.refl _ _⟩
theorem vs_cell_one (p : Vs) : ∀ u ∈ [p.cell], u.oneCell' = true := by simp [Vs.cell, Value.oneCell']
/-- One list grows beside another one. -/
theorem grow_two {w3 w4 w5 : World} {i j : Nat} {ah ah' av : Option Addr} {ch ch' cs : Nat} {VH VS : List Vs} {p : Vs} (h5 : OwnBs w3.heap.size w4 ah ch VH) (h6 : OwnBs w3.heap.size w4 av cs VS) (h1 : VH.length = i) (h2 : VS.length = j)
    (hne : ∀ k, (Value.slice ah i ch).ownBlock = some k → (Value.slice av j cs).ownBlock = some k → False) (hp : OwnN w3.heap.size w4 p.1 p.2.1 p.2.2)
    (hr : w5.ownsRow w3.heap.size 23 1 (.slice ah' (i + 1) ch') (i + 1) (VH.map Vs.cell ++ [p.cell])) (hg : w4.grownBy w5 (Value.slice ah i ch).ownBlock)
    (hb : (Value.slice ah' (i + 1) ch').ownBlock = (Value.slice ah i ch).ownBlock ∨ (Value.slice ah' (i + 1) ch').ownBlock = some w4.heap.size) (hc : Chg [] w3 w4) :
    OwnBs w3.heap.size w5 ah' ch' (VH ++ [p]) ∧ OwnBs w3.heap.size w5 av cs VS ∧ (∀ k, (Value.slice ah' (i + 1) ch').ownBlock = some k → (Value.slice av j cs).ownBlock = some k → False) ∧ Chg [] w3 w5 ∧ ∀ a c L, OwnN w3.heap.size w4 a c L → OwnN w3.heap.size w5 a c L := by
  subst h1 h2
  have hcg : Chg (Value.slice ah VH.length ch).ownBlock.toList w4 w5 := (Chg.refl _ w4).grown hg (fun k hk => .inl (by rw [hk]; simp))
  have hS : ∀ k ∈ (Value.slice ah VH.length ch).ownBlock.toList, NotRow w4 32 k ∧ NotRow w4 3 k := by
    intro k hk
    simp only [Option.mem_toList] at hk
    exact ⟨row_notrow h5.row hk (by decide), row_notrow h5.row hk (by decide)⟩
  refine ⟨h5.snoc hp hr hg, h6.apart hcg hS (fun k hk hm => ?_), fun k hk hk2 => ?_, hc.trans hcg (fun j hj => .inr ?_), fun a c L h => h.chg hcg hS⟩
  · simp only [Option.mem_toList] at hm
    exact hne k hm hk
  · rcases hb with hb | hb
    · rw [hb] at hk
      exact hne k hk hk2
    · rw [hb] at hk
      cases hk
      have := (row_beyond h6.row hk2).2.1
      omega
  · simp only [Option.mem_toList] at hj
    exact (row_beyond h5.row hj).1
theorem hardP_len : hardP.length = 2 := rfl
theorem softP_len : softP.length = 1 := rfl
theorem data_len (p : Vs) : p.data.length = p.2.2.length := by simp [Vs.data]

end Go.Proofs.Ytibgfgfmljhimaa

/-
  A grammar in rows of its own: a rule is put to it, a node, a list of nodes.
  Conditions: none.
-/
import Derived.Test.YtibgfgfmljhimaaKB2
set_option linter.unusedVariables false
set_option linter.unusedSimpArgs false
set_option linter.unnecessarySimpa false
namespace Go.Proofs.Ytibgfgfmljhimaa
open Go.RowKit Go.MapKept Go.Shelf

/-- A grammar in the making: its box, the given one's box, its rows. -/
structure MakeG (w4 : World) (T b : Nat) (u0 u1 : Value) (b1 : Option Addr) (nr d1 : Nat) (b2 : Option Addr) (nl d2 : Nat) (rs : List Rl) (L : List Cp) (W : World) : Prop where
  lr : nr = rs.length
  ll : nl = L.length
  box : W.heap[T]? = some (.cells #[.slice b1 nr d1, .slice b2 nl d2] 25 (0, 0))
  gbox : W.heap[b]? = some (.cells #[u0, u1] 25 (0, 0))
  rules : FreshRules w4.heap.size W b1 d1 rs
  nodes : OwnN w4.heap.size W b2 d2 L
  chg : Chg [] w4 W
theorem MakeG.chg0 {w4 W W' : World} {T b : Nat} {u0 u1 : Value} {b1 : Option Addr} {nr d1 : Nat} {b2 : Option Addr} {nl d2 : Nat} {rs : List Rl} {L : List Cp} (h : MakeG w4 T b u0 u1 b1 nr d1 b2 nl d2 rs L W) (hc : Chg [] W W') : MakeG w4 T b u0 u1 b1 nr d1 b2 nl d2 rs L W' :=
  ⟨h.lr, h.ll, hc.heap h.box (by simp), hc.heap h.gbox (by simp), hc.row h.rules (fun _ _ => by simp), h.nodes.chg0 hc, h.chg.tr hc⟩
theorem MakeG.gram {w4 W : World} {T b : Nat} {u0 u1 : Value} {b1 : Option Addr} {nr d1 : Nat} {b2 : Option Addr} {nl d2 : Nat} {rs : List Rl} {L : List Cp} (h : MakeG w4 T b u0 u1 b1 nr d1 b2 nl d2 rs L W) {g : Gr} (h1 : rs = g.rules) (h2 : L.map (·.1) = g.nodes) (wf : g.Wf) : GramAt W b1 nr d1 b2 nl d2 g := by
  obtain rfl := h.lr
  obtain rfl := h.ll
  obtain ⟨k1, k2, k3, k4⟩ := rules_row (row_base h.rules (Nat.zero_le _))
  obtain ⟨m1, m2, m3⟩ := h.nodes.read
  rw [h1] at k1 k3 ⊢
  rw [h2] at m1
  have hl : L.length = g.nodes.length := by rw [← h2]; simp
  exact ⟨rfl, k3, k4, k1, hl, m2, m3, m1, wf⟩
theorem rulesCells_snoc (rs : List Rl) (r : Rl) : rulesCells (rs ++ [r]) = rulesCells rs ++ [.string r.name, .int .i64 r.body] := by simp [rulesCells, Rl.cells]
theorem nodesCells_app (L M : List Cp) : nodesCells (L ++ M) = nodesCells L ++ nodesCells M := by simp [nodesCells]
theorem nodesCells_one (p : Cp) : nodesCells [p] = p.cells := by simp [nodesCells]

/-- Its box and the given one's stay while a row grows that is of another type. -/
theorem MakeG.rule {w4 wB w6 : World} {T b : Nat} {u0 u1 : Value} {b1 : Option Addr} {nr d1 : Nat} {b2 : Option Addr} {nl d2 : Nat} {rs : List Rl} {L : List Cp} (h : MakeG w4 T b u0 u1 b1 nr d1 b2 nl d2 rs L wB) (hT4 : w4.heap.size ≤ T) (hb : b < w4.heap.size) {r : Rl} {a5 : Option Addr} {c5 : Nat}
    (hr : w6.ownsRow w4.heap.size 46 2 (.slice a5 (nr + 1) c5) (nr + 1) (rulesCells rs ++ [.string r.name, .int .i64 r.body])) (hg : wB.grownBy w6 (Value.slice b1 nr d1).ownBlock) :
    w6.heap[T]? = some (.cells #[.slice b1 nr d1, .slice b2 nl d2] 25 (0, 0)) ∧ MakeG w4 T b u0 u1 a5 (nr + 1) c5 b2 nl d2 (rs ++ [r]) L (w6.setCell ⟨T, 0, none⟩ (.slice a5 (nr + 1) c5)) := by
  have hlr := h.lr
  have hrr := h.rules
  rw [FreshRules, ← hlr] at hrr
  have hT := grown_heap hg h.box (ownsRow_ne hrr h.box (by decide))
  refine ⟨hT, ?_⟩
  have hG := grown_heap hg h.gbox (ownsRow_ne hrr h.gbox (by decide))
  have hc5 : Chg (Value.slice b1 nr d1).ownBlock.toList wB w6 := (Chg.refl _ _).grown hg (fun k hk => .inl (by rw [hk]; simp))
  have hcT := (Chg.refl [T] w6).setCell (p := ⟨T, 0, none⟩) (.inl (by simp)) (.slice a5 (nr + 1) c5)
  have hN5 := h.nodes.chg hc5 (fun k hk => by
    simp only [Option.mem_toList] at hk
    exact ⟨row_notrow hrr hk (by decide), row_notrow hrr hk (by decide)⟩)
  have hb2 : ∀ e, 25 ≠ e → ∀ k ∈ [T], NotRow w6 e k := fun e he k hk => by simp only [List.mem_singleton] at hk; subst hk; exact .of_cells hT he
  refine ⟨by rw [List.length_append, ← hlr]; rfl, h.ll, ?_, heap_set_ne hG (by omega), ?_, hN5.chg hcT (fun k hk => ⟨hb2 _ (by decide) k hk, hb2 _ (by decide) k hk⟩), ?_⟩
  · simpa using heap_setCell_same hT 0 (.slice a5 (nr + 1) c5)
  · rw [FreshRules, List.length_append, rulesCells_snoc, ← hlr]
    exact hcT.rowOf hr (hb2 _ (by decide))
  · have h1 := h.chg.grown hg (fun k hk => .inr (row_beyond hrr hk).1)
    exact h1.trans hcT (fun j hj => .inr (by simp at hj; omega))
/-- A list of nodes is put to it. -/
theorem MakeG.join {w4 wC w9 : World} {T b : Nat} {u0 u1 : Value} {b1 : Option Addr} {nr d1 : Nat} {b2 : Option Addr} {nl d2 : Nat} {rs : List Rl} {L M : List Cp} (h : MakeG w4 T b u0 u1 b1 nr d1 b2 nl d2 rs L wC) (hT4 : w4.heap.size ≤ T) (hb : b < w4.heap.size)
    (hM : ∀ p ∈ M, FreshInts w4.heap.size wC p.2.1 p.2.2 p.1.kids) (ha : M.Pairwise fun q p => ∀ i j, q.own = some i → p.own = some j → i ≠ j) (hx : ∀ q ∈ L, ∀ p ∈ M, ∀ i j, q.own = some i → p.own = some j → i ≠ j) {a6 : Option Addr} {ml c6 : Nat} (hml : ml = M.length)
    (hr : w9.ownsRow w4.heap.size 32 9 (.slice a6 (nl + ml) c6) (nl + ml) (nodesCells L ++ nodesCells M)) (hg : wC.grownBy w9 (Value.slice b2 nl d2).ownBlock) :
    w9.heap[T]? = some (.cells #[.slice b1 nr d1, .slice b2 nl d2] 25 (0, 0)) ∧ MakeG w4 T b u0 u1 b1 nr d1 a6 (nl + ml) c6 rs (L ++ M) (w9.setCell ⟨T, 1, none⟩ (.slice a6 (nl + ml) c6)) := by
  obtain rfl := h.ll
  subst hml
  have hT := grown_heap hg h.box (ownsRow_ne h.nodes.nodes h.box (by decide))
  refine ⟨hT, ?_⟩
  have hG := grown_heap hg h.gbox (ownsRow_ne h.nodes.nodes h.gbox (by decide))
  have hcT := (Chg.refl [T] w9).setCell (p := ⟨T, 1, none⟩) (.inl (by simp)) (.slice a6 (L.length + M.length) c6)
  have hc9 : Chg (Value.slice b2 L.length d2).ownBlock.toList wC w9 := (Chg.refl _ _).grown hg (fun k hk => .inl (by rw [hk]; simp))
  have hN9 := h.nodes.join hM ha hx hr hg
  have hb2 : ∀ e, 25 ≠ e → ∀ k ∈ [T], NotRow w9 e k := fun e he k hk => by simp only [List.mem_singleton] at hk; subst hk; exact .of_cells hT he
  refine ⟨h.lr, by rw [List.length_append], ?_, heap_set_ne hG (by omega), ?_, hN9.chg hcT (fun k hk => ⟨hb2 _ (by decide) k hk, hb2 _ (by decide) k hk⟩), ?_⟩
  · simpa using heap_setCell_same hT 1 (.slice a6 (L.length + M.length) c6)
  · exact hcT.rowOf (hc9.rowOf h.rules (fun k hk => by simp only [Option.mem_toList] at hk; exact row_notrow h.nodes.nodes hk (by decide))) (hb2 _ (by decide))
  · have h1 := h.chg.grown hg (fun k hk => .inr (row_beyond h.nodes.nodes hk).1)
    exact h1.trans hcT (fun j hj => .inr (by simp at hj; omega))
/-- A new row of one number. -/
theorem fresh_one {B : Nat} {W : World} {K : Nat} {z : Int} (hB : B ≤ K) (h : W.heap[K]? = some (.cells #[.int .i64 z] 3 (0, 0))) : FreshInts B W (some ⟨K, 0, none⟩) 1 [z] :=
  ⟨rfl, .inr ⟨K, 1, #[.int .i64 z], rfl, hB, h, Nat.le_refl _, by simp [maxLen], rfl, rfl⟩⟩
end Go.Proofs.Ytibgfgfmljhimaa

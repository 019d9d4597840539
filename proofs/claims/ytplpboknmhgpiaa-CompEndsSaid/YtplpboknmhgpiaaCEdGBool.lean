/-
  A region that draws its order and only makes memory, in the round of a range over a function.
  Conditions: none.
-/
import Derived.Test.YtplpboknmhgpiaaCEdGSeq
import Derived.Lib.QuietBelowIn
import Derived.Sort.QuietIn
import Derived.OwnWalkIn
import Derived.Test.YtplpboknmhgpiaaCEdNuC
import Derived.Test.YtplpboknmhgpiaaCEdG06T
set_option linter.unusedVariables false
set_option linter.unusedSimpArgs false
namespace Go.Proofs.Ytplpboknmhgpiaa
open Go.RowKit Go.MapKept Go.Shelf Go.Sort

def noDefer (ops : Array Oper) : Bool := ops.all fun o => match o.op with | .defer _ => false | _ => true
theorem noDefer_at {ops : Array Oper} (h : noDefer ops = true) {i : Nat} {o : Oper} (ho : ops[i]? = some o) : ∀ c, o.op ≠ .defer c := by
  intro c hc
  have h1 := (Array.all_eq_true_iff_forall_mem.1 h) o (Array.mem_of_getElem? ho)
  rw [hc] at h1
  cases h1
theorem wpOpIn_round {r n : Nat} {P : Program} {ops : Array Oper} {Q : Exit → Act → World → Prop} (hnd : noDefer ops = true) {i : Nat} {K : Act → World → Prop} {a : Act} {w : World} (h : wpOpIn Fence.wide n P ops Q i K a w) : wpOpIn (Fence.wide.inRound r) n P ops Q i K a w := by
  unfold wpOpIn at *
  cases ho : ops[i]? with
  | none => rw [ho] at h; exact h
  | some o =>
    rw [ho] at h
    simp only at h ⊢
    split
    · rename_i hw
      rw [if_pos hw] at h
      refine ⟨h.1, ?_⟩
      have h2 := h.2
      rw [Oper.semAt_plain Fence.wide _ _ (noDefer_at hnd ho)] at h2
      rw [Oper.semAt_plain (Fence.wide.inRound r) _ _ (noDefer_at hnd ho)]
      exact h2
    · rename_i hw
      rw [if_neg hw] at h
      exact h
theorem wpAnyIn_round {r n : Nat} {P : Program} {md : Region.Mode} {ops : Array Oper} {Q : Exit → Act → World → Prop} (hnd : noDefer ops = true) : ∀ (fuel : Nat) (listed : Array Bool) (a : Act) (w : World),
    wpAnyIn Fence.wide n P md ops Q fuel listed a w → wpAnyIn (Fence.wide.inRound r) n P md ops Q fuel listed a w
  | 0, _, _, _, h => h
  | fuel + 1, _, _, _, h => ⟨h.1, fun i hi => wpOpIn_round hnd (wpOpIn_mono (fun a' w' h' => wpAnyIn_round hnd fuel _ a' w' h') (h.2 i hi))⟩
theorem round_region_quiet {r n : Nat} {P : Program} {id : Nat} {Q : Exit → Act → World → Prop} {a : Act} {w : World} {l : List Oper} (hm : P.follows .mixedOrders = true) (hB : Region.lexB .any l.toArray = true) (hnd : noDefer l.toArray = true)
    (h : wpQuietIn Fence.wide n P l.toArray (fun w' => ∃ p : Regrown, w' = grow (redrawn w p.d) p.os) (fun a' => ∀ w', (∃ p : Regrown, w' = grow (redrawn w p.d) p.os) → Q .normal a' w') l a) : (Code.region id l.toArray true).wpIn (Fence.wide.inRound r) n P Q a w := by
  simp only [Region.lexB, Bool.and_eq_true] at hB
  refine wpIn_region_any hm (wpAnyIn_round hnd _ _ _ _ (wpAnyIn_of_quiet (C := fun w' => ∃ p : Regrown, w' = grow (redrawn w p.d) p.os) (Q := fun a' => ∀ w', (∃ p : Regrown, w' = grow (redrawn w p.d) p.os) → Q .normal a' w') rfl (fun _ w' hw' h => h w' hw') _ _ _ _ ⟨⟨w.drawn + 1, #[]⟩, by rw [grow_empty]; rfl⟩ ?_))
  have := wpAnyQIn_lex (F := Fence.wide) (n := n) (P := P) (C := fun w' => ∃ p : Regrown, w' = grow (redrawn w p.d) p.os) (md := .any) hB.1 l 0 (Array.replicate l.toArray.size false) a (by simp) (by simpa using hB.2) h
  simpa using this
theorem calls_rgIn {P : Program} {f : FuncId} {args : Array Value} {w : World} {v : Value} (h : ∀ w1, Chg [] w w1 → Calls P f args w1 fun e w' => e = .returned v ∧ Chg [] w1 w') :
    ∀ k d os, CallsIn Fence.wide k P f args (grow (redrawn w d) os) fun e w'' => e = .returned v ∧ ∃ p : Regrown, w'' = grow (redrawn w p.d) p.os := fun k d os => callsIn_wide.2 (calls_rg h d os)
/-- The caller's law where a round may break off: what follows is walked once. -/
theorem range_brk {n id : Nat} {P : Program} {α : Type} {g : Operand} {ps : Array Tmp} {assign body : Code} {Q : Exit → Act → World → Prop} {a : Act} {w : World}
    {gf : Nat} {lb : Array Value} (hg : a.eval g = .func (.func gf) #[] lb) (eg : ∀ args w, (callFunc gf args).run P w = .ok (.enter gf args) w)
    {encs : α → Array Value} {Hx : List α → α → World → Prop} {Kp : List α → α → World → World → Prop} {S Sp : List α → Prop} {w0 : World} (hseq : Gives P gf lb encs Hx Kp S Sp w0)
    (hH : ∀ pre x, Stays w.heap.size (Hx pre x))
    (hK : ∀ pre x A A1 A2 B B', Chg [] A A1 → Turn w.heap.size A1 A2 → Kp pre x A2 B → Turn w.heap.size B B' → Kp pre x A B')
    (hb0 : Chg [] w0 w) (hps : ∀ x, (encs x).size = ps.size)
    (I : List α → World → Prop) (I0 : World → Prop) (hI : ∀ s, Stays w.heap.size (I s)) (hI0 : Stays w.heap.size I0) (h0 : I [] w) (Ax : α → Act → World → Prop) (hAx : ∀ x a', Stays w.heap.size (Ax x a'))
    (hassign : ∀ (l : Nat) (pre : List α) (x : α) (W : World) (K : Act → World → Prop), I pre W → Hx pre x W → (∀ a' W', Chg [] W W' → Ax x a' W' → K a' W') →
      assign.wpIn (Fence.wide.inRound l) n P (Exit.then K (fun _ _ _ => False)) { tmps := (ps.zip (encs x)).foldl (fun t (p, v) => t.setIfInBounds p v) a.tmps, defers := [] } W)
    (hbody : ∀ (l : Nat) (pre : List α) (x : α) (a' : Act) (W : World), I pre W → Hx pre x W → Ax x a' W → body.wpIn (Fence.wide.inRound l) n P (bodyEnds w.heap.size Kp I (fun c _ W => c = .exit id ∧ I0 W) pre x W) a' W)
    (hend : ∀ (xs : List α) (W : World), S xs → I xs W → I0 W) (hQ : ∀ a w, Q .normal a w → Q (.exit id) a w)
    (hfin : ∀ (D : Nat) (W : World), w.heap.size ≤ D → I0 W → W.heap[D]? = some (.deferred (some [])) → Q .normal { a with defers := { target := .collected D, args := #[] } :: a.defers } W) :
    (Code.rangeFunc g ps assign body).wpIn Fence.wide n P Q a w :=
  range_gives hg eg hseq hH hK hb0 hps I (fun c _ W => c = .exit id ∧ I0 W) hI (fun _ _ => (Stays.pure _).and hI0) h0 Ax hAx hassign hbody
    (fun D xs W hD hS hi hd => hfin D W hD (hend xs W hS hi) hd)
    (fun D c pre W hD _ hx hd => by obtain ⟨rfl, hx⟩ := hx; exact wpIn_exit (hQ _ _ (hfin D W hD hx hd)))
theorem leave_none {n : Nat} {P : Program} {fn : Func} {tmps : Array Value} {R : Ending → World → Prop} {W : World} {v : Value} (hr : (results fn tmps).run P W = .ok v W) (hR : R (.returned v) W) :
    bodyPostM Fence.wide n P fn R .ret { tmps := tmps, defers := [] } W := ⟨v, hr, hR⟩
/-- At the return, two loops behind: a result that lies in a box. -/
theorem leave_two {n : Nat} {P : Program} {fn : Func} {tmps : Array Value} {R : Ending → World → Prop} {W : World} {D1 D2 B : Nat} {v : Value} {I : World → Prop} (h1 : W.heap[D1]? = some (.deferred (some []))) (h2 : W.heap[D2]? = some (.deferred (some []))) (hne : D1 ≠ D2) (hB1 : B ≤ D1) (hB2 : B ≤ D2)
    (hI : Stays B I) (h0 : I W) (hr : ∀ W', I W' → (results fn tmps).run P W' = .ok v W' ∧ R (.returned v) W') :
    bodyPostM Fence.wide n P fn R .ret { tmps := tmps, defers := [{ target := .collected D2, args := #[] }, { target := .collected D1, args := #[] }] } W := by
  have t2 : Turn B W (W.putObj D2 (.deferred none)) := ⟨_, _, _, hB2, h2, rfl, rfl, rfl⟩
  have h1' : (W.putObj D2 (.deferred none)).heap[D1]? = some (.deferred (some [])) := (World.putObj_heap_other hne).trans h1
  have t1 : Turn B (W.putObj D2 (.deferred none)) ((W.putObj D2 (.deferred none)).putObj D1 (.deferred none)) := ⟨_, _, _, hB1, h1', rfl, rfl, rfl⟩
  obtain ⟨q1, q2⟩ := hr _ (hI.turn (hI.turn h0 t2) t1)
  exact ⟨by simp, .inl ⟨_, _, rfl, run_takeDeferred h2, ⟨by simp, .inl ⟨_, _, rfl, run_takeDeferred h1', ⟨v, q1, q2⟩⟩⟩⟩⟩
end Go.Proofs.Ytplpboknmhgpiaa
set_option linter.unusedVariables false
set_option linter.unusedSimpArgs false
namespace Go.Proofs.Ytplpboknmhgpiaa
open Go.RowKit Go.MapKept Go.Shelf

/-- Rules, nodes and each node's kids in rows of their own, all beyond B. -/
structure OwnG (B : Nat) (w : World) (b1 : Option Addr) (d1 : Nat) (b2 : Option Addr) (d2 : Nat) (L : List Cp) (rs : List Rl) : Prop where
  rules : FreshRules B w b1 d1 rs
  nodes : w.ownsRow B 131 9 (.slice b2 L.length d2) L.length (nodesCells L)
  kids : ∀ p ∈ L, FreshInts B w p.2.1 p.2.2 p.1.kids
  apart : L.Pairwise fun q p => ∀ i j, q.own = some i → p.own = some j → i < j
theorem OwnG.gram {B : Nat} {w : World} {b1 : Option Addr} {d1 : Nat} {b2 : Option Addr} {d2 : Nat} {L : List Cp} {rs : List Rl} (h : OwnG B w b1 d1 b2 d2 L rs) (wf : Gr.Wf ⟨rs, L.map (·.1)⟩) : GramAt w b1 rs.length d1 b2 L.length d2 ⟨rs, L.map (·.1)⟩ := by
  obtain ⟨k1, k2, k3, k4⟩ := rules_row (row_base h.rules (Nat.zero_le _))
  obtain ⟨m1, m2, m3, m4⟩ := nodes_row (row_base h.nodes (Nat.zero_le _)) (fun p hp => (h.kids p hp).own)
  exact ⟨rfl, k3, k4, k1, by simp, m3, m4, m1, wf⟩
/-- What is no row of it is changed. -/
theorem OwnG.chg {B : Nat} {w w' : World} {S : List Nat} {b1 : Option Addr} {d1 : Nat} {b2 : Option Addr} {d2 : Nat} {L : List Cp} {rs : List Rl} (h : OwnG B w b1 d1 b2 d2 L rs) (hc : Chg S w w')
    (hS : ∀ k ∈ S, NotRow w 136 k ∧ NotRow w 131 k ∧ NotRow w 3 k) : OwnG B w' b1 d1 b2 d2 L rs :=
  ⟨hc.rowOf h.rules (fun k hk => (hS k hk).1), hc.rowOf h.nodes (fun k hk => (hS k hk).2.1), fun p hp => hc.rowOf (h.kids p hp) (fun k hk => (hS k hk).2.2), h.apart⟩
theorem OwnG.chg0 {B : Nat} {w w' : World} {b1 : Option Addr} {d1 : Nat} {b2 : Option Addr} {d2 : Nat} {L : List Cp} {rs : List Rl} (h : OwnG B w b1 d1 b2 d2 L rs) (hc : Chg [] w w') : OwnG B w' b1 d1 b2 d2 L rs := h.chg hc (by simp)
theorem OwnG.stays (B0 B : Nat) (b1 : Option Addr) (d1 : Nat) (b2 : Option Addr) (d2 : Nat) (L : List Cp) (rs : List Rl) : Stays B0 fun W => OwnG B W b1 d1 b2 d2 L rs :=
  ⟨fun h hc => h.chg0 hc, fun h ht => ⟨(Stays.row B0 _ _ _ _ _ _).turn h.rules ht, (Stays.row B0 _ _ _ _ _ _).turn h.nodes ht, fun p hp => (Stays.row B0 _ _ _ _ _ _).turn (h.kids p hp) ht, h.apart⟩⟩
/-- It lies apart from what lay below B. -/
theorem OwnG.below {B B' : Nat} {w : World} {b1 : Option Addr} {d1 : Nat} {b2 : Option Addr} {d2 : Nat} {L : List Cp} {rs : List Rl} (h : OwnG B w b1 d1 b2 d2 L rs) (hB : B' ≤ B) : OwnG B' w b1 d1 b2 d2 L rs :=
  ⟨row_base h.rules hB, row_base h.nodes hB, fun p hp => row_base (h.kids p hp) hB, h.apart⟩
/-- Blocks below B are changed. -/
theorem OwnG.under {B : Nat} {w w' : World} {S : List Nat} {b1 : Option Addr} {d1 : Nat} {b2 : Option Addr} {d2 : Nat} {L : List Cp} {rs : List Rl} (h : OwnG B w b1 d1 b2 d2 L rs) (hc : Chg S w w') (hS : ∀ k ∈ S, k < B) : OwnG B w' b1 d1 b2 d2 L rs := by
  have key : ∀ {e size n : Nat} {v : Value} {xs : List Value}, w.ownsRow B e size v n xs → w'.ownsRow B e size v n xs := fun h1 => hc.row h1 (fun k hk hm => by have := (row_beyond h1 hk).1; have := hS k hm; omega)
  exact ⟨key h.rules, key h.nodes, fun p hp => key (h.kids p hp), h.apart⟩
/-- The node's row, behind a node more. -/
theorem OwnG.snoc {B : Nat} {w w1 : World} {b1 : Option Addr} {d1 : Nat} {b2 b2' : Option Addr} {d2 d2' : Nat} {L : List Cp} {rs : List Rl} {p : Cp} (h : OwnG B w b1 d1 b2 d2 L rs) (hp : FreshInts B w p.2.1 p.2.2 p.1.kids) (ha : ∀ q ∈ L, ∀ i j, q.own = some i → p.own = some j → i < j)
    (hr : w1.ownsRow B 131 9 (.slice b2' (L.length + 1) d2') (L.length + 1) (nodesCells L ++ p.cells)) (hg : w.grownBy w1 (Value.slice b2 L.length d2).ownBlock) : OwnG B w1 b1 d1 b2' d2' (L ++ [p]) rs := by
  have hc : Chg (Value.slice b2 L.length d2).ownBlock.toList w w1 := (Chg.refl _ w).grown hg (fun k hk => .inl (by rw [hk]; simp))
  have hS : ∀ e, 131 ≠ e → ∀ k ∈ (Value.slice b2 L.length d2).ownBlock.toList, NotRow w e k := by
    intro e he k hk
    simp only [Option.mem_toList] at hk
    exact row_notrow h.nodes hk he
  refine ⟨hc.rowOf h.rules (hS _ (by decide)), ?_, ?_, ?_⟩
  · have : nodesCells (L ++ [p]) = nodesCells L ++ p.cells := by rw [nodesCells, nodesCells, List.flatMap_append, List.flatMap_singleton]
    rw [this, List.length_append]; exact hr
  · intro q hq
    rcases List.mem_append.1 hq with hq | hq
    · exact hc.rowOf (h.kids q hq) (hS _ (by decide))
    · simp only [List.mem_singleton] at hq
      subst hq
      exact hc.rowOf hp (hS _ (by decide))
  · rw [List.pairwise_append]
    exact ⟨h.apart, List.pairwise_singleton _ _, fun q hq r hr => by simp only [List.mem_singleton] at hr; subst hr; exact ha q hq⟩
theorem keepsFrom_of_chg {B : Nat} {S : List Nat} {A A' : World} (h : Chg S A A') (hS : ∀ k ∈ S, k < B ∨ ∃ cur t m, A.heap[k]? = some (.cells cur t m)) : KeepsFrom B A A' :=
  ⟨h.size, fun k o hB hk ho => h.heap hk (fun hm => by
    rcases hS k hm with h1 | ⟨cur, t, m, h1⟩
    · omega
    · rw [hk] at h1; cases h1; cases ho)⟩
end Go.Proofs.Ytplpboknmhgpiaa
set_option linter.unusedVariables false
set_option linter.unusedSimpArgs false
namespace Go.Proofs.Ytplpboknmhgpiaa
open Go.RowKit Go.MapKept Go.Shelf

/-! ### The answers -/
def rankI (g : Gr) (i : Int) : Int := if rightB g = true ∧ 0 ≤ i ∧ i < g.rules.length then (rankG g i.toNat : Int) else 0
def nodeI (g : Gr) (n : Int) : Bool := rightB g && (decide (0 ≤ n) && (decide (n < g.nodes.length) && mayG g n))
def pickL (n : Nat) (F : Nat → Bool) : List Int := ((List.range n).filter F).map fun (i : Nat) => (i : Int)
theorem pickL_succ (n : Nat) (F : Nat → Bool) : pickL (n + 1) F = pickL n F ++ if F n then [(n : Int)] else [] := by
  simp only [pickL, List.range_succ, List.filter_append, List.map_append]
  congr 1
  by_cases h : F n <;> simp [h]
theorem pickL_le (n : Nat) (F : Nat → Bool) : (pickL n F).length ≤ n := by
  have := List.length_filter_le F (List.range n)
  simpa [pickL] using this
def rulesN (g : Gr) : List Int := if rightB g then pickL g.rules.length (fun i => decide (0 < rankG g i)) else []
def nodesN (g : Gr) : List Int := if rightB g then pickL g.nodes.length (fun n => mayG g n) else []
theorem callsL_end (g : Gr) : mayN g.nodes (callsL (ranksL g g.rules.length)) = mayG g := by rw [callsL_ranks]; rfl

end Go.Proofs.Ytplpboknmhgpiaa
set_option linter.unusedVariables false
set_option linter.unusedSimpArgs false
namespace Go.Proofs.Ytplpboknmhgpiaa
open Go.RowKit Go.MapKept Go.Shelf

/-! ### Rows of truths -/
def rowB (bs : List Bool) : Obj := .cells (bs.map Value.bool).toArray 4 (0, 0)
theorem Try.infoBool : (Try.prog.info? 4).map (fun i => (i.zero, i.size, i.bytes)) = some (some (.bool false), 1, 1) := by kernel_rfl
theorem run_falses (n : Nat) (hn : n ≤ 1099511627776) (w : World) : (Instr.makeSlice 45 (.int .i64 n) (.int .i64 n)).run Try.prog w = .ok (.slice (some ⟨w.heap.size, 0, none⟩) n n) (w.alloc (rowB (List.replicate n false))) := by
  obtain ⟨i0, hi, hz0, hz1, hz2⟩ := info_parts Try.infoBool
  have h1 := run_make (P := Try.prog) w 45 4 i0 (.bool false) Try.underlying45 hi hz0 .i64 .i64 n n (by omega) (by omega) (by rw [hz2]; omega) (by omega)
  rw [h1]
  simp only [Int.toNat_natCast, hz1, rowB]
  have : madeCells (Value.bool false).cells (n * 1) = (List.map Value.bool (List.replicate n false)).toArray := by
    apply Array.ext
    · simp [madeCells]
    · intro i h1 h2
      simp [madeCells, Value.cells, Nat.mod_one]
  rw [this]
theorem rowB_cell {w : World} {b i : Nat} {bs : List Bool} {x : Bool} (h : w.heap[b]? = some (rowB bs)) (hx : bs[i]? = some x) : w.cell? ⟨b, i, none⟩ = some (.bool x) := by
  rw [cell_of_cells h]
  simp [hx]
theorem rowB_free {w : World} {b : Nat} {bs : List Bool} (h : w.heap[b]? = some (rowB bs)) (i : Nat) : w.frozen? ⟨b, i, none⟩ = false := free_of_cells h i
theorem rowB_set {w : World} {b i : Nat} {bs : List Bool} (x : Bool) (h : w.heap[b]? = some (rowB bs)) : (w.setCell ⟨b, i, none⟩ (.bool x)).heap[b]? = some (rowB (bs.set i x)) := by
  rw [heap_setCell_same h]
  simp [rowB, List.map_set]

/-! ### Which are told -/
/-- What the first k of the told nodes say. -/
def toldAt (g : Gr) (k : Nat) : List Bool := (List.range g.nodes.length).map fun (j : Nat) => decide ((j : Int) ∈ (nodesN g).take k)
theorem toldAt_len (g : Gr) (k : Nat) : (toldAt g k).length = g.nodes.length := by simp [toldAt]
theorem toldAt_zero (g : Gr) : toldAt g 0 = List.replicate g.nodes.length false := by
  apply List.ext_getElem
  · simp [toldAt]
  · intro j h1 h2; simp [toldAt]
theorem nodesN_at {g : Gr} {k : Nat} {z : Int} (h : (nodesN g)[k]? = some z) : ∃ q : Nat, z = q ∧ q < g.nodes.length := by
  have h1 := List.mem_of_getElem? h
  unfold nodesN at h1
  split at h1
  · simp only [pickL, List.mem_map, List.mem_filter, List.mem_range] at h1
    obtain ⟨q, ⟨h2, _⟩, rfl⟩ := h1
    exact ⟨q, rfl, h2⟩
  · cases h1
theorem toldAt_succ {g : Gr} {k q : Nat} (h : (nodesN g)[k]? = some (q : Int)) : toldAt g (k + 1) = (toldAt g k).set q true := by
  apply List.ext_getElem
  · simp [toldAt]
  · intro i h1 h2
    rw [List.getElem_set]
    simp only [toldAt, List.getElem_map, List.getElem_range, List.take_add_one, h, Option.toList_some, List.mem_append, List.mem_singleton]
    by_cases hq : q = i
    · subst hq
      rw [if_pos rfl]; simp
    · rw [if_neg hq]
      have : ¬ ((i : Int) = (q : Int)) := by omega
      simp [this]
end Go.Proofs.Ytplpboknmhgpiaa

/-
 The statement 'for x := range seq' where each round is told of what it is handed: what an iterator promises, and what the caller owes.
 Conditions: none.
-/
import Derived.Test.YtlklmpjakeedcaaGreatDoorSEnGRule
import Derived.RangeFuncNested
import Derived.RangeFuncLeaves
import Derived.Lib.QuietBelowIn
import Derived.Sort.QuietIn
import Derived.OwnWalkIn
import Derived.Test.YtlklmpjakeedcaaGreatDoorSEnGAny2
set_option linter.unusedVariables false
set_option linter.unusedSimpArgs false
namespace Go.Proofs.YtlklmpjakeedcaaGreatDoor
open Go.RowKit Go.MapKept Go.Shelf

/-- A block that is no cells, at or beyond B, is turned. -/
def Turn (B : Nat) (A A' : World) : Prop := ∃ l o o', B ≤ l ∧ A.heap[l]? = some o ∧ o.isCells = false ∧ o.isWalk = false ∧ A' = A.putObj l o'
/-- What new blocks, and such turns, leave as it is. -/
structure Stays (B : Nat) (I : World → Prop) : Prop where
 chg : ∀ {A A'}, I A → Chg [] A A' → I A'
 turn : ∀ {A A'}, I A → Turn B A A' → I A'
theorem Stays.and {B : Nat} {I I' : World → Prop} (h : Stays B I) (k : Stays B I') : Stays B fun W => I W ∧ I' W := ⟨fun a b => ⟨h.chg a.1 b, k.chg a.2 b⟩, fun a b => ⟨h.turn a.1 b, k.turn a.2 b⟩⟩
theorem Stays.ex {α : Type} {B : Nat} {I : α → World → Prop} (h : ∀ x, Stays B (I x)) : Stays B fun W => ∃ x, I x W := ⟨fun ⟨x, a⟩ b => ⟨x, (h x).chg a b⟩, fun ⟨x, a⟩ b => ⟨x, (h x).turn a b⟩⟩
theorem Stays.pure {B : Nat} (p : Prop) : Stays B fun _ => p := ⟨fun a _ => a, fun a _ => a⟩
theorem Turn.chg {B : Nat} {A A' : World} (h : Turn B A A') : ∃ l, B ≤ l ∧ Chg [l] A A' := by
 obtain ⟨l, o, o', hl, _, _, _, rfl⟩ := h
 exact ⟨l, hl, (Chg.refl [l] A).grown (grownBy_putObj' A l o') (fun k e => by cases e; exact .inl (by simp))⟩
theorem Turn.cell {B : Nat} {A A' : World} (h : Turn B A A') {p : Addr} {v : Value} (hc : A.cell? p = some v) : A'.cell? p = some v := by
 obtain ⟨l, o, o', hl, ho, hn, _, rfl⟩ := h
 exact cell_kept hc (grownBy_putObj' A l o') (fun r e => by cases e; exact ⟨o, ho, hn⟩)
theorem Turn.heap {B : Nat} {A A' : World} (h : Turn B A A') {k : Nat} {o : Obj} (hk : A.heap[k]? = some o) (ho : o.isCells = true) : A'.heap[k]? = some o := by
 obtain ⟨l, q, q', hl, hq, hn, _, rfl⟩ := h
 refine (World.putObj_heap_other (fun e => ?_)).trans hk
 subst e
 rw [hk] at hq
 cases hq
 rw [ho] at hn
 cases hn
theorem Turn.kp {B : Nat} {A A' : World} (h : Turn B A A') : Kp A A' := ⟨by obtain ⟨l, _, hc⟩ := h.chg; exact hc.size, fun p v e => h.cell e⟩
theorem Stays.block (B k : Nat) (o : Obj) (ho : o.isCells = true) : Stays B fun W => W.heap[k]? = some o := ⟨fun a b => b.heap a (by simp), fun a b => b.heap a ho⟩
theorem Stays.row (B base e size n : Nat) (v : Value) (xs : List Value) : Stays B fun W => W.ownsRow base e size v n xs := by
 refine ⟨fun a b => b.row a (fun _ _ => by simp), fun a b => ?_⟩
 refine ⟨a.1, ?_⟩
 rcases a.2 with h | ⟨g, cap, cur, h0, hb, hg, h1⟩
 ·exact .inl h
 ·exact .inr ⟨g, cap, cur, h0, hb, b.heap hg rfl, h1⟩
/-- What has turned since W0 is S's, and blocks at or beyond B. -/
theorem Stays.since (B : Nat) (S : List Nat) (W0 : World) (h : W0.heap.size ≤ B) : Stays B fun W => Chg S W0 W :=
 ⟨fun a b => a.tr0 b, fun a b => by obtain ⟨l, hl, hc⟩ := b.chg; exact a.trans hc (fun j hj => .inr (by simp at hj; omega))⟩

/-- AN ITERATOR's PROMISE: a round is told Hx of what it is handed; it owes Kp where it goes on. -/
def Gives {α : Type} (P : Program) (g : Nat) (lb : Array Value) (encs : α → Array Value) (Hx : List α → α → World → Prop) (Kp : List α → α → World → World → Prop) (S Sp : List α → Prop) (w : World) : Prop :=
 ∀ (n l : Nat) (J Jx : List α → World → Prop) (W : World), Chg [] w W → (∀ s A B, J s A → Chg [] A B → J s B) → (∀ s A B, Jx s A → Chg [] A B → Jx s B) →
  (∀ pre x W1, J pre W1 → Hx pre x W1 → YieldAt Fence.wide n P l (encs x) W1 fun e W' =>
   (e = .returned (.bool true) ∧ J (pre ++ [x]) W' ∧ Kp pre x W1 W') ∨ (e = .returned (.bool false) ∧ Jx (pre ++ [x]) W')) →
  J [] W →
  CallsIn Fence.wide (n + 1) P g (#[.func (.yield l) #[] #[]] ++ lb) W fun e W' => (∃ v, e = .returned v) ∧ ((∃ xs, S xs ∧ J xs W') ∨ (∃ pre, Sp pre ∧ Jx pre W'))

/-- How the body of a round may be left. -/
def bodyEnds {α : Type} (B : Nat) (Kp : List α → α → World → World → Prop) (I : List α → World → Prop) (Ix : Code → List α → World → Prop) (pre : List α) (x : α) (W : World) : Exit → Act → World → Prop
 | .normal, _, W' => KeepsFrom B W W' ∧ Kp pre x W W' ∧ I (pre ++ [x]) W'
 | .ret, _, W' => KeepsFrom B W W' ∧ Ix .ret (pre ++ [x]) W'
 | .exit id, _, W' => KeepsFrom B W W' ∧ Ix (.exit id) (pre ++ [x]) W'
 | .goto t, _, W' => KeepsFrom B W W' ∧ Ix (.goto t) (pre ++ [x]) W'
 | .panic _, _, _ => False
 | .outgrown, _, _ => False

/-- THE CALLER's LAW. -/
theorem range_gives {n : Nat} {P : Program} {α : Type} {g : Operand} {ps : Array Tmp} {assign body : Code} {Q : Exit → Act → World → Prop} {a : Act} {w : World}
  {gf : Nat} {lb : Array Value} (hg : a.eval g = .func (.func gf) #[] lb) (eg : ∀ args w, (callFunc gf args).run P w = .ok (.enter gf args) w)
  {encs : α → Array Value} {Hx : List α → α → World → Prop} {Kp : List α → α → World → World → Prop} {S Sp : List α → Prop} {w0 : World} (hseq : Gives P gf lb encs Hx Kp S Sp w0)
  (hH : ∀ pre x, Stays w.heap.size (Hx pre x))
  (hK : ∀ pre x A A1 A2 B B', Chg [] A A1 → Turn w.heap.size A1 A2 → Kp pre x A2 B → Turn w.heap.size B B' → Kp pre x A B')
  (hb0 : Chg [] w0 w) (hps : ∀ x, (encs x).size = ps.size)
  (I : List α → World → Prop) (Ix : Code → List α → World → Prop) (hI : ∀ s, Stays w.heap.size (I s)) (hIx : ∀ c s, Stays w.heap.size (Ix c s)) (h0 : I [] w) (Ax : α → Act → World → Prop) (hAx : ∀ x a', Stays w.heap.size (Ax x a'))
  (hassign : ∀ (l : Nat) (pre : List α) (x : α) (W : World) (K : Act → World → Prop), I pre W → Hx pre x W → (∀ a' W', Chg [] W W' → Ax x a' W' → K a' W') →
   assign.wpIn (Fence.wide.inRound l) n P (Exit.then K (fun _ _ _ => False)) { tmps := (ps.zip (encs x)).foldl (fun t (p, v) => t.setIfInBounds p v) a.tmps, defers := [] } W)
  (hbody : ∀ (l : Nat) (pre : List α) (x : α) (a' : Act) (W : World), I pre W → Hx pre x W → Ax x a' W → body.wpIn (Fence.wide.inRound l) n P (bodyEnds w.heap.size Kp I Ix pre x W) a' W)
  (hdone : ∀ (D : Nat) (xs : List α) (W : World), w.heap.size ≤ D → S xs → I xs W → W.heap[D]? = some (.deferred (some [])) → Q .normal { a with defers := { target := .collected D, args := #[] } :: a.defers } W)
  (hstop : ∀ (D : Nat) (c : Code) (pre : List α) (W : World), w.heap.size ≤ D → Sp pre → Ix c pre W → W.heap[D]? = some (.deferred (some [])) → c.wpIn Fence.wide n P Q { a with defers := { target := .collected D, args := #[] } :: a.defers } W) :
  (Code.rangeFunc g ps assign body).wpIn Fence.wide n P Q a w := by
 refine wpIn_rangeFunc ?_
 intro fn hfn
 obtain ⟨rec, hrec⟩ : ∃ rec : LoopState → Option Code → Loop, rec = fun st pe => { state := st, pending := pe, fn, tmps := a.tmps, params := ps, assign, body, defers := w.heap.size } := ⟨_, rfl⟩
 obtain ⟨W1, hW1⟩ : ∃ W1, (w.alloc (.deferred (some []))).alloc (.loop (rec .ready none)) = W1 := ⟨_, rfl⟩
 have hc1 : Chg [] w W1 := by rw [← hW1]; exact ((Chg.refl [] w).alloc _).alloc _
 have hL1 : W1.heap[w.heap.size + 1]? = some (.loop (rec .ready none)) := by
  rw [← hW1]; have := heap_alloc_same (w.alloc (.deferred (some []))) (.loop (rec .ready none)); rwa [World.size_alloc] at this
 have hD1 : W1.heap[w.heap.size]? = some (.deferred (some [])) := by rw [← hW1]; exact heap_alloc_lt (heap_alloc_same _ _) _
 refine ⟨w.heap.size + 1, [{ target := .collected w.heap.size, args := #[] }], W1, { target := .fn (.func gf) lb, args := #[.func (.yield (w.heap.size + 1)) #[] #[]] }, W1, gf,
  #[.func (.yield (w.heap.size + 1)) #[] #[]] ++ lb, W1, ?_, ?_, ?_, ?_, fun h => by simp [Fence.wide] at h, ?_⟩
 ·rw [← hW1, hrec]; exact run_enterLoop_outer _ _ _ _ _
 ·simp only [resolve, hg]
  simp [go_sem]
 ·intro _ _; trivial
 ·simp [invoke, go_sem, eg]
 ·-- the promise, at the caller's invariant and the loop's two own blocks
  refine callsIn_wide.2 (callsIn_wide.1 ((hseq n (w.heap.size + 1)
   (fun pre W => I pre W ∧ W.heap[w.heap.size + 1]? = some (.loop (rec .ready none)) ∧ W.heap[w.heap.size]? = some (.deferred (some [])))
   (fun pre W => ∃ c, Ix c pre W ∧ W.heap[w.heap.size + 1]? = some (.loop (rec .done (some c))) ∧ W.heap[w.heap.size]? = some (.deferred (some [])))
   W1 (hb0.tr0 hc1)
   (fun s A B h hc => ⟨(hI s).chg h.1 hc, hc.heap h.2.1 (by simp), hc.heap h.2.2 (by simp)⟩)
   (fun s A B h hc => by obtain ⟨c, hx, h1, h2⟩ := h; exact ⟨c, (hIx c s).chg hx hc, hc.heap h1 (by simp), hc.heap h2 (by simp)⟩)
   ?_ ⟨(hI _).chg h0 hc1, hL1, hD1⟩).mono ?_))
  ·rintro pre x W ⟨hi, hl, hd⟩ hx
   have hlt : w.heap.size + 1 < W.heap.size := (Array.getElem?_eq_some_iff.1 hl).1
   have hy := run_yield (P := P) (args := encs x) hl (by rw [hrec]; exact hps x)
   rw [hrec] at hy
   refine ⟨fn, _, assign, body, hy, roundIn_of_wpIn hfn (hassign _ pre x W _ hi hx ?_)⟩
   clear hy
   intro a' Wa hca hax
   replace hl := hca.heap hl (by simp)
   replace hd := hca.heap hd (by simp)
   replace hi := (hI _).chg hi hca
   replace hx := (hH _ _).chg hx hca
   replace hlt : w.heap.size + 1 < Wa.heap.size := (Array.getElem?_eq_some_iff.1 hl).1
   revert hca
   generalize W = Wb
   intro hca
   obtain ⟨W, rfl⟩ : ∃ W, W = Wa := ⟨_, rfl⟩
   refine ⟨_, run_beginRound hl (by rw [hrec]), ?_⟩
   have ht : Turn w.heap.size W (W.putObj (w.heap.size + 1) (.loop { rec .ready none with state := .busy })) := ⟨_, _, _, by omega, hl, rfl, rfl, rfl⟩
   have hl2 : (W.putObj (w.heap.size + 1) (.loop { rec .ready none with state := .busy })).heap[w.heap.size + 1]? = some (.loop { rec .ready none with state := .busy }) := World.putObj_heap_same hlt
   have hd2 : (W.putObj (w.heap.size + 1) (.loop { rec .ready none with state := .busy })).heap[w.heap.size]? = some (.deferred (some [])) := (World.putObj_heap_other (by omega)).trans hd
   refine wpIn_mono (hbody _ pre x a' _ ((hI _).turn hi ht) ((hH _ _).turn hx ht) ((hAx x a').turn hax ht)) ?_
   have fin : ∀ (jump : Option Code) (W3 : World), KeepsFrom w.heap.size (W.putObj (w.heap.size + 1) (.loop { rec .ready none with state := .busy })) W3 →
     (Instr.endRound (w.heap.size + 1) jump).run P W3 = .ok (.bool jump.isNone) (W3.putObj (w.heap.size + 1) (.loop (rec (if jump.isNone then .ready else .done) jump))) ∧
     Turn w.heap.size W3 (W3.putObj (w.heap.size + 1) (.loop (rec (if jump.isNone then .ready else .done) jump))) ∧
     (W3.putObj (w.heap.size + 1) (.loop (rec (if jump.isNone then .ready else .done) jump))).heap[w.heap.size + 1]? = some (.loop (rec (if jump.isNone then .ready else .done) jump)) ∧
     (W3.putObj (w.heap.size + 1) (.loop (rec (if jump.isNone then .ready else .done) jump))).heap[w.heap.size]? = some (.deferred (some [])) := fun jump W3 hk3 => by
    have hl3 := hk3.same _ _ (by omega) hl2 rfl
    have := run_endRound (P := P) jump hl3
    rw [hrec] at this hl3 ⊢
    exact ⟨this, ⟨_, _, _, by omega, hl3, rfl, rfl, rfl⟩, World.putObj_heap_same (Array.getElem?_eq_some_iff.1 hl3).1, (World.putObj_heap_other (by omega)).trans (hk3.same _ _ (Nat.le_refl _) hd2 rfl)⟩
   rintro e a3 W3 hp
   cases e with
   | normal =>
    obtain ⟨hr, t3, hl3, hd3⟩ := fin none W3 hp.1
    exact ⟨_, _, hr, .inl ⟨rfl, ⟨(hI _).turn hp.2.2 t3, hl3, hd3⟩, hK _ _ _ _ _ _ _ hca ht hp.2.1 t3⟩⟩
   | ret =>
    obtain ⟨hr, t3, hl3, hd3⟩ := fin (some .ret) W3 hp.1
    exact ⟨_, _, hr, .inr ⟨rfl, .ret, (hIx _ _).turn hp.2 t3, hl3, hd3⟩⟩
   | exit id =>
    obtain ⟨hr, t3, hl3, hd3⟩ := fin (some (.exit id)) W3 hp.1
    exact ⟨_, _, hr, .inr ⟨rfl, .exit id, (hIx _ _).turn hp.2 t3, hl3, hd3⟩⟩
   | goto t =>
    obtain ⟨hr, t3, hl3, hd3⟩ := fin (some (.goto t)) W3 hp.1
    exact ⟨_, _, hr, .inr ⟨rfl, .goto t, (hIx _ _).turn hp.2 t3, hl3, hd3⟩⟩
   | panic ch => exact hp.elim
   | outgrown => exact hp.elim
  ·rintro e W2 ⟨⟨v, rfl⟩, (⟨xs, hS, hi, hl, hd⟩ | ⟨pre, hSp, c, hi, hl, hd⟩)⟩
   ·exact ⟨none, _, by have := run_endLoop (P := P) hl (by rw [hrec]; simp); rw [hrec] at this; exact this,
     hdone _ xs _ (Nat.le_refl _) hS ((hI _).turn hi ⟨_, _, _, by omega, hl, rfl, rfl, rfl⟩) ((World.putObj_heap_other (by omega)).trans hd)⟩
   ·exact ⟨some c, _, by have := run_endLoop (P := P) hl (by rw [hrec]; simp); rw [hrec] at this; exact this,
     hstop _ c pre _ (Nat.le_refl _) hSp ((hIx _ _).turn hi ⟨_, _, _, by omega, hl, rfl, rfl, rfl⟩) ((World.putObj_heap_other (by omega)).trans hd)⟩
/-- At the return, one loop behind. -/
theorem leave_one {n : Nat} {P : Program} {fn : Func} {tmps : Array Value} {R : Ending → World → Prop} {W : World} {D1 B : Nat} {v : Value} {I : World → Prop} (h1 : W.heap[D1]? = some (.deferred (some []))) (hB1 : B ≤ D1)
  (hI : Stays B I) (h0 : I W) (hr : ∀ W', I W' → (results fn tmps).run P W' = .ok v W' ∧ R (.returned v) W') :
  bodyPostM Fence.wide n P fn R .ret { tmps := tmps, defers := [{ target := .collected D1, args := #[] }] } W := by
 have t1 : Turn B W (W.putObj D1 (.deferred none)) := ⟨_, _, _, hB1, h1, rfl, rfl, rfl⟩
 obtain ⟨q1, q2⟩ := hr _ (hI.turn h0 t1)
 exact ⟨by simp, .inl ⟨_, _, rfl, run_takeDeferred h1, ⟨v, q1, q2⟩⟩⟩

end Go.Proofs.YtlklmpjakeedcaaGreatDoor
set_option linter.unusedVariables false
set_option linter.unusedSimpArgs false
namespace Go.Proofs.YtlklmpjakeedcaaGreatDoor
open Go.RowKit Go.MapKept Go.Shelf Go.Sort

def noDefer (ops : Array Oper) : Bool := ops.all fun o => match o.op with | .defer _ => false | _ => true
theorem noDefer_at {ops : Array Oper} (h : noDefer ops = true) {i : Nat} {o : Oper} (ho : ops[i]? = some o) : ∀ c, o.op ≠ .defer c := by
 intro c hc
 have h1 := (Array.all_eq_true_iff_forall_mem.1 h) o (Array.mem_of_getElem? ho)
 rw [hc] at h1
 cases h1
theorem wpOpIn_round {r n : Nat} {P : Program} {ops : Array Oper} {Q : Exit → Act → World → Prop} (hnd : noDefer ops = true) {i : Nat} {K : Act → World → Prop} {a : Act} {w : World} (h : wpOpIn Fence.wide n P ops Q i K a w) : wpOpIn (Fence.wide.inRound r) n P ops Q i K a w := by
 unfold wpOpIn at *
 cases ho : ops[i]? with
 | none => rw [ho] at h; exact h
 | some o =>
  rw [ho] at h
  simp only at h ⊢
  split
  ·rename_i hw
   rw [if_pos hw] at h
   refine ⟨h.1, ?_⟩
   have h2 := h.2
   rw [Oper.semAt_plain Fence.wide _ _ (noDefer_at hnd ho)] at h2
   rw [Oper.semAt_plain (Fence.wide.inRound r) _ _ (noDefer_at hnd ho)]
   exact h2
  ·rename_i hw
   rw [if_neg hw] at h
   exact h
theorem wpAnyIn_round {r n : Nat} {P : Program} {md : Region.Mode} {ops : Array Oper} {Q : Exit → Act → World → Prop} (hnd : noDefer ops = true) : ∀ (fuel : Nat) (listed : Array Bool) (a : Act) (w : World),
  wpAnyIn Fence.wide n P md ops Q fuel listed a w → wpAnyIn (Fence.wide.inRound r) n P md ops Q fuel listed a w
 | 0, _, _, _, h => h
 | fuel + 1, _, _, _, h => ⟨h.1, fun i hi => wpOpIn_round hnd (wpOpIn_mono (fun a' w' h' => wpAnyIn_round hnd fuel _ a' w' h') (h.2 i hi))⟩
theorem round_region_quiet {r n : Nat} {P : Program} {id : Nat} {Q : Exit → Act → World → Prop} {a : Act} {w : World} {l : List Oper} (hm : P.follows .mixedOrders = true) (hB : Region.lexB .any l.toArray = true) (hnd : noDefer l.toArray = true)
  (h : wpQuietIn Fence.wide n P l.toArray (fun w' => ∃ p : Regrown, w' = grow (redrawn w p.d) p.os) (fun a' => ∀ w', (∃ p : Regrown, w' = grow (redrawn w p.d) p.os) → Q .normal a' w') l a) : (Code.region id l.toArray true).wpIn (Fence.wide.inRound r) n P Q a w := by
 simp only [Region.lexB, Bool.and_eq_true] at hB
 refine wpIn_region_any hm (wpAnyIn_round hnd _ _ _ _ (wpAnyIn_of_quiet (C := fun w' => ∃ p : Regrown, w' = grow (redrawn w p.d) p.os) (Q := fun a' => ∀ w', (∃ p : Regrown, w' = grow (redrawn w p.d) p.os) → Q .normal a' w') rfl (fun _ w' hw' h => h w' hw') _ _ _ _ ⟨⟨w.drawn + 1, #[]⟩, by rw [grow_empty]; rfl⟩ ?_))
 have := wpAnyQIn_lex (F := Fence.wide) (n := n) (P := P) (C := fun w' => ∃ p : Regrown, w' = grow (redrawn w p.d) p.os) (md := .any) hB.1 l 0 (Array.replicate l.toArray.size false) a (by simp) (by simpa using hB.2) h
 simpa using this
theorem leave_none {n : Nat} {P : Program} {fn : Func} {tmps : Array Value} {R : Ending → World → Prop} {W : World} {v : Value} (hr : (results fn tmps).run P W = .ok v W) (hR : R (.returned v) W) :
  bodyPostM Fence.wide n P fn R .ret { tmps := tmps, defers := [] } W := ⟨v, hr, hR⟩
end Go.Proofs.YtlklmpjakeedcaaGreatDoor
set_option linter.unusedVariables false
set_option linter.unusedSimpArgs false
set_option linter.unnecessarySimpa false
namespace Go.Proofs.YtlklmpjakeedcaaGreatDoor
open Go.RowKit

theorem wpAny_invB {P : Program} {ops : Array Oper} {Q : Exit → Act → World → Prop} {a : Act} {w : World} (hord : textOrderedB ops = true) (Inv : (Nat → Bool) → Act → World → Prop)
  (h0 : Inv (fun _ => false) a w)
  (hstep : ∀ l a w, Inv l a w → ∀ i, i < ops.size → l i = false → (∀ o, ops[i]? = some o → ∀ e ∈ o.after, Region.binds .any e = true → l e.on = true) → wpOp P ops Q i (Inv fun j => if j = i then true else l j) a w)
  (hdone : ∀ l a w, Inv l a w → (∀ i, i < ops.size → l i = true) → Q .normal a w) : wpAny P .any ops Q ops.size (Array.replicate ops.size false) a w := by
 refine wpAny_inv (fun listed a w => listed.size = ops.size ∧ Inv (fun j => listed.getD j false) a w) ?_ ?_ _ _ _ _ (by simp [openCount]; exact Nat.le_trans List.countP_le_length (by simp)) ⟨by simp, ?_⟩
 ·intro listed a w hI i hi
  obtain ⟨h1, h2, h3⟩ := ready_spec hi
  refine wpOp_mono (fun a' w' h => ⟨by simp [hI.1], ?_⟩) (hstep _ _ _ hI.2 i h1 (by rw [← getD_false hI.1 h1]; exact h2) h3)
  have e : (fun j => (listed.setIfInBounds i true).getD j false) = fun j => if j = i then true else listed.getD j false := funext fun j => set_getD hI.1 h1 j
  rw [e]
  exact h
 ·intro listed a w hI hr
  exact hdone _ _ _ hI.2 fun i hi => by rw [← getD_false hI.1 hi]; exact ready_doneB hord hr i hi
 ·have e : (fun j => (Array.replicate ops.size false).getD j false) = fun _ => false := funext fun j => by simp [Array.getD]
  rw [e]
  exact h0
theorem wpAny_mix {P : Program} {ops : Array Oper} {Q : Exit → Act → World → Prop} {a : Act} {w : World} (hord : textOrderedB ops = true) (ds : List Nat) (hds : tailOk ops ds 1 = true) (c1 c2 : Nat) (hc1 : c1 < ds.length) (hc2 : c2 < ds.length)
  (Φ : Nat → Value → Prop) (J : Bool → Bool → Value → Value → World → Prop) (h0 : ∀ v u, J false false v u w)
  (hstep : ∀ i, i < ds.length → ∀ us W l1 l2, J l1 l2 (us c1) (us c2) W → (i = c1 → l1 = false) → (i = c2 → l2 = false) → (waits ops i c1 = true → l1 = true) → (∀ j, waits ops i j = true → Φ j (us j)) → ∀ K : Act → World → Prop, (∀ v W' a', a' = (actU a ds us).put (some (ds.getD i 0)) v → J (if c1 = i then true else l1) (if c2 = i then true else l2) (if c1 = i then v else us c1) (if c2 = i then v else us c2) W' → Φ i v → K a' W') → wpOp P ops Q i K (actU a ds us) W)
  (hlast : ∀ us W, J true true (us c1) (us c2) W → (∀ i, i < ds.length → Φ i (us i)) → wpOp P ops Q ds.length (fun a' W' => Q .normal a' W') (actU a ds us) W) : wpAny P .any ops Q ops.size (Array.replicate ops.size false) a w := by
 simp only [tailOk, Bool.and_eq_true, decide_eq_true_eq] at hds
 obtain ⟨⟨⟨h1, h2⟩, h3⟩, h4⟩ := hds
 have hall : ∀ i, i < ds.length → i ∈ markD ops ds.length (depsOf ops ds.length) := fun i hi => by
  have h5 := List.all_eq_true.1 h4 0 (List.mem_range.2 (by omega))
  have h6 := List.all_eq_true.1 h5 i (List.mem_range.2 hi)
  simpa using h6
 refine wpAny_invB hord (fun l a' W => ClosedL ops l ∧ ((l ds.length = false ∧ ∃ us, a' = actU a ds us ∧ J (l c1) (l c2) (us c1) (us c2) W ∧ ∀ i, i < ds.length → l i = true → Φ i (us i)) ∨
  ((∀ i, i < ds.length + 1 → l i = true) ∧ Q .normal a' W))) ⟨(fun i _ h => by cases h), .inl ⟨rfl, _, (actU_start a ds).symm, h0 _ _, (fun i _ h => by cases h)⟩⟩ ?_ ?_
 ·rintro l a' W ⟨hcl, hor⟩ i hi hli hdep
  have ho : ops[i]? = some (ops.getD i default) := by simp [Array.getD, hi]
  have hd : ∀ j ∈ depsOf ops i, l j = true := fun j hj => by
   simp only [depsOf, List.mem_filterMap] at hj
   obtain ⟨e, he, hb⟩ := hj
   split at hb
   ·rename_i hb2
    cases hb
    exact hdep _ ho e (by rw [← Array.mem_toList_iff]; exact he) hb2
   ·cases hb
  have hcl' : ClosedL ops fun j => if j = i then true else l j := fun k hk hlk j hj => by
   by_cases e : j = i
   ·simp only [if_pos e]
   ·simp only [if_neg e]
    by_cases e2 : k = i
    ·subst e2; exact hd j hj
    ·simp only [if_neg e2] at hlk
     exact hcl k hk hlk j hj
  rcases hor with ⟨htl, us, rfl, hC, hl⟩ | ⟨hlt, hG⟩
  ·by_cases hiN : i < ds.length
   ·have hlj : ∀ j, waits ops i j = true → j < ds.length ∧ l j = true := fun j hj => by
     have hj2 := deps_waits hj
     refine ⟨?_, hd j hj2⟩
     have h8 := List.all_eq_true.1 hord i (List.mem_range.2 (by omega))
     simp only [depsOf, List.mem_filterMap] at hj2
     obtain ⟨e, he, hb⟩ := hj2
     split at hb
     ·rename_i hb2
      cases hb
      have h5 : e.on < i := by have h9 := (Array.all_eq_true_iff_forall_mem.1 h8) e (by rw [← Array.mem_toList_iff]; exact he); rw [hb2] at h9; simpa using h9
      omega
     ·cases hb
    refine hstep i hiN us W (l c1) (l c2) hC (fun e => by rw [← e]; exact hli) (fun e => by rw [← e]; exact hli) (fun hw => (hlj c1 hw).2) (fun j hj => hl j (hlj j hj).1 (hlj j hj).2) _ ?_
    rintro v W' a' rfl hc hv
    refine ⟨hcl', .inl ⟨by simp only [if_neg (show ¬ ds.length = i by omega)]; exact htl, updU us i v, (actU_upd ds a us i v h3 hiN).symm, ?_, fun j hj hlj => ?_⟩⟩
    ·have e1 : updU us i v c1 = if c1 = i then v else us c1 := rfl
     have e2 : updU us i v c2 = if c2 = i then v else us c2 := rfl
     rw [e1, e2]
     exact hc
    ·by_cases e : j = i
     ·subst e
      simpa [updU] using hv
     ·simp only [if_neg e] at hlj
      simp only [updU, if_neg e]
      exact hl j hj hlj
   ·obtain rfl : i = ds.length := by omega
    have hpre : ∀ j, j < ds.length → l j = true := fun j hj => markD_done hcl _ _ (by omega) hd j (hall j hj)
    refine wpOp_mono (fun a' W' hG => ⟨hcl', .inr ⟨fun j hj => ?_, hG⟩⟩) (hlast us W (by have := hC; rw [hpre c1 hc1, hpre c2 hc2] at this; exact this) (fun j hj => hl j hj (hpre j hj)))
    by_cases e : j = ds.length
    ·simp only [if_pos e]
    ·simp only [if_neg e]; exact hpre j (by omega)
  ·rw [hlt i (by omega)] at hli; cases hli
 ·rintro l a' W ⟨hcl, hor⟩ hfull
  rcases hor with ⟨htl, _⟩ | ⟨_, hG⟩
  ·rw [hfull ds.length (by omega)] at htl; cases htl
  ·exact hG
/-- Rows that are made lie apart; the last operations wait for all others. -/
theorem wp_region_fresh {P : Program} {ops : Array Oper} {Q : Exit → Act → World → Prop} {id : Nat} {a : Act} {w : World} (hm : P.follows .mixedOrders = true) (hord : textOrderedB ops = true) (ds : List Nat) (T : Nat) (hT : 1 ≤ T) (hds : tailOk ops ds T = true)
  (Φ : Nat → Value → World → Prop) (hΦ : ∀ i v W W', Chg [] W W' → Φ i v W → Φ i v W') (mk : Nat → Bool) (hmk : ∀ j v W, mk j = true → Φ j v W → ∀ x, v.ownBlock = some x → x < W.heap.size)
  (hstep : ∀ i, i < ds.length → ∀ us W, Chg [] w W → (∀ j, waits ops i j = true → Φ j (us j) W) → ∀ K : Act → World → Prop, (∀ v W' a', a' = (actU a ds us).put (some (ds.getD i 0)) v → Chg [] W W' → Φ i v W' → (mk i = true → ∀ x, v.ownBlock = some x → W.heap.size ≤ x) → K a' W') → wpOp P ops Q i K (actU a ds us) W)
  (G : Nat → Act → World → Prop)
  (hfirst : ∀ us W, Chg [] w W → (∀ i, i < ds.length → Φ i (us i) W) → (∀ i j, i < ds.length → j < ds.length → i ≠ j → mk i = true → mk j = true → ∀ x, (us i).ownBlock = some x → (us j).ownBlock ≠ some x) → wpOp P ops Q ds.length (G 1) (actU a ds us) W)
  (hnext : ∀ t, 1 ≤ t → t < T → ∀ a' W, G t a' W → wpOp P ops Q (ds.length + t) (G (t + 1)) a' W)
  (hdone : ∀ a' W, G T a' W → Q .normal a' W) : (Code.region id ops true).wp P Q a w := by
 simp only [tailOk, Bool.and_eq_true, decide_eq_true_eq] at hds
 obtain ⟨⟨⟨h1, h2⟩, h3⟩, h4⟩ := hds
 have hall : ∀ t, t < T → ∀ i, i < ds.length + t → i ∈ markD ops (ds.length + t) (depsOf ops (ds.length + t)) := fun t ht i hi => by
  have h5 := List.all_eq_true.1 h4 t (List.mem_range.2 ht)
  have h6 := List.all_eq_true.1 h5 i (List.mem_range.2 hi)
  simpa using h6
 refine wp_region_invB hm hord (fun l a' W => ClosedL ops l ∧ (((∀ t, t < T → l (ds.length + t) = false) ∧ ∃ us, a' = actU a ds us ∧ Chg [] w W ∧ (∀ i, i < ds.length → l i = true → Φ i (us i) W) ∧ (∀ i j, i < ds.length → j < ds.length → i ≠ j → l i = true → l j = true → mk i = true → mk j = true → ∀ x, (us i).ownBlock = some x → (us j).ownBlock ≠ some x)) ∨
  ∃ t, 1 ≤ t ∧ t ≤ T ∧ (∀ i, i < ds.length + t → l i = true) ∧ (∀ i, ds.length + t ≤ i → i < ds.length + T → l i = false) ∧ G t a' W)) ⟨(fun i _ h => by cases h), .inl ⟨(fun _ _ => rfl), _, (actU_start a ds).symm, (Chg.refl _ _).drew, (fun i _ h => by cases h), (fun i j _ _ _ h => by cases h)⟩⟩ ?_ ?_
 ·rintro l a' W ⟨hcl, hor⟩ i hi hli hdep
  have ho : ops[i]? = some (ops.getD i default) := by simp [Array.getD, hi]
  have hd : ∀ j ∈ depsOf ops i, l j = true := fun j hj => by
   simp only [depsOf, List.mem_filterMap] at hj
   obtain ⟨e, he, hb⟩ := hj
   split at hb
   ·rename_i hb2
    cases hb
    exact hdep _ ho e (by rw [← Array.mem_toList_iff]; exact he) hb2
   ·cases hb
  have hcl' : ClosedL ops fun j => if j = i then true else l j := fun k hk hlk j hj => by
   by_cases e : j = i
   ·simp only [if_pos e]
   ·simp only [if_neg e]
    by_cases e2 : k = i
    ·subst e2; exact hd j hj
    ·simp only [if_neg e2] at hlk
     exact hcl k hk hlk j hj
  rcases hor with ⟨htl, us, rfl, hC, hl, hap⟩ | ⟨t, ht1, ht2, hlt, hge, hG⟩
  ·by_cases hiN : i < ds.length
   ·refine hstep i hiN us W hC (fun j hj => ?_) _ ?_
    ·have hj2 := deps_waits hj
     refine hl j ?_ (hd j hj2)
     have h8 := List.all_eq_true.1 hord i (List.mem_range.2 (by omega))
     simp only [depsOf, List.mem_filterMap] at hj2
     obtain ⟨e, he, hb⟩ := hj2
     split at hb
     ·rename_i hb2
      cases hb
      have h5 : e.on < i := by have h9 := (Array.all_eq_true_iff_forall_mem.1 h8) e (by rw [← Array.mem_toList_iff]; exact he); rw [hb2] at h9; simpa using h9
      omega
     ·cases hb
    ·rintro v W' a' rfl hc hv hfr
     refine ⟨hcl', .inl ⟨fun t ht => by simp only [if_neg (show ¬ ds.length + t = i by omega)]; exact htl t ht, updU us i v, (actU_upd ds a us i v h3 hiN).symm, hC.tr hc, fun j hj hlj => ?_, fun j k hj hk hjk hlj hlk hmj hmk2 x hx hy => ?_⟩⟩
     ·by_cases e : j = i
      ·subst e
       simpa [updU] using hv
      ·simp only [if_neg e] at hlj
       simp only [updU, if_neg e]
       exact hΦ _ _ _ _ hc (hl j hj hlj)
     ·by_cases e : j = i
      ·have e2 : k ≠ i := fun h => hjk (e.trans h.symm)
       subst e
       simp only [if_neg e2] at hlk
       simp only [updU, if_neg e2, if_true] at hx hy
       have h1 := hfr hmj x hx
       have h2 := hmk k _ _ hmk2 (hl k hk hlk) x hy
       omega
      ·simp only [if_neg e] at hlj
       by_cases e2 : k = i
       ·subst e2
        simp only [updU, if_neg e, if_true] at hx hy
        have h1 := hfr hmk2 x hy
        have h2 := hmk j _ _ hmj (hl j hj hlj) x hx
        omega
       ·simp only [if_neg e2] at hlk
        simp only [updU, if_neg e, if_neg e2] at hx hy
        exact hap j k hj hk hjk hlj hlk hmj hmk2 x hx hy
   ·obtain ⟨t, rfl⟩ : ∃ t, i = ds.length + t := ⟨i - ds.length, by omega⟩
    have htT : t < T := by omega
    have hpre : ∀ j, j < ds.length + t → l j = true := fun j hj => markD_done hcl _ _ (by omega) hd j (hall t htT j hj)
    obtain rfl : t = 0 := by
     cases t with
     | zero => rfl
     | succ t => have h9 := hpre (ds.length + 0) (by omega); rw [htl 0 (by omega)] at h9; cases h9
    refine wpOp_mono (fun a' W' hG => ⟨hcl', .inr ⟨1, by omega, hT, fun j hj => ?_, fun j hj1 hj2 => ?_, hG⟩⟩) (hfirst us W hC (fun j hj => hl j hj (hpre j (by omega))) (fun j k hj hk hjk h1 h2 => hap j k hj hk hjk (hpre j (by omega)) (hpre k (by omega)) h1 h2))
    ·by_cases e : j = ds.length + 0
     ·simp only [if_pos e]
     ·simp only [if_neg e]; exact hpre j (by omega)
    ·simp only [if_neg (show ¬ j = ds.length + 0 by omega)]
     obtain ⟨s, rfl⟩ : ∃ s, j = ds.length + s := ⟨j - ds.length, by omega⟩
     exact htl s (by omega)
  ·obtain ⟨s, rfl⟩ : ∃ s, i = ds.length + s := ⟨i - ds.length, by
    have : ¬ i < ds.length + t := fun h => by rw [hlt i h] at hli; cases hli
    omega⟩
   have hst : ¬ s < t := fun h => by rw [hlt _ (by omega)] at hli; cases hli
   have hsT : s < T := by omega
   have hpre : ∀ j, j < ds.length + s → l j = true := fun j hj => markD_done hcl _ _ (by omega) hd j (hall s hsT j hj)
   obtain rfl : s = t := by
    by_cases h : s = t
    ·exact h
    ·have h9 := hpre (ds.length + t) (by omega)
     rw [hge _ (Nat.le_refl _) (by omega)] at h9
     cases h9
   refine wpOp_mono (fun a' W' hG => ⟨hcl', .inr ⟨s + 1, by omega, by omega, fun j hj => ?_, fun j hj1 hj2 => ?_, hG⟩⟩) (hnext s ht1 hsT a' W hG)
   ·by_cases e : j = ds.length + s
    ·simp only [if_pos e]
    ·simp only [if_neg e]; exact hpre j (by omega)
   ·simp only [if_neg (show ¬ j = ds.length + s by omega)]
    exact hge j (by omega) hj2
 ·rintro l a' W ⟨hcl, hor⟩ hl
  rcases hor with ⟨htl, _⟩ | ⟨t, ht1, ht2, hlt, hge, hG⟩
  ·have h9 := hl (ds.length + 0) (by omega)
   rw [htl 0 (by omega)] at h9
   cases h9
  ·obtain rfl : t = T := by
    by_cases h : t = T
    ·exact h
    ·have h9 := hl (ds.length + t) (by omega)
     rw [hge _ (Nat.le_refl _) (by omega)] at h9
     cases h9
   exact hdone a' W hG
theorem wp_region_fresh3 {P : Program} {ops : Array Oper} {Q : Exit → Act → World → Prop} {id : Nat} {a : Act} {w : World} (hm : P.follows .mixedOrders = true) (hord : textOrderedB ops = true) (ds : List Nat) (hds : tailOk ops ds 3 = true)
  (Φ : Nat → Value → World → Prop) (hΦ : ∀ i v W W', Chg [] W W' → Φ i v W → Φ i v W') (mk : Nat → Bool) (hmk : ∀ j v W, mk j = true → Φ j v W → ∀ x, v.ownBlock = some x → x < W.heap.size)
  (hstep : ∀ i, i < ds.length → ∀ us W, Chg [] w W → (∀ j, waits ops i j = true → Φ j (us j) W) → ∀ K : Act → World → Prop, (∀ v W' a', a' = (actU a ds us).put (some (ds.getD i 0)) v → Chg [] W W' → Φ i v W' → (mk i = true → ∀ x, v.ownBlock = some x → W.heap.size ≤ x) → K a' W') → wpOp P ops Q i K (actU a ds us) W)
  (hdone : ∀ us W, Chg [] w W → (∀ i, i < ds.length → Φ i (us i) W) → (∀ i j, i < ds.length → j < ds.length → i ≠ j → mk i = true → mk j = true → ∀ x, (us i).ownBlock = some x → (us j).ownBlock ≠ some x) →
   wpOp P ops Q ds.length (fun a' W' => wpOp P ops Q (ds.length + 1) (fun a'' W'' => wpOp P ops Q (ds.length + 2) (fun a3 W3 => Q .normal a3 W3) a'' W'') a' W') (actU a ds us) W) : (Code.region id ops true).wp P Q a w :=
 wp_region_fresh hm hord ds 3 (by omega) hds Φ hΦ mk hmk hstep (fun t a' W => if t = 1 then wpOp P ops Q (ds.length + 1) (fun a'' W'' => wpOp P ops Q (ds.length + 2) (fun a3 W3 => Q .normal a3 W3) a'' W'') a' W else if t = 2 then wpOp P ops Q (ds.length + 2) (fun a3 W3 => Q .normal a3 W3) a' W else Q .normal a' W) hdone (fun t h1 h2 a' W h => by
  rcases (show t = 1 ∨ t = 2 by omega) with rfl | rfl
  ·exact h
  ·exact h) (fun _ _ h => h)
/-- In a fence that bars nothing. -/
theorem rowsIn_wideR {n : Nat} {P : Program} {row : String} {args : Array Value} {w : World} {R : Value → World → Prop} (h : Rows P row args w R) : RowsIn Fence.wide n P row args w R := fun c cs _ => by
 obtain ⟨v, w', h1, h2⟩ := h c cs
 exact ⟨v, w', h1, stepsIn_wide.2 h2⟩
theorem wpOpIn_of {n : Nat} {P : Program} {ops : Array Oper} {Q : Exit → Act → World → Prop} (hL : ¬ LetsOut Q) {i : Nat} {K : Act → World → Prop} {a : Act} {w : World} (h : wpOp P ops Q i K a w) : wpOpIn Fence.wide n P ops Q i K a w := by
 unfold wpOp at h
 unfold wpOpIn
 cases ho : ops[i]? with
 | none => rw [ho] at h; exact h
 | some o =>
  rw [ho] at h
  simp only at h ⊢
  split
  ·rename_i hw
   rw [if_pos hw] at h
   replace h := h.resolve_right (fun k => hL k.2)
   refine ⟨fun _ _ => trivial, ?_⟩
   unfold Oper.wp at h
   have e : o.semAt Fence.wide.round a.eval = execOp a.eval o := rfl
   rw [e]
   generalize (execOp a.eval o).run P w = r at h ⊢
   cases r with
   | ok x w' =>
    cases x <;> simp only [Oper.upon, Oper.uponIn] at h ⊢ <;>
     first
      | exact h
      | exact ⟨fun k => by simp [Fence.wide] at k, callsIn_wide.2 (h.mono (fun e w'' he => by cases e <;> exact he))⟩
      | exact ⟨fun k => by simp [Fence.wide] at k, rowsIn_wideR h⟩
      | exact h.elim
   | halt x w' => cases x <;> simp only [Oper.upon, Oper.uponIn] at h ⊢ <;> exact h
  ·rename_i hw
   rw [if_neg hw] at h
   exact ⟨fun _ _ => trivial, h⟩
theorem wpAnyIn_of {n : Nat} {P : Program} {md : Region.Mode} {ops : Array Oper} {Q : Exit → Act → World → Prop} (hL : ¬ LetsOut Q) : ∀ (fuel : Nat) (listed : Array Bool) (a : Act) (w : World),
  wpAny P md ops Q fuel listed a w → wpAnyIn Fence.wide n P md ops Q fuel listed a w
 | 0, _, _, _, h => h
 | fuel + 1, _, _, _, h => ⟨h.1, fun i hi => wpOpIn_mono (fun a' w' h' => wpAnyIn_of hL fuel _ a' w' h') (wpOpIn_of hL (h.2 i hi))⟩
theorem round_region_any {r n : Nat} {P : Program} {id : Nat} {ops : Array Oper} {Q : Exit → Act → World → Prop} {a : Act} {w : World} (hm : P.follows .mixedOrders = true) (hL : ¬ LetsOut Q) (hnd : noDefer ops = true)
  (h : wpAny P .any ops Q ops.size (Array.replicate ops.size false) a w.drew) : (Code.region id ops true).wpIn (Fence.wide.inRound r) n P Q a w :=
 wpIn_region_any hm (wpAnyIn_round hnd _ _ _ _ (wpAnyIn_of hL _ _ _ _ h))
end Go.Proofs.YtlklmpjakeedcaaGreatDoor

/-
  A region that draws its order and only makes memory, in the round of a range over a function.
  Conditions: none.
-/
import Derived.Test.YtplpboknmhgpiaaCPtGSeq
import Derived.Lib.QuietBelowIn
import Derived.Sort.QuietIn
import Derived.OwnWalkIn
set_option linter.unusedVariables false
set_option linter.unusedSimpArgs false
namespace Go.Proofs.Ytplpboknmhgpiaa
open Go.RowKit Go.MapKept Go.Shelf Go.Sort

def noDefer (ops : Array Oper) : Bool := ops.all fun o => match o.op with | .defer _ => false | _ => true
theorem noDefer_at {ops : Array Oper} (h : noDefer ops = true) {i : Nat} {o : Oper} (ho : ops[i]? = some o) : ∀ c, o.op ≠ .defer c := by
  intro c hc
  have h1 := (Array.all_eq_true_iff_forall_mem.1 h) o (Array.mem_of_getElem? ho)
  rw [hc] at h1
  cases h1
theorem wpOpIn_round {r n : Nat} {P : Program} {ops : Array Oper} {Q : Exit → Act → World → Prop} (hnd : noDefer ops = true) {i : Nat} {K : Act → World → Prop} {a : Act} {w : World} (h : wpOpIn Fence.wide n P ops Q i K a w) : wpOpIn (Fence.wide.inRound r) n P ops Q i K a w := by
  unfold wpOpIn at *
  cases ho : ops[i]? with
  | none => rw [ho] at h; exact h
  | some o =>
    rw [ho] at h
    simp only at h ⊢
    split
    · rename_i hw
      rw [if_pos hw] at h
      refine ⟨h.1, ?_⟩
      have h2 := h.2
      rw [Oper.semAt_plain Fence.wide _ _ (noDefer_at hnd ho)] at h2
      rw [Oper.semAt_plain (Fence.wide.inRound r) _ _ (noDefer_at hnd ho)]
      exact h2
    · rename_i hw
      rw [if_neg hw] at h
      exact h
theorem wpAnyIn_round {r n : Nat} {P : Program} {md : Region.Mode} {ops : Array Oper} {Q : Exit → Act → World → Prop} (hnd : noDefer ops = true) : ∀ (fuel : Nat) (listed : Array Bool) (a : Act) (w : World),
    wpAnyIn Fence.wide n P md ops Q fuel listed a w → wpAnyIn (Fence.wide.inRound r) n P md ops Q fuel listed a w
  | 0, _, _, _, h => h
  | fuel + 1, _, _, _, h => ⟨h.1, fun i hi => wpOpIn_round hnd (wpOpIn_mono (fun a' w' h' => wpAnyIn_round hnd fuel _ a' w' h') (h.2 i hi))⟩
theorem round_region_quiet {r n : Nat} {P : Program} {id : Nat} {Q : Exit → Act → World → Prop} {a : Act} {w : World} {l : List Oper} (hm : P.follows .mixedOrders = true) (hB : Region.lexB .any l.toArray = true) (hnd : noDefer l.toArray = true)
    (h : wpQuietIn Fence.wide n P l.toArray (fun w' => ∃ p : Regrown, w' = grow (redrawn w p.d) p.os) (fun a' => ∀ w', (∃ p : Regrown, w' = grow (redrawn w p.d) p.os) → Q .normal a' w') l a) : (Code.region id l.toArray true).wpIn (Fence.wide.inRound r) n P Q a w := by
  simp only [Region.lexB, Bool.and_eq_true] at hB
  refine wpIn_region_any hm (wpAnyIn_round hnd _ _ _ _ (wpAnyIn_of_quiet (C := fun w' => ∃ p : Regrown, w' = grow (redrawn w p.d) p.os) (Q := fun a' => ∀ w', (∃ p : Regrown, w' = grow (redrawn w p.d) p.os) → Q .normal a' w') rfl (fun _ w' hw' h => h w' hw') _ _ _ _ ⟨⟨w.drawn + 1, #[]⟩, by rw [grow_empty]; rfl⟩ ?_))
  have := wpAnyQIn_lex (F := Fence.wide) (n := n) (P := P) (C := fun w' => ∃ p : Regrown, w' = grow (redrawn w p.d) p.os) (md := .any) hB.1 l 0 (Array.replicate l.toArray.size false) a (by simp) (by simpa using hB.2) h
  simpa using this
theorem calls_rgIn {P : Program} {f : FuncId} {args : Array Value} {w : World} {v : Value} (h : ∀ w1, Chg [] w w1 → Calls P f args w1 fun e w' => e = .returned v ∧ Chg [] w1 w') :
    ∀ k d os, CallsIn Fence.wide k P f args (grow (redrawn w d) os) fun e w'' => e = .returned v ∧ ∃ p : Regrown, w'' = grow (redrawn w p.d) p.os := fun k d os => callsIn_wide.2 (calls_rg h d os)
/-- The caller's law where a round may break off: what follows is walked once. -/
theorem range_brk {n id : Nat} {P : Program} {α : Type} {g : Operand} {ps : Array Tmp} {assign body : Code} {Q : Exit → Act → World → Prop} {a : Act} {w : World}
    {gf : Nat} {lb : Array Value} (hg : a.eval g = .func (.func gf) #[] lb) (eg : ∀ args w, (callFunc gf args).run P w = .ok (.enter gf args) w)
    {encs : α → Array Value} {Hx : List α → α → World → Prop} {Kp : List α → α → World → World → Prop} {S Sp : List α → Prop} {w0 : World} (hseq : Gives P gf lb encs Hx Kp S Sp w0)
    (hH : ∀ pre x, Stays w.heap.size (Hx pre x))
    (hK : ∀ pre x A A1 A2 B B', Chg [] A A1 → Turn w.heap.size A1 A2 → Kp pre x A2 B → Turn w.heap.size B B' → Kp pre x A B')
    (hb0 : Chg [] w0 w) (hps : ∀ x, (encs x).size = ps.size)
    (I : List α → World → Prop) (I0 : World → Prop) (hI : ∀ s, Stays w.heap.size (I s)) (hI0 : Stays w.heap.size I0) (h0 : I [] w) (Ax : α → Act → World → Prop) (hAx : ∀ x a', Stays w.heap.size (Ax x a'))
    (hassign : ∀ (l : Nat) (pre : List α) (x : α) (W : World) (K : Act → World → Prop), I pre W → Hx pre x W → (∀ a' W', Chg [] W W' → Ax x a' W' → K a' W') →
      assign.wpIn (Fence.wide.inRound l) n P (Exit.then K (fun _ _ _ => False)) { tmps := (ps.zip (encs x)).foldl (fun t (p, v) => t.setIfInBounds p v) a.tmps, defers := [] } W)
    (hbody : ∀ (l : Nat) (pre : List α) (x : α) (a' : Act) (W : World), I pre W → Hx pre x W → Ax x a' W → body.wpIn (Fence.wide.inRound l) n P (bodyEnds w.heap.size Kp I (fun c _ W => c = .exit id ∧ I0 W) pre x W) a' W)
    (hend : ∀ (xs : List α) (W : World), S xs → I xs W → I0 W) (hQ : ∀ a w, Q .normal a w → Q (.exit id) a w)
    (hfin : ∀ (D : Nat) (W : World), w.heap.size ≤ D → I0 W → W.heap[D]? = some (.deferred (some [])) → Q .normal { a with defers := { target := .collected D, args := #[] } :: a.defers } W) :
    (Code.rangeFunc g ps assign body).wpIn Fence.wide n P Q a w :=
  range_gives hg eg hseq hH hK hb0 hps I (fun c _ W => c = .exit id ∧ I0 W) hI (fun _ _ => (Stays.pure _).and hI0) h0 Ax hAx hassign hbody
    (fun D xs W hD hS hi hd => hfin D W hD (hend xs W hS hi) hd)
    (fun D c pre W hD _ hx hd => by obtain ⟨rfl, hx⟩ := hx; exact wpIn_exit (hQ _ _ (hfin D W hD hx hd)))
theorem leave_none {n : Nat} {P : Program} {fn : Func} {tmps : Array Value} {R : Ending → World → Prop} {W : World} {v : Value} (hr : (results fn tmps).run P W = .ok v W) (hR : R (.returned v) W) :
    bodyPostM Fence.wide n P fn R .ret { tmps := tmps, defers := [] } W := ⟨v, hr, hR⟩
/-- At the return, two loops behind: a result that lies in a box. -/
theorem leave_two {n : Nat} {P : Program} {fn : Func} {tmps : Array Value} {R : Ending → World → Prop} {W : World} {D1 D2 B : Nat} {v : Value} {I : World → Prop} (h1 : W.heap[D1]? = some (.deferred (some []))) (h2 : W.heap[D2]? = some (.deferred (some []))) (hne : D1 ≠ D2) (hB1 : B ≤ D1) (hB2 : B ≤ D2)
    (hI : Stays B I) (h0 : I W) (hr : ∀ W', I W' → (results fn tmps).run P W' = .ok v W' ∧ R (.returned v) W') :
    bodyPostM Fence.wide n P fn R .ret { tmps := tmps, defers := [{ target := .collected D2, args := #[] }, { target := .collected D1, args := #[] }] } W := by
  have t2 : Turn B W (W.putObj D2 (.deferred none)) := ⟨_, _, _, hB2, h2, rfl, rfl, rfl⟩
  have h1' : (W.putObj D2 (.deferred none)).heap[D1]? = some (.deferred (some [])) := (World.putObj_heap_other hne).trans h1
  have t1 : Turn B (W.putObj D2 (.deferred none)) ((W.putObj D2 (.deferred none)).putObj D1 (.deferred none)) := ⟨_, _, _, hB1, h1', rfl, rfl, rfl⟩
  obtain ⟨q1, q2⟩ := hr _ (hI.turn (hI.turn h0 t2) t1)
  exact ⟨by simp, .inl ⟨_, _, rfl, run_takeDeferred h2, ⟨by simp, .inl ⟨_, _, rfl, run_takeDeferred h1', ⟨v, q1, q2⟩⟩⟩⟩⟩
end Go.Proofs.Ytplpboknmhgpiaa

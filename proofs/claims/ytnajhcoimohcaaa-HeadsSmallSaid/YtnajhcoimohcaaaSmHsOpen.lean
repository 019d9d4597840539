/-
  A row of steps, a row of numbers among the arguments, opened.
  Conditions: none.
-/
import Derived.Test.YtnajhcoimohcaaaSmHs7
import Derived.ProofKit
import Derived.OpenShut
import Derived.ChangeOld
import Derived.SizedLaws
import Derived.Deep.Slices
import Derived.Deep.Fields
import Derived.Lib.SmallJoins
import Derived.Laws.IdiomArrays
set_option linter.unusedVariables false
set_option linter.unusedSimpArgs false
namespace Go.Proofs.Ytnajhcoimohcaaa
open Go.ChangeShapes Go.WideShapes Go.ChangeAt Go.RowKit Go.Deep Go.Joins

theorem i64_wf {x : Int} (h : (Lit.int .i64 x).wf = true) : I64 x := by
  simp only [Lit.wf, Bool.and_eq_true, decide_eq_true_eq] at h
  exact h
theorem addr_plain {w : World} {a : Addr} {v : Value} (h : w.cell? a = some v) : a = ⟨a.block, a.off, none⟩ := by
  obtain ⟨b, o, s⟩ := a
  unfold World.cell? at h
  dsimp only at h
  split at h
  · split at h
    · cases h
    · rename_i hs
      cases s with
      | none => rfl
      | some _ => simp at hs
  · cases h
theorem addr_add0 (a : Addr) : a.add 0 = a := by simp [Addr.add]
theorem Try.cellsIntQ : Try.prog.cellsOf 3 = 1 := by kernel_rfl
theorem Try.cellsBoolQ : Try.prog.cellsOf 4 = 1 := by kernel_rfl
theorem Try.cellsStepQ : Try.prog.cellsOf 35 = 3 := by kernel_rfl
/-- A row of steps that came in. -/
def Steps (w : World) (a : Option Addr) (ds : List Stp) : Prop := ∀ i (h : i < ds.length), ∃ g o, a = some ⟨g, o, none⟩ ∧ w.cell? ⟨g, o + i * 3, none⟩ = some (.int .i64 ds[i].what) ∧ w.cell? ⟨g, o + i * 3 + 1, none⟩ = some (.int .i64 ds[i].rule) ∧ w.cell? ⟨g, o + i * 3 + 2, none⟩ = some (.bool ds[i].on)
theorem Steps.chg0 {w w' : World} {a : Option Addr} {ds : List Stp} (h : Steps w a ds) (hc : Chg [] w w') : Steps w' a ds := fun i hi => by
  obtain ⟨g, o, e, h1, h2, h3⟩ := h i hi
  exact ⟨g, o, e, hc.cell h1 (by simp), hc.cell h2 (by simp), hc.cell h3 (by simp)⟩
section
variable {H : Type} {enc : TypeId × Value → H} {w : World} {base : Nat} {held : Bool}
theorem three_of {α : Type} {cs : List α} (h : cs.length = 3) : ∃ a b c, cs = [a, b, c] := by
  match cs, h with
  | [a, b, c], _ => exact ⟨a, b, c, rfl⟩
set_option maxRecDepth 100000 in
theorem trod_step {fuel : Nat} {a : Addr} {cs : List Value} {x : DataW H × List MemPlace} (hc : w.cells? base a 3 = some cs) (h : DataW.trod enc Try.prog w base (fun _ => true) held fuel 35 cs = some x) :
    a = ⟨a.block, a.off, none⟩ ∧ ∃ y : Stp, w.cell? ⟨a.block, a.off, none⟩ = some (.int .i64 y.what) ∧ w.cell? ⟨a.block, a.off + 1, none⟩ = some (.int .i64 y.rule) ∧ w.cell? ⟨a.block, a.off + 2, none⟩ = some (.bool y.on) ∧ I64 y.what ∧ I64 y.rule := by
  obtain ⟨_, hcl, hat⟩ := World.cells?_some hc
  obtain ⟨xs, n, _, rfl, _, hxl, hg⟩ := DataW.trod_struct Try.underlying35 h
  have g0 : DataW.trod enc Try.prog w base (fun _ => true) held n 3 ((cs.drop 0).take (Try.prog.cellsOf 3)) = xs[0]? := hg 0 _ rfl
  have g1 : DataW.trod enc Try.prog w base (fun _ => true) held n 3 ((cs.drop 1).take (Try.prog.cellsOf 3)) = xs[1]? := hg 1 _ rfl
  have g2 : DataW.trod enc Try.prog w base (fun _ => true) held n 4 ((cs.drop 2).take (Try.prog.cellsOf 4)) = xs[2]? := hg 2 _ rfl
  obtain ⟨k0, k1, k2, rfl⟩ := three_of hcl
  obtain ⟨y0, y1, y2, rfl⟩ := three_of (cs := xs) (by simpa using hxl)
  simp only [Try.cellsIntQ, Try.cellsBoolQ, List.drop_zero, List.drop_succ_cons, List.take_succ_cons, List.take_zero, List.getElem?_cons_zero, List.getElem?_cons_succ] at g0 g1 g2
  obtain ⟨v0, e0, _, w0⟩ := DataW.trod_int Try.underlying3 g0
  obtain ⟨v1, e1, _, w1⟩ := DataW.trod_int Try.underlying3 g1
  obtain ⟨v2, e2, _⟩ := DataW.trod_bool Try.underlying4 g2
  simp only [List.cons.injEq, and_true] at e0 e1 e2
  subst e0 e1 e2
  have ha0 := hat 0 (by omega)
  rw [addr_add0] at ha0
  have ha := addr_plain (ha0.trans rfl)
  have hat' : ∀ i, i < 3 → w.cell? ⟨a.block, a.off + i, none⟩ = [Value.int .i64 v0, .int .i64 v1, .bool v2][i]? := by
    intro i hi
    have := hat i hi
    rw [ha, Addr.add_lit] at this
    exact this
  exact ⟨ha, ⟨v0, v1, v2⟩, hat' 0 (by omega), hat' 1 (by omega), hat' 2 (by omega), i64_wf w0, i64_wf w1⟩
theorem trod_steps {fuel : Nat} {cs : List Value} {x : DataW H × List MemPlace} (h : DataW.trod enc Try.prog w base (fun _ => true) held fuel 22 cs = some x) :
    ∃ a n c ds, cs = [.slice a n c] ∧ n = ds.length ∧ n ≤ c ∧ c ≤ maxLen ∧ Steps w a ds ∧ ∀ y ∈ ds, I64 y.what ∧ I64 y.rule := by
  rcases open_slice Try.underlying22 h with ⟨rfl, rfl⟩ | ⟨a, l, c, m, n, D, Pl, rfl, _, hl, hm, hmc, rfl, hi⟩
  · exact ⟨none, 0, 0, [], rfl, rfl, Nat.le_refl _, Nat.zero_le _, fun i hi => (by cases hi), by simp⟩
  · simp only [if_true] at hmc
    subst hmc
    rw [Try.cellsStepQ] at hi
    have hone : ∀ i, i < l → ∃ q : Stp, w.cell? ⟨a.block, a.off + i * 3, none⟩ = some (.int .i64 q.what) ∧ w.cell? ⟨a.block, a.off + i * 3 + 1, none⟩ = some (.int .i64 q.rule) ∧ w.cell? ⟨a.block, a.off + i * 3 + 2, none⟩ = some (.bool q.on) ∧ I64 q.what ∧ I64 q.rule ∧ a = ⟨a.block, a.off, none⟩ := by
      intro i hil
      have ha : a = ⟨a.block, a.off, none⟩ := by
        obtain ⟨cs', hc, ht⟩ := hi 0 (by omega)
        rw [Nat.zero_mul, addr_add0] at hc
        exact (trod_step hc ht).1
      obtain ⟨cs', hc, ht⟩ := hi i (by omega)
      rw [ha, Addr.add_lit] at hc
      obtain ⟨_, y, h1, h2, h3, h4, h5⟩ := trod_step hc ht
      exact ⟨y, h1, h2, h3, h4, h5, ha⟩
    letI : Inhabited Stp := ⟨⟨0, 0, false⟩⟩
    obtain ⟨f, hf⟩ := choose_lt hone
    have hlen : ((List.range l).map f).length = l := by simp
    refine ⟨some a, l, m, (List.range l).map f, rfl, hlen.symm, hl, hm, fun i hi' => ?_, fun y hy => ?_⟩
    · have hil : i < l := by omega
      obtain ⟨h1, h2, h3, -, -, ha⟩ := hf i hil
      refine ⟨a.block, a.off, by rw [← ha], ?_, ?_, ?_⟩
      · simpa using h1
      · simpa using h2
      · simpa using h3
    · obtain ⟨i, hil, rfl⟩ := List.mem_map.1 hy
      obtain ⟨-, -, -, h4, h5, -⟩ := hf i (by simpa using hil)
      exact ⟨h4, h5⟩
set_option maxRecDepth 100000 in
theorem open_steps {r : Go.Reach} {b0 : Nat} {v : Value} {d : DataW H} {p : List MemPlace} (hv : Value.okWide Try.prog w r b0 22 v) (h : DataW.Trod enc Try.prog w base (fun _ => true) held 22 v d p) :
    ∃ a n c ds, v = .slice a n c ∧ n = ds.length ∧ n ≤ c ∧ c ≤ 9223372036854775807 ∧ Steps w a ds ∧ ∀ y ∈ ds, I64 y.what ∧ I64 y.rule := by
  obtain ⟨a0, l0, c0, rfl⟩ := okWide_slice Try.underlying22 hv
  obtain ⟨fuel, hf⟩ := h
  obtain ⟨a, n, c, ds, e, h1, h2, h3, h4, h5⟩ := trod_steps hf
  simp only [Value.cells, List.cons.injEq, and_true, Value.slice.injEq] at e
  obtain ⟨rfl, rfl, rfl⟩ := e
  exact ⟨_, _, _, ds, rfl, h1, h2, by simpa only [maxLen] using h3, h4, h5⟩
theorem trod_intsQ {fuel : Nat} {cs : List Value} {x : DataW H × List MemPlace} (h : DataW.trod enc Try.prog w base (fun _ => true) held fuel 38 cs = some x) :
    ∃ a n c zs, cs = [.slice a n c] ∧ n = zs.length ∧ n ≤ c ∧ c ≤ maxLen ∧ Ints w a zs ∧ (∀ z ∈ zs, I64 z) := by
  rcases open_ints Try.underlying38 Try.underlying3 Try.cellsIntQ h with ⟨rfl, rfl⟩ | ⟨a, l, c, zs, rfl, _, hl, hm, hz, rfl, hcell, hwf⟩
  · exact ⟨none, 0, 0, [], rfl, rfl, Nat.le_refl _, Nat.zero_le _, Ints.nil _ _, by simp⟩
  · simp only [if_true] at hz
    have hlen : (zs.take l).length = l := by rw [List.length_take]; omega
    refine ⟨some a, l, c, zs.take l, rfl, hlen.symm, hl, hm, fun i hi => ?_, fun z hz' => i64_wf (hwf z (List.mem_of_mem_take hz'))⟩
    have hi' : i < zs.length := by omega
    have h0 := hcell 0 (by omega)
    rw [addr_add0] at h0
    have ha := addr_plain h0
    refine ⟨a.block, a.off, by rw [← ha], ?_⟩
    have h1 := hcell i hi'
    rw [ha, Addr.add_lit] at h1
    rw [h1]
    simp [List.getD, hi']
set_option maxRecDepth 100000 in
theorem open_introw {r : Go.Reach} {b0 : Nat} {v : Value} {d : DataW H} {p : List MemPlace} (hv : Value.okWide Try.prog w r b0 38 v) (h : DataW.Trod enc Try.prog w base (fun _ => true) held 38 v d p) :
    ∃ a n c zs, v = .slice a n c ∧ n = zs.length ∧ n ≤ c ∧ c ≤ 9223372036854775807 ∧ Ints w a zs ∧ ∀ z ∈ zs, I64 z := by
  obtain ⟨a0, l0, c0, rfl⟩ := okWide_slice Try.underlying38 hv
  obtain ⟨fuel, hf⟩ := h
  obtain ⟨a, n, c, ds, e, h1, h2, h3, h4, h5⟩ := trod_intsQ hf
  simp only [Value.cells, List.cons.injEq, and_true, Value.slice.injEq] at e
  obtain ⟨rfl, rfl, rfl⟩ := e
  exact ⟨_, _, _, ds, rfl, h1, h2, by simpa only [maxLen] using h3, h4, h5⟩
end
end Go.Proofs.Ytnajhcoimohcaaa

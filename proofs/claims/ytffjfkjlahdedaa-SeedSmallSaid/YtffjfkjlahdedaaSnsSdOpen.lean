/-
  A row of deeds (layer 19) among the arguments, opened.
  Conditions: none.
-/
import Derived.Test.YtffjfkjlahdedaaSnsTw1
import Derived.ProofKit
import Derived.OpenShut
import Derived.ChangeOld
import Derived.SizedLaws
import Derived.Deep.Slices
import Derived.Deep.Fields
import Derived.Lib.SmallJoins
import Derived.Laws.IdiomArrays
set_option linter.unusedVariables false
set_option linter.unusedSimpArgs false
set_option linter.unnecessarySimpa false
namespace Go.Proofs.Ytffjfkjlahdedaa
open Go.ChangeShapes Go.WideShapes Go.ChangeAt Go.RowKit Go.Deep Go.Joins

theorem i64_wf {x : Int} (h : (Lit.int .i64 x).wf = true) : I64 x := by
  simp only [Lit.wf, Bool.and_eq_true, decide_eq_true_eq] at h
  exact h
theorem addr_plain {w : World} {a : Addr} {v : Value} (h : w.cell? a = some v) : a = ⟨a.block, a.off, none⟩ := by
  obtain ⟨b, o, s⟩ := a
  unfold World.cell? at h
  dsimp only at h
  split at h
  · split at h
    · cases h
    · rename_i hs
      cases s with
      | none => rfl
      | some _ => simp at hs
  · cases h
theorem addr_add0 (a : Addr) : a.add 0 = a := by simp [Addr.add]
theorem Try.cellsIntQ : Try.prog.cellsOf 3 = 1 := by kernel_rfl
theorem Try.cellsTwigQ : Try.prog.cellsOf 33 = 5 := by kernel_rfl
theorem Try.cellsSpanQ : Try.prog.cellsOf 31 = 2 := by kernel_rfl
theorem Try.cellsTwigsQ : Try.prog.cellsOf 34 = 1 := by kernel_rfl
theorem Try.cellsDeedQ : Try.prog.cellsOf 54 = 6 := by kernel_rfl
theorem Try.bytesTwigQ : Try.prog.bytesOf 33 = 40 := by kernel_rfl
theorem Try.bytesDeedQ : Try.prog.bytesOf 54 = 64 := by kernel_rfl
structure Ds where
  what : Int
  rule : Int
  place : Int
  en : Int
  lv : Int
  tree : List Tw
/-- A deed that came in. -/
structure DeedAt (w : World) (b o : Nat) (y : Ds) (ta : Option Addr) (tn tc : Nat) : Prop where
  what : w.cell? ⟨b, o, none⟩ = some (.int .i64 y.what)
  rule : w.cell? ⟨b, o + 1, none⟩ = some (.int .i64 y.rule)
  place : w.cell? ⟨b, o + 2, none⟩ = some (.int .i64 y.place)
  en : w.cell? ⟨b, o + 3, none⟩ = some (.int .i64 y.en)
  lv : w.cell? ⟨b, o + 4, none⟩ = some (.int .i64 y.lv)
  tree : w.cell? ⟨b, o + 5, none⟩ = some (.slice ta tn tc)
  len : tn = y.tree.length
  room : tn ≤ tc
  max : tc ≤ 9223372036854775807
  none0 : ta = none → tn = 0 ∧ tc = 0
  twigs : Twigs w ta y.tree
def Ds.Wf (y : Ds) : Prop := I64 y.what ∧ I64 y.rule ∧ I64 y.place ∧ I64 y.en ∧ I64 y.lv
def Deeds (w : World) (a : Option Addr) (ds : List Ds) : Prop := ∀ i (h : i < ds.length), ∃ b o ta tn tc, a = some ⟨b, o, none⟩ ∧ DeedAt w b (o + i * 6) ds[i] ta tn tc
theorem two_of {α : Type} {cs : List α} (h : cs.length = 2) : ∃ a b, cs = [a, b] := by
  match cs, h with
  | [a, b], _ => exact ⟨a, b, rfl⟩
theorem four_of {α : Type} {cs : List α} (h : cs.length = 4) : ∃ a b c d, cs = [a, b, c, d] := by
  match cs, h with
  | [a, b, c, d], _ => exact ⟨a, b, c, d, rfl⟩
theorem five_of {α : Type} {cs : List α} (h : cs.length = 5) : ∃ a b c d e, cs = [a, b, c, d, e] := by
  match cs, h with
  | [a, b, c, d, e], _ => exact ⟨a, b, c, d, e, rfl⟩
theorem six_of {α : Type} {cs : List α} (h : cs.length = 6) : ∃ a b c d e f, cs = [a, b, c, d, e, f] := by
  match cs, h with
  | [a, b, c, d, e, f], _ => exact ⟨a, b, c, d, e, f, rfl⟩
section
variable {H : Type} {enc : TypeId × Value → H} {w : World} {base : Nat} {held : Bool}
/-- All that is weighed within a datum is within the reach. -/
def WithinQ (t : TypeId) (d : DataW H) : Prop := ∀ n ∈ d.weights Try.prog t, n ≤ reachBytes
set_option maxRecDepth 100000 in
theorem trod_twig {fuel : Nat} {a : Addr} {cs : List Value} {x : DataW H × List MemPlace} (hc : w.cells? base a 5 = some cs) (h : DataW.trod enc Try.prog w base (fun _ => true) held fuel 33 cs = some x) :
    a = ⟨a.block, a.off, none⟩ ∧ ∃ y : Tw, w.cell? ⟨a.block, a.off, none⟩ = some (.int .i64 y.r) ∧ w.cell? ⟨a.block, a.off + 1, none⟩ = some (.int .i64 y.l) ∧ w.cell? ⟨a.block, a.off + 2, none⟩ = some (.int .i64 y.f) ∧ w.cell? ⟨a.block, a.off + 3, none⟩ = some (.int .i64 y.t) ∧ w.cell? ⟨a.block, a.off + 4, none⟩ = some (.int .i64 y.k) := by
  obtain ⟨_, hcl, hat⟩ := World.cells?_some hc
  obtain ⟨xs, n, _, rfl, _, hxl, hg⟩ := DataW.trod_struct Try.underlying33 h
  have g0 : DataW.trod enc Try.prog w base (fun _ => true) held n 3 ((cs.drop 0).take (Try.prog.cellsOf 3)) = xs[0]? := hg 0 _ rfl
  have g1 : DataW.trod enc Try.prog w base (fun _ => true) held n 3 ((cs.drop 1).take (Try.prog.cellsOf 3)) = xs[1]? := hg 1 _ rfl
  have g2 : DataW.trod enc Try.prog w base (fun _ => true) held n 31 ((cs.drop 2).take (Try.prog.cellsOf 31)) = xs[2]? := hg 2 _ rfl
  have g3 : DataW.trod enc Try.prog w base (fun _ => true) held n 3 ((cs.drop 4).take (Try.prog.cellsOf 3)) = xs[3]? := hg 3 _ rfl
  obtain ⟨k0, k1, k2, k3, k4, rfl⟩ := five_of hcl
  obtain ⟨y0, y1, y2, y3, rfl⟩ := four_of (cs := xs) (by simpa using hxl)
  simp only [Try.cellsIntQ, Try.cellsSpanQ, List.drop_zero, List.drop_succ_cons, List.take_succ_cons, List.take_zero, List.getElem?_cons_zero, List.getElem?_cons_succ] at g0 g1 g2 g3
  obtain ⟨v0, e0, _, _⟩ := DataW.trod_int Try.underlying3 g0
  obtain ⟨v1, e1, _, _⟩ := DataW.trod_int Try.underlying3 g1
  obtain ⟨v4, e4, _, _⟩ := DataW.trod_int Try.underlying3 g3
  obtain ⟨zs, m, _, _, _, hzl, hz⟩ := DataW.trod_struct Try.underlying31 g2
  have q0 : DataW.trod enc Try.prog w base (fun _ => true) held m 3 (([k2, k3].drop 0).take (Try.prog.cellsOf 3)) = zs[0]? := hz 0 _ rfl
  have q1 : DataW.trod enc Try.prog w base (fun _ => true) held m 3 (([k2, k3].drop 1).take (Try.prog.cellsOf 3)) = zs[1]? := hz 1 _ rfl
  obtain ⟨z0, z1, rfl⟩ := two_of (cs := zs) (by simpa using hzl)
  simp only [Try.cellsIntQ, List.drop_zero, List.drop_succ_cons, List.take_succ_cons, List.take_zero, List.getElem?_cons_zero, List.getElem?_cons_succ] at q0 q1
  obtain ⟨v2, e2, _, _⟩ := DataW.trod_int Try.underlying3 q0
  obtain ⟨v3, e3, _, _⟩ := DataW.trod_int Try.underlying3 q1
  simp only [List.cons.injEq, and_true] at e0 e1 e2 e3 e4
  subst e0 e1 e2 e3 e4
  have ha0 := hat 0 (by omega)
  rw [addr_add0] at ha0
  have ha := addr_plain (ha0.trans rfl)
  have hat' : ∀ i, i < 5 → w.cell? ⟨a.block, a.off + i, none⟩ = [Value.int .i64 v0, .int .i64 v1, .int .i64 v2, .int .i64 v3, .int .i64 v4][i]? := by
    intro i hi
    have := hat i hi
    rw [ha, Addr.add_lit] at this
    exact this
  exact ⟨ha, ⟨v0, v1, v2, v3, v4⟩, hat' 0 (by omega), hat' 1 (by omega), hat' 2 (by omega), hat' 3 (by omega), hat' 4 (by omega)⟩
theorem trod_twigs {fuel : Nat} {cs : List Value} {x : DataW H × List MemPlace} (h : DataW.trod enc Try.prog w base (fun _ => true) held fuel 34 cs = some x) :
    ∃ a n c ds, cs = [.slice a n c] ∧ n = ds.length ∧ n ≤ c ∧ c ≤ maxLen ∧ (a = none → n = 0 ∧ c = 0) ∧ Twigs w a ds ∧ (WithinQ 34 x.1 → n * 40 ≤ reachBytes) := by
  rcases open_slice Try.underlying34 h with ⟨rfl, rfl⟩ | ⟨a, l, c, m, n, D, Pl, rfl, _, hl, hm, hmc, rfl, hi⟩
  · exact ⟨none, 0, 0, [], rfl, rfl, Nat.le_refl _, Nat.zero_le _, fun _ => ⟨rfl, rfl⟩, fun i hi => (by cases hi), fun _ => Nat.zero_le _⟩
  · simp only [if_true] at hmc
    subst hmc
    rw [Try.cellsTwigQ] at hi
    have hone : ∀ i, i < l → ∃ q : Tw, w.cell? ⟨a.block, a.off + i * 5, none⟩ = some (.int .i64 q.r) ∧ w.cell? ⟨a.block, a.off + i * 5 + 1, none⟩ = some (.int .i64 q.l) ∧ w.cell? ⟨a.block, a.off + i * 5 + 2, none⟩ = some (.int .i64 q.f) ∧ w.cell? ⟨a.block, a.off + i * 5 + 3, none⟩ = some (.int .i64 q.t) ∧ w.cell? ⟨a.block, a.off + i * 5 + 4, none⟩ = some (.int .i64 q.k) ∧ a = ⟨a.block, a.off, none⟩ := by
      intro i hil
      have ha : a = ⟨a.block, a.off, none⟩ := by
        obtain ⟨cs', hc, ht⟩ := hi 0 (by omega)
        rw [Nat.zero_mul, addr_add0] at hc
        exact (trod_twig hc ht).1
      obtain ⟨cs', hc, ht⟩ := hi i (by omega)
      rw [ha, Addr.add_lit] at hc
      obtain ⟨_, y, h1, h2, h3, h4, h5⟩ := trod_twig hc ht
      exact ⟨y, h1, h2, h3, h4, h5, ha⟩
    letI : Inhabited Tw := ⟨⟨0, 0, 0, 0, 0⟩⟩
    obtain ⟨f, hf⟩ := choose_lt hone
    have hlen : ((List.range l).map f).length = l := by simp
    refine ⟨some a, l, m, (List.range l).map f, rfl, hlen.symm, hl, hm, (fun h => by cases h), fun i hi' => ?_, fun hw => ?_⟩
    · have hil : i < l := by omega
      obtain ⟨h1, h2, h3, h4, h5, ha⟩ := hf i hil
      refine ⟨a.block, a.off, by rw [← ha], ?_, ?_, ?_, ?_, ?_⟩
      · simpa using h1
      · simpa using h2
      · simpa using h3
      · simpa using h4
      · simpa using h5
    · have := hw ((((List.range l).map D).length + ((List.range (m - l)).map fun j => D (l + j)).length) * 40) (by simp [DataW.weights, Try.underlying34, Try.bytesTwigQ])
      simp only [List.length_map, List.length_range] at this
      have h2 : l * 40 ≤ (l + (m - l)) * 40 := Nat.mul_le_mul_right _ (Nat.le_add_right _ _)
      omega
theorem weightsAll_memQ {e : TypeId} {d : DataW H} {k : Nat} (hk : k ∈ d.weights Try.prog e) : ∀ {l : List (DataW H)}, d ∈ l → k ∈ DataW.weightsAll Try.prog e l
  | [], h => by cases h
  | d0 :: l, h => by
    simp only [DataW.weightsAll, List.mem_append]
    rcases List.mem_cons.1 h with rfl | h
    · exact .inl hk
    · exact .inr (weightsAll_memQ hk h)
set_option maxRecDepth 100000 in
theorem trod_deed {fuel : Nat} {a : Addr} {cs : List Value} {x : DataW H × List MemPlace} (hc : w.cells? base a 6 = some cs) (h : DataW.trod enc Try.prog w base (fun _ => true) held fuel 54 cs = some x) :
    a = ⟨a.block, a.off, none⟩ ∧ ∃ (y : Ds) (ta : Option Addr) (tn tc : Nat), DeedAt w a.block a.off y ta tn tc ∧ y.Wf ∧ (WithinQ 54 x.1 → tn * 40 ≤ reachBytes) := by
  obtain ⟨_, hcl, hat⟩ := World.cells?_some hc
  obtain ⟨xs, n, _, rfl, _, hxl, hg⟩ := DataW.trod_struct Try.underlying54 h
  have g0 : DataW.trod enc Try.prog w base (fun _ => true) held n 3 ((cs.drop 0).take (Try.prog.cellsOf 3)) = xs[0]? := hg 0 _ rfl
  have g1 : DataW.trod enc Try.prog w base (fun _ => true) held n 3 ((cs.drop 1).take (Try.prog.cellsOf 3)) = xs[1]? := hg 1 _ rfl
  have g2 : DataW.trod enc Try.prog w base (fun _ => true) held n 3 ((cs.drop 2).take (Try.prog.cellsOf 3)) = xs[2]? := hg 2 _ rfl
  have g3 : DataW.trod enc Try.prog w base (fun _ => true) held n 3 ((cs.drop 3).take (Try.prog.cellsOf 3)) = xs[3]? := hg 3 _ rfl
  have g4 : DataW.trod enc Try.prog w base (fun _ => true) held n 3 ((cs.drop 4).take (Try.prog.cellsOf 3)) = xs[4]? := hg 4 _ rfl
  have g5 : DataW.trod enc Try.prog w base (fun _ => true) held n 34 ((cs.drop 5).take (Try.prog.cellsOf 34)) = xs[5]? := hg 5 _ rfl
  obtain ⟨k0, k1, k2, k3, k4, k5, rfl⟩ := six_of hcl
  obtain ⟨y0, y1, y2, y3, y4, y5, rfl⟩ := six_of (cs := xs) (by simpa using hxl)
  simp only [Try.cellsIntQ, Try.cellsTwigsQ, List.drop_zero, List.drop_succ_cons, List.take_succ_cons, List.take_zero, List.getElem?_cons_zero, List.getElem?_cons_succ] at g0 g1 g2 g3 g4 g5
  obtain ⟨v0, e0, _, w0⟩ := DataW.trod_int Try.underlying3 g0
  obtain ⟨v1, e1, _, w1⟩ := DataW.trod_int Try.underlying3 g1
  obtain ⟨v2, e2, _, w2⟩ := DataW.trod_int Try.underlying3 g2
  obtain ⟨v3, e3, _, w3⟩ := DataW.trod_int Try.underlying3 g3
  obtain ⟨v4, e4, _, w4⟩ := DataW.trod_int Try.underlying3 g4
  obtain ⟨ta, tn, tc, zs, e5, l1, l2, l3, l4, l5, l6⟩ := trod_twigs g5
  simp only [List.cons.injEq, and_true] at e0 e1 e2 e3 e4 e5
  subst e0 e1 e2 e3 e4 e5
  have ha0 := hat 0 (by omega)
  rw [addr_add0] at ha0
  have ha := addr_plain (ha0.trans rfl)
  have hat' : ∀ i, i < 6 → w.cell? ⟨a.block, a.off + i, none⟩ = [Value.int .i64 v0, .int .i64 v1, .int .i64 v2, .int .i64 v3, .int .i64 v4, .slice ta tn tc][i]? := by
    intro i hi
    have := hat i hi
    rw [ha, Addr.add_lit] at this
    exact this
  have l3' : tc ≤ 9223372036854775807 := by simpa only [maxLen] using l3
  refine ⟨ha, ⟨v0, v1, v2, v3, v4, zs⟩, ta, tn, tc, ⟨hat' 0 (by omega), hat' 1 (by omega), hat' 2 (by omega), hat' 3 (by omega), hat' 4 (by omega), hat' 5 (by omega), l1, l2, l3', l4, l5⟩, ⟨i64_wf w0, i64_wf w1, i64_wf w2, i64_wf w3, i64_wf w4⟩, fun hw => l6 fun m hm => hw m ?_⟩
  simp only [DataW.weights, Try.underlying54, List.map_cons, List.map_nil, DataW.weightsEach, List.mem_append]
  exact .inr (.inr (.inr (.inr (.inr (.inl hm)))))
set_option maxRecDepth 100000 in
theorem trod_deeds {fuel : Nat} {cs : List Value} {x : DataW H × List MemPlace} (h : DataW.trod enc Try.prog w base (fun _ => true) held fuel 47 cs = some x) :
    ∃ a n c ds, cs = [.slice a n c] ∧ n = ds.length ∧ n ≤ c ∧ c ≤ maxLen ∧ Deeds w a ds ∧ (∀ y ∈ ds, y.Wf) ∧ (WithinQ 47 x.1 → n * 64 ≤ reachBytes ∧ ∀ y ∈ ds, y.tree.length * 40 ≤ reachBytes) := by
  rcases open_slice Try.underlying47 h with ⟨rfl, rfl⟩ | ⟨a, l, c, m, n, D, Pl, rfl, _, hl, hm, hmc, rfl, hi⟩
  · exact ⟨none, 0, 0, [], rfl, rfl, Nat.le_refl _, Nat.zero_le _, fun i hi => (by cases hi), by simp, fun _ => ⟨Nat.zero_le _, by simp⟩⟩
  · simp only [if_true] at hmc
    subst hmc
    rw [Try.cellsDeedQ] at hi
    have hnode : ∀ i, i < l → ∃ q : Ds × Option Addr × Nat × Nat, DeedAt w a.block (a.off + i * 6) q.1 q.2.1 q.2.2.1 q.2.2.2 ∧ q.1.Wf ∧ (WithinQ 54 (D i) → q.2.2.1 * 40 ≤ reachBytes) ∧ a = ⟨a.block, a.off, none⟩ := by
      intro i hil
      have ha : a = ⟨a.block, a.off, none⟩ := by
        obtain ⟨cs', hc, ht⟩ := hi 0 (by omega)
        rw [Nat.zero_mul, addr_add0] at hc
        exact (trod_deed hc ht).1
      obtain ⟨cs', hc, ht⟩ := hi i (by omega)
      rw [ha, Addr.add_lit] at hc
      obtain ⟨_, y, ak, nk, ck, h1, h2, h3⟩ := trod_deed hc ht
      exact ⟨(y, ak, nk, ck), h1, h2, h3, ha⟩
    letI : Inhabited (Ds × Option Addr × Nat × Nat) := ⟨(⟨0, 0, 0, 0, 0, []⟩, none, 0, 0)⟩
    obtain ⟨f, hf⟩ := choose_lt hnode
    have hlen : ((List.range l).map fun i => (f i).1).length = l := by simp
    refine ⟨some a, l, m, (List.range l).map fun i => (f i).1, rfl, hlen.symm, hl, hm, fun i hi' => ?_, fun y hy => ?_, fun hw => ⟨?_, fun y hy => ?_⟩⟩
    · have hil : i < l := by omega
      obtain ⟨h1, _, _, ha⟩ := hf i hil
      refine ⟨a.block, a.off, (f i).2.1, (f i).2.2.1, (f i).2.2.2, by rw [← ha], ?_⟩
      simpa using h1
    · obtain ⟨i, hil, rfl⟩ := List.mem_map.1 hy
      exact (hf i (by simpa using hil)).2.1
    · have := hw ((((List.range l).map D).length + ((List.range (m - l)).map fun j => D (l + j)).length) * 64) (by simp [DataW.weights, Try.underlying47, Try.bytesDeedQ])
      simp only [List.length_map, List.length_range] at this
      have h2 : l * 64 ≤ (l + (m - l)) * 64 := Nat.mul_le_mul_right _ (Nat.le_add_right _ _)
      omega
    · obtain ⟨i, hil, rfl⟩ := List.mem_map.1 hy
      have hil' : i < l := by simpa using hil
      obtain ⟨h1, _, h3, _⟩ := hf i hil'
      have h4 := h3 fun k hk => hw k (by
        simp only [DataW.weights, Try.underlying47, List.mem_cons, List.mem_append]
        exact .inr (.inl (weightsAll_memQ hk (List.mem_map.2 ⟨i, by simpa using hil', rfl⟩))))
      rw [← h1.len]
      exact h4
theorem reach_smallQ : reachBytes ≤ 140737488355328 := Nat.le_of_lt (by have := reachBytes_lt; simpa using this)
set_option maxRecDepth 100000 in
theorem open_deeds {r : Go.Reach} {b0 : Nat} {v : Value} {d : DataW H} {p : List MemPlace} (hv : Value.okWide Try.prog w r b0 47 v) (h : DataW.Trod enc Try.prog w base (fun _ => true) held 47 v d p) (hw : WithinQ 47 d) :
    ∃ a n c ds, v = .slice a n c ∧ n = ds.length ∧ n ≤ c ∧ c ≤ 9223372036854775807 ∧ Deeds w a ds ∧ (∀ y ∈ ds, y.Wf) ∧ n ≤ 17592186044416 ∧ ∀ y ∈ ds, y.tree.length ≤ 17592186044416 := by
  obtain ⟨a0, l0, c0, rfl⟩ := okWide_slice Try.underlying47 hv
  obtain ⟨fuel, hf⟩ := h
  obtain ⟨a, n, c, ds, e, h1, h2, h3, h4, h5, h6⟩ := trod_deeds hf
  simp only [Value.cells, List.cons.injEq, and_true, Value.slice.injEq] at e
  obtain ⟨rfl, rfl, rfl⟩ := e
  obtain ⟨g1, g2⟩ := h6 hw
  have hs := reach_smallQ
  have h3' : c0 ≤ 9223372036854775807 := by simpa only [maxLen] using h3
  exact ⟨_, _, _, ds, rfl, h1, h2, h3', h4, h5, by omega, fun y hy => by have := g2 y hy; omega⟩
end

/-! ### How many deeds, twigs there are -/
theorem DeedAt.chg0 {w w' : World} {b o : Nat} {y : Ds} {ta : Option Addr} {tn tc : Nat} (h : DeedAt w b o y ta tn tc) (hc : Chg [] w w') : DeedAt w' b o y ta tn tc :=
  ⟨hc.cell h.what (by simp), hc.cell h.rule (by simp), hc.cell h.place (by simp), hc.cell h.en (by simp), hc.cell h.lv (by simp), hc.cell h.tree (by simp), h.len, h.room, h.max, h.none0, h.twigs.keep hc.kp⟩
def sizeTo (ds : List Ds) (k : Nat) : Nat := ds.length + ((ds.take k).map (·.tree.length)).sum
theorem sizeTo_zero (ds : List Ds) : sizeTo ds 0 = ds.length := by simp [sizeTo]
theorem sizeTo_succ {ds : List Ds} {k : Nat} (h : k < ds.length) : sizeTo ds (k + 1) = sizeTo ds k + ds[k].tree.length := by
  unfold sizeTo
  rw [List.take_succ_eq_append_getElem h]
  simp only [List.map_append, List.map_cons, List.map_nil, List.sum_append, List.sum_cons, List.sum_nil]
  omega
def SizeP (w : World) (ds : List Ds) (e : Ending) (w' : World) : Prop := ∃ m : Nat, e = .returned (.int .i64 m) ∧ (m ≤ 2000 → m = sizeTo ds ds.length) ∧ Chg [] w w'

set_option maxRecDepth 100000 in
set_option maxHeartbeats 4000000 in
theorem size19_any (w : World) (a : Option Addr) (n c : Nat) (ds : List Ds) (hn : n = ds.length) (hc : n ≤ c) (hcm : c ≤ 9223372036854775807) (hd : Deeds w a ds) (hnb : n ≤ 17592186044416) (htb : ∀ y ∈ ds, y.tree.length ≤ 17592186044416) :
    Calls Try.prog 17 #[.slice a n c] w (SizeP w ds) := by
  have HH := Lib.hid (And.intro hn (And.intro hd htb))
  clear hn hd htb
  go_enter Try.func17, Try.ntmps17
  go_wp2_with fail
  go_loopg [3, 4] n (fun dd mv iv wr => ∃ i m : Nat, dd = n - i ∧ i ≤ n ∧ mv = .int .i64 m ∧ iv = .int .i64 i ∧ m ≤ 17592186046416 ∧ Hid (m = sizeTo ds i ∧ Chg [] w wr))
  case atStart => exact ⟨0, n, rfl, Nat.zero_le _, rfl, rfl, by omega, Lib.hid ⟨by rw [sizeTo_zero]; exact HH.out.1, Chg.refl _ _⟩⟩
  case round =>
    obtain ⟨i, m, rfl, hi, rfl, rfl, hm, hI⟩ := hrel
    obtain ⟨wq, rfl⟩ : ∃ wq, wq = wr := ⟨_, rfl⟩
    by_cases hil : i < n
    · by_cases hms : m ≤ 2000
      · have hiL : i < ds.length := by have := HH.out.1; omega
        obtain ⟨b, o, ta, tn, tc, e, hda⟩ := HH.out.2.1 i hiL
        replace hda := hda.chg0 hI.out.2
        subst e
        have h3 := hda.tree
        have hln := hda.len
        have htl := HH.out.2.2 _ (List.getElem_mem hiL)
        have hsu := sizeTo_succ hiL
        rw [← hln] at htl hsu
        rw [← hI.out.1] at hsu
        have hw1 : IntKind.i64.wrap ((m : Int) + (tn : Int)) = (m : Int) + (tn : Int) := IntWalk.i64_in _ (by omega)
        have hdm : decide ((m : Int) ≤ 2000) = true := decide_eq_true (by omega)
        have hi1 : (i : Int) < n := by omega
        have HX := Lib.hid hsu
        clear hda hln hsu hiL
        go_wp2_with fail
        go_roundg (n - (i + 1))
        case measure => omega
        case rel => exact ⟨i + 1, m + tn, rfl, by omega, by go_num, by go_num, by omega, Lib.hid ⟨HX.out.symm, hI.out.2⟩⟩
      · have hdm : decide ((m : Int) ≤ 2000) = false := decide_eq_false (by omega)
        have hi1 : (i : Int) < n := by omega
        go_wp2_with fail
        go_ret
        exact ⟨m, rfl, fun h => absurd h hms, hI.out.2⟩
    · obtain rfl : i = n := by omega
      go_wp2_with fail
      go_ret
      exact ⟨m, rfl, fun _ => by rw [hI.out.1, HH.out.1], hI.out.2⟩
end Go.Proofs.Ytffjfkjlahdedaa

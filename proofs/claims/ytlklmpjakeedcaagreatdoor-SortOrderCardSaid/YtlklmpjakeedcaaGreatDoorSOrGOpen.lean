/-
  A grammar among the arguments, opened: it reads as data, and its lists are within the reach.
  Conditions: none.
-/
import Derived.Test.YtlklmpjakeedcaaGreatDoorSOrGramA
import Derived.Test.YtlklmpjakeedcaaGreatDoorSOrG06A
import Derived.ProofKit
import Derived.OpenShut
import Derived.ChangeOld
import Derived.SizedLaws
import Derived.Deep.Slices
import Derived.Deep.Fields
import Derived.Lib.SmallJoins
import Derived.Laws.IdiomArrays
set_option linter.unusedVariables false
set_option linter.unusedSimpArgs false
namespace Go.Proofs.YtlklmpjakeedcaaGreatDoor
open Go.ChangeShapes Go.WideShapes Go.ChangeAt Go.RowKit Go.Deep Go.Joins

theorem i64_of {x : Int} (h : (Lit.int .i64 x).wf = true) : I64 x := by
  simp only [Lit.wf, Bool.and_eq_true, decide_eq_true_eq] at h
  exact h
theorem addr_of_cell {w : World} {a : Addr} {v : Value} (h : w.cell? a = some v) : a = ⟨a.block, a.off, none⟩ := by
  obtain ⟨b, o, s⟩ := a
  unfold World.cell? at h
  dsimp only at h
  split at h
  · split at h
    · cases h
    · rename_i hs
      cases s with
      | none => rfl
      | some _ => simp at hs
  · cases h
theorem add_zero (a : Addr) : a.add 0 = a := by simp [Addr.add]

theorem Tryz.cellsIntO : Tryz.prog.cellsOf 3 = 1 := by kernel_rfl
theorem Tryz.cellsU64O : Tryz.prog.cellsOf 61 = 1 := by kernel_rfl
theorem Tryz.cellsKindO : Tryz.prog.cellsOf 46 = 1 := by kernel_rfl
theorem Tryz.cellsStrO : Tryz.prog.cellsOf 9 = 1 := by kernel_rfl
theorem Tryz.cellsRuleO : Tryz.prog.cellsOf 53 = 2 := by kernel_rfl
theorem Tryz.cellsNodeO : Tryz.prog.cellsOf 65 = 9 := by kernel_rfl
theorem Tryz.cellsClassO : Tryz.prog.cellsOf 63 = 4 := by kernel_rfl
theorem Tryz.cellsIntsO : Tryz.prog.cellsOf 34 = 1 := by kernel_rfl
theorem Tryz.cellsGramO : Tryz.prog.cellsOf 31 = 2 := by kernel_rfl
theorem Tryz.bytesIntO : Tryz.prog.bytesOf 3 = 8 := by kernel_rfl
theorem Tryz.bytesRuleO : Tryz.prog.bytesOf 53 = 24 := by kernel_rfl
theorem Tryz.bytesNodeO : Tryz.prog.bytesOf 65 = 96 := by kernel_rfl

section
variable {H : Type} {enc : TypeId × Value → H} {w : World} {base : Nat} {held : Bool}

/-- All that is weighed within a datum is within the reach. -/
def Within (t : TypeId) (d : DataW H) : Prop := ∀ n ∈ d.weights Tryz.prog t, n ≤ reachBytes

theorem trod_ints {fuel : Nat} {cs : List Value} {x : DataW H × List MemPlace} (h : DataW.trod enc Tryz.prog w base (fun _ => true) held fuel 34 cs = some x) :
    ∃ a n c zs, cs = [.slice a n c] ∧ n = zs.length ∧ n ≤ c ∧ c ≤ maxLen ∧ Ints w a zs ∧ (∀ z ∈ zs, I64 z) ∧ (Within 34 x.1 → n * 8 ≤ reachBytes) := by
  rcases open_ints Tryz.underlying34 Tryz.underlying3 Tryz.cellsIntO h with ⟨rfl, rfl⟩ | ⟨a, l, c, zs, rfl, _, hl, hm, hz, rfl, hcell, hwf⟩
  · exact ⟨none, 0, 0, [], rfl, rfl, Nat.le_refl _, Nat.zero_le _, Ints.nil _ _, by simp, fun _ => Nat.zero_le _⟩
  · simp only [if_true] at hz
    have hlen : (zs.take l).length = l := by rw [List.length_take]; omega
    refine ⟨some a, l, c, zs.take l, rfl, hlen.symm, hl, hm, fun i hi => ?_, fun z hz' => i64_of (hwf z (List.mem_of_mem_take hz')), fun hw => ?_⟩
    · have hi' : i < zs.length := by omega
      have h0 := hcell 0 (by omega)
      rw [add_zero] at h0
      have ha := addr_of_cell h0
      refine ⟨a.block, a.off, by rw [← ha], ?_⟩
      have h1 := hcell i hi'
      rw [ha, Addr.add_lit] at h1
      rw [h1]
      simp [List.getD, hi']
    · have := hw (((zs.take l).length + (zs.drop l).length) * 8) (by simp [DataW.weights, Tryz.underlying34, Tryz.bytesIntO, lits])
      rw [hlen] at this
      have h2 : l * 8 ≤ (l + (zs.drop l).length) * 8 := Nat.mul_le_mul_right _ (Nat.le_add_right _ _)
      omega

theorem weightsAll_mem {e : TypeId} {d : DataW H} {k : Nat} (hk : k ∈ d.weights Tryz.prog e) : ∀ {l : List (DataW H)}, d ∈ l → k ∈ DataW.weightsAll Tryz.prog e l
  | [], h => by cases h
  | d0 :: l, h => by
    simp only [DataW.weightsAll, List.mem_append]
    rcases List.mem_cons.1 h with rfl | h
    · exact .inl hk
    · exact .inr (weightsAll_mem hk h)
theorem nine {cs : List Value} (h : cs.length = 9) : ∃ a b c d e f g i j, cs = [a, b, c, d, e, f, g, i, j] := by
  match cs, h with
  | [a, b, c, d, e, f, g, i, j], _ => exact ⟨a, b, c, d, e, f, g, i, j, rfl⟩
theorem six {α : Type} {cs : List α} (h : cs.length = 6) : ∃ a b c d e f, cs = [a, b, c, d, e, f] := by
  match cs, h with
  | [a, b, c, d, e, f], _ => exact ⟨a, b, c, d, e, f, rfl⟩

set_option maxRecDepth 100000 in
theorem trod_node {fuel : Nat} {a : Addr} {cs : List Value} {x : DataW H × List MemPlace} (hc : w.cells? base a 9 = some cs) (h : DataW.trod enc Tryz.prog w base (fun _ => true) held fuel 65 cs = some x) :
    a = ⟨a.block, a.off, none⟩ ∧ ∃ (y : Nd) (ak : Option Addr) (nk ck : Nat), NodeAt w a.block a.off y ak nk ck ∧ y.Wf ∧ (Within 65 x.1 → nk * 8 ≤ reachBytes) := by
  obtain ⟨_, hcl, hat⟩ := World.cells?_some hc
  obtain ⟨xs, n, _, rfl, _, hxl, hg⟩ := DataW.trod_struct Tryz.underlying65 h
  have g0 : DataW.trod enc Tryz.prog w base (fun _ => true) held n 46 ((cs.drop 0).take (Tryz.prog.cellsOf 46)) = xs[0]? := hg 0 _ rfl
  have g1 : DataW.trod enc Tryz.prog w base (fun _ => true) held n 63 ((cs.drop 1).take (Tryz.prog.cellsOf 63)) = xs[1]? := hg 1 _ rfl
  have g2 : DataW.trod enc Tryz.prog w base (fun _ => true) held n 9 ((cs.drop 5).take (Tryz.prog.cellsOf 9)) = xs[2]? := hg 2 _ rfl
  have g3 : DataW.trod enc Tryz.prog w base (fun _ => true) held n 3 ((cs.drop 6).take (Tryz.prog.cellsOf 3)) = xs[3]? := hg 3 _ rfl
  have g4 : DataW.trod enc Tryz.prog w base (fun _ => true) held n 3 ((cs.drop 7).take (Tryz.prog.cellsOf 3)) = xs[4]? := hg 4 _ rfl
  have g5 : DataW.trod enc Tryz.prog w base (fun _ => true) held n 34 ((cs.drop 8).take (Tryz.prog.cellsOf 34)) = xs[5]? := hg 5 _ rfl
  obtain ⟨k0, k1, k2, k3, k4, k5, k6, k7, k8, rfl⟩ := nine hcl
  obtain ⟨y0, y1, y2, y3, y4, y5, rfl⟩ := six (by simpa using hxl)
  simp only [Tryz.cellsKindO, Tryz.cellsClassO, Tryz.cellsStrO, Tryz.cellsIntO, Tryz.cellsIntsO, List.drop_zero, List.drop_succ_cons, List.take_succ_cons, List.take_zero, List.getElem?_cons_zero, List.getElem?_cons_succ] at g0 g1 g2 g3 g4 g5
  obtain ⟨v0, e0, _, w0⟩ := DataW.trod_int Tryz.underlying46 g0
  obtain ⟨z0, z1, z2, z3, n1, _, c0, c1, c2, c3⟩ := trod_array4 Tryz.underlying63 Tryz.cellsU64O g1
  obtain ⟨u0, f0, _, _⟩ := DataW.trod_int Tryz.underlying61 c0
  obtain ⟨u1, f1, _, _⟩ := DataW.trod_int Tryz.underlying61 c1
  obtain ⟨u2, f2, _, _⟩ := DataW.trod_int Tryz.underlying61 c2
  obtain ⟨u3, f3, _, _⟩ := DataW.trod_int Tryz.underlying61 c3
  obtain ⟨s, e2, _, w2⟩ := DataW.trod_string Tryz.underlying9 g2
  obtain ⟨v3, e3, _, w3⟩ := DataW.trod_int Tryz.underlying3 g3
  obtain ⟨v4, e4, _, w4⟩ := DataW.trod_int Tryz.underlying3 g4
  obtain ⟨ak, nk, ck, zs, e5, l1, l2, l3, l4, l5, l6⟩ := trod_ints g5
  simp only [List.cons.injEq, and_true] at e0 f0 f1 f2 f3 e2 e3 e4 e5
  subst e0 f0 f1 f2 f3 e2 e3 e4 e5
  have ha0 := hat 0 (by omega)
  rw [add_zero] at ha0
  have ha := addr_of_cell (ha0.trans rfl)
  have hat' : ∀ i, i < 9 → w.cell? ⟨a.block, a.off + i, none⟩ = [Value.int .i64 v0, .int .u64 u0, .int .u64 u1, .int .u64 u2, .int .u64 u3, .string s, .int .i64 v3, .int .i64 v4, .slice ak nk ck][i]? := by
    intro i hi
    have := hat i hi
    rw [ha, Addr.add_lit] at this
    exact this
  refine ⟨ha, ⟨v0, u0, u1, u2, u3, s, v3, v4, zs⟩, ak, nk, ck, ⟨hat' 0 (by omega), hat' 1 (by omega), hat' 2 (by omega), hat' 3 (by omega), hat' 4 (by omega), hat' 5 (by omega), hat' 6 (by omega), hat' 7 (by omega), hat' 8 (by omega), l1, l2, l3, l4⟩, ⟨i64_of w0, i64_of w3, i64_of w4, l5, w2⟩, fun hw => l6 fun m hm => hw m ?_⟩
  simp only [DataW.weights, Tryz.underlying65, List.map_cons, List.map_nil, DataW.weightsEach, List.mem_append]
  exact .inr (.inr (.inr (.inr (.inr (.inl hm)))))

theorem trod_nodes {fuel : Nat} {cs : List Value} {x : DataW H × List MemPlace} (h : DataW.trod enc Tryz.prog w base (fun _ => true) held fuel 29 cs = some x) :
    ∃ a n c ns, cs = [.slice a n c] ∧ n = ns.length ∧ n ≤ c ∧ c ≤ maxLen ∧ Nodes w a ns ∧ (∀ y ∈ ns, y.Wf) ∧ (Within 29 x.1 → n * 96 ≤ reachBytes ∧ ∀ y ∈ ns, y.kids.length * 8 ≤ reachBytes) := by
  rcases open_slice Tryz.underlying29 h with ⟨rfl, rfl⟩ | ⟨a, l, c, m, n, D, Pl, rfl, _, hl, hm, hmc, rfl, hi⟩
  · exact ⟨none, 0, 0, [], rfl, rfl, Nat.le_refl _, Nat.zero_le _, fun i hi => (by cases hi), by simp, fun _ => ⟨Nat.zero_le _, by simp⟩⟩
  · simp only [if_true] at hmc
    subst hmc
    rw [Tryz.cellsNodeO] at hi
    have hnode : ∀ i, i < l → ∃ q : Nd × Option Addr × Nat × Nat, NodeAt w a.block (a.off + i * 9) q.1 q.2.1 q.2.2.1 q.2.2.2 ∧ q.1.Wf ∧ (Within 65 (D i) → q.2.2.1 * 8 ≤ reachBytes) ∧ a = ⟨a.block, a.off, none⟩ := by
      intro i hil
      have ha : a = ⟨a.block, a.off, none⟩ := by
        obtain ⟨cs', hc, ht⟩ := hi 0 (by omega)
        rw [Nat.zero_mul, add_zero] at hc
        exact (trod_node hc ht).1
      obtain ⟨cs', hc, ht⟩ := hi i (by omega)
      rw [ha, Addr.add_lit] at hc
      obtain ⟨_, y, ak, nk, ck, h1, h2, h3⟩ := trod_node hc ht
      exact ⟨(y, ak, nk, ck), h1, h2, h3, ha⟩
    letI : Inhabited (Nd × Option Addr × Nat × Nat) := ⟨(⟨0, 0, 0, 0, 0, ⟨#[]⟩, 0, 0, []⟩, none, 0, 0)⟩
    obtain ⟨f, hf⟩ := choose_lt hnode
    have hlen : ((List.range l).map fun i => (f i).1).length = l := by simp
    refine ⟨some a, l, m, (List.range l).map fun i => (f i).1, rfl, hlen.symm, hl, hm, fun i hi' => ?_, fun y hy => ?_, fun hw => ⟨?_, fun y hy => ?_⟩⟩
    · have hil : i < l := by omega
      obtain ⟨h1, _, _, ha⟩ := hf i hil
      refine ⟨a.block, a.off, (f i).2.1, (f i).2.2.1, (f i).2.2.2, by rw [← ha], ?_⟩
      simpa using h1
    · obtain ⟨i, hil, rfl⟩ := List.mem_map.1 hy
      exact (hf i (by simpa using hil)).2.1
    · have := hw ((((List.range l).map D).length + ((List.range (m - l)).map fun j => D (l + j)).length) * 96) (by simp [DataW.weights, Tryz.underlying29, Tryz.bytesNodeO])
      simp only [List.length_map, List.length_range] at this
      have h2 : l * 96 ≤ (l + (m - l)) * 96 := Nat.mul_le_mul_right _ (Nat.le_add_right _ _)
      omega
    · obtain ⟨i, hil, rfl⟩ := List.mem_map.1 hy
      have hil' : i < l := by simpa using hil
      obtain ⟨h1, _, h3, _⟩ := hf i hil'
      have h4 := h3 fun k hk => hw k (by
        simp only [DataW.weights, Tryz.underlying29, List.mem_cons, List.mem_append]
        exact .inr (.inl (weightsAll_mem hk (List.mem_map.2 ⟨i, by simpa using hil', rfl⟩))))
      rw [← h1.len]
      exact h4

set_option maxRecDepth 100000 in
theorem trod_rules {fuel : Nat} {cs : List Value} {x : DataW H × List MemPlace} (h : DataW.trod enc Tryz.prog w base (fun _ => true) held fuel 28 cs = some x) :
    ∃ a n c rs, cs = [.slice a n c] ∧ n = rs.length ∧ n ≤ c ∧ c ≤ maxLen ∧ Rules w a rs ∧ (∀ r ∈ rs, r.name.size ≤ maxLen ∧ I64 r.body) ∧ (Within 28 x.1 → n * 24 ≤ reachBytes) := by
  rcases open_slice Tryz.underlying28 h with ⟨rfl, rfl⟩ | ⟨a, l, c, m, n, D, Pl, rfl, _, hl, hm, hmc, rfl, hi⟩
  · exact ⟨none, 0, 0, [], rfl, rfl, Nat.le_refl _, Nat.zero_le _, fun i hi => (by cases hi), by simp, fun _ => Nat.zero_le _⟩
  · simp only [if_true] at hmc
    subst hmc
    rw [Tryz.cellsRuleO] at hi
    have hone : ∀ i, i < l → ∃ r : Rl, w.cell? ⟨a.block, a.off + i * 2, none⟩ = some (.string r.name) ∧ w.cell? ⟨a.block, a.off + i * 2 + 1, none⟩ = some (.int .i64 r.body) ∧ r.name.size ≤ maxLen ∧ I64 r.body ∧ a = ⟨a.block, a.off, none⟩ := by
      intro i hil
      have ha : a = ⟨a.block, a.off, none⟩ := by
        obtain ⟨cs', hc, _⟩ := hi 0 (by omega)
        obtain ⟨_, hcl, hat⟩ := World.cells?_some hc
        have h0 := hat 0 (by omega)
        rw [Nat.zero_mul, add_zero, add_zero, List.getElem?_eq_getElem (by omega)] at h0
        exact addr_of_cell h0
      obtain ⟨cs', hc, ht⟩ := hi i (by omega)
      obtain ⟨_, hcl, hat⟩ := World.cells?_some hc
      obtain ⟨y0, y1, n', _, _, g0, g1⟩ := trod_struct2 Tryz.underlying53 ht
      match cs', hcl with
      | [k0, k1], _ =>
        have g0 : DataW.trod enc Tryz.prog w base (fun _ => true) held n' 9 (([k0, k1].drop 0).take (Tryz.prog.cellsOf 9)) = some y0 := g0
        have g1 : DataW.trod enc Tryz.prog w base (fun _ => true) held n' 3 (([k0, k1].drop 1).take (Tryz.prog.cellsOf 3)) = some y1 := g1
        simp only [Tryz.cellsStrO, Tryz.cellsIntO, List.drop_zero, List.drop_succ_cons, List.take_succ_cons, List.take_zero] at g0 g1
        obtain ⟨s, e0, _, w0⟩ := DataW.trod_string Tryz.underlying9 g0
        obtain ⟨v, e1, _, w1⟩ := DataW.trod_int Tryz.underlying3 g1
        simp only [List.cons.injEq, and_true] at e0 e1
        subst e0 e1
        have h0 := hat 0 (by omega)
        have h1 := hat 1 (by omega)
        rw [ha, Addr.add_lit, Addr.add_lit] at h0 h1
        exact ⟨⟨s, v⟩, h0, h1, w0, i64_of w1, ha⟩
    letI : Inhabited Rl := ⟨⟨⟨#[]⟩, 0⟩⟩
    obtain ⟨f, hf⟩ := choose_lt hone
    have hlen : ((List.range l).map f).length = l := by simp
    refine ⟨some a, l, m, (List.range l).map f, rfl, hlen.symm, hl, hm, fun i hi' => ?_, fun y hy => ?_, fun hw => ?_⟩
    · have hil : i < l := by omega
      obtain ⟨h1, h2, _, _, ha⟩ := hf i hil
      refine ⟨a.block, a.off, by rw [← ha], ?_, ?_⟩
      · simpa using h1
      · simpa using h2
    · obtain ⟨i, hil, rfl⟩ := List.mem_map.1 hy
      obtain ⟨_, _, h3, h4, _⟩ := hf i (by simpa using hil)
      exact ⟨h3, h4⟩
    · have := hw ((((List.range l).map D).length + ((List.range (m - l)).map fun j => D (l + j)).length) * 24) (by simp [DataW.weights, Tryz.underlying28, Tryz.bytesRuleO])
      simp only [List.length_map, List.length_range] at this
      have h2 : l * 24 ≤ (l + (m - l)) * 24 := Nat.mul_le_mul_right _ (Nat.le_add_right _ _)
      omega

theorem reach_small : reachBytes ≤ 140737488355328 := Nat.le_of_lt (by have := reachBytes_lt; simpa using this)
set_option maxRecDepth 100000 in
/-- A grammar that came in. -/
theorem open_gram {r : Go.Reach} {b0 : Nat} {v : Value} {d : DataW H} {p : List MemPlace} (hv : Value.okWide Tryz.prog w r b0 31 v) (h : DataW.Trod enc Tryz.prog w base (fun _ => true) held 31 v d p) (hw : Within 31 d) :
    ∃ a1 n1 c1 a2 n2 c2 g, v = .agg #[.slice a1 n1 c1, .slice a2 n2 c2] ∧ GramAt w a1 n1 c1 a2 n2 c2 g ∧ YtlklmpjakeedcaaGreatDoor.Reach g := by
  obtain ⟨v0, v1, y0, y1, n, rfl, rfl, rfl, h0, h1⟩ := open_agg2 Tryz.underlying31 (by kernel_rfl) Tryz.cellsGramO hv h
  obtain ⟨a1, n1, c1, rs, e1, l1, l2, l3, l4, l5, l6⟩ := trod_rules h0
  obtain ⟨a2, n2, c2, ns, e2, m1, m2, m3, m4, m5, m6⟩ := trod_nodes h1
  simp only [List.cons.injEq, and_true] at e1 e2
  subst e1 e2
  have hw0 : Within 28 y0.1 := fun k hk => hw k (by
    simp only [DataW.weights, Tryz.underlying31, List.map_cons, List.map_nil, DataW.weightsEach, List.mem_append]
    exact .inl hk)
  have hw1 : Within 29 y1.1 := fun k hk => hw k (by
    simp only [DataW.weights, Tryz.underlying31, List.map_cons, List.map_nil, DataW.weightsEach, List.mem_append]
    exact .inr (.inl hk))
  have r0 := l6 hw0
  obtain ⟨r1, r2⟩ := m6 hw1
  have hs := reach_small
  refine ⟨a1, n1, c1, a2, n2, c2, ⟨rs, ns⟩, rfl, ⟨l1, l2, l3, l4, m1, m2, m3, m4, ⟨m5, fun r hr => (l5 r hr).1, fun r hr => (l5 r hr).2⟩⟩, ⟨?_, ?_, fun x hx => ?_⟩⟩
  · show rs.length ≤ _; omega
  · show ns.length ≤ _; omega
  · have := r2 x hx; omega
end
end Go.Proofs.YtlklmpjakeedcaaGreatDoor

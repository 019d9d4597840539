/-
  What a store of package seed is, in memory: its pairs, and what was found of each; the facts on types that the walks use.
  Conditions: the numbers are int64s; a tree has at most 2^40 twigs.
-/
import Derived.Test.YtffjfkjlahdedaaSnsGBase
set_option linter.unusedVariables false
set_option linter.unusedSimpArgs false
set_option linter.unnecessarySimpa false
namespace Go.Proofs.Ytffjfkjlahdedaa
open Go.RowKit Go.MapKept

theorem Try.laidOutX : laidOutB Try.prog = true := by kernel_rfl
theorem Try.keyTypePair : Try.prog.keyType 71 = true := by kernel_rfl
theorem Try.cellsPair : Try.prog.cellsOf 71 = 2 := by kernel_rfl
theorem Try.cellsInt : Try.prog.cellsOf 3 = 1 := by kernel_rfl
theorem Try.rowPair : (71 : TypeId) < Try.prog.types.size := of_decide_eq_true (by kernel_rfl)
set_option maxRecDepth 10000 in
theorem Try.keyedPair : Maps.Keyed Try.prog 71 := Maps.Keyed.of_law (deep_law_laid Try.laidOutX (m := 2) (by omega) Try.rowPair (by kernel_rfl) (by simp only [Try.underlying71]))
theorem Try.infoPair : (Try.prog.info? 71).map (fun i => (i.zero, i.size, i.bytes)) = some (some (.agg #[.int .i64 0, .int .i64 0]), 2, 16) := by kernel_rfl
theorem Try.infoTwig : (Try.prog.info? 33).map (fun i => (i.zero, i.size, i.bytes)) = some (some (.agg #[.int .i64 0, .int .i64 0, .int .i64 0, .int .i64 0, .int .i64 0]), 5, 40) := by kernel_rfl


theorem keyOf_pair {P : Program} {k t : TypeId} {f g : Field} (hu : P.underlying k = some (.struct #[f, g])) (hk : P.keyType k = true) (hf : f.type = t) (hg : g.type = t) (hof : f.offset = 0) (hog : g.offset = 1) (hnf : (f.name != "_") = true) (hng : (g.name != "_") = true)
    (hc : P.cellsOf k = 2) (ht : P.cellsOf t = 1) (hi : P.underlying t = some (.int .i64)) (hs : 0 < P.types.size) {a b : Int} (ha : (Lit.int .i64 a).wf = true) (hb : (Lit.int .i64 b).wf = true) :
    ∃ l, keyOf P k (.agg #[.int .i64 a, .int .i64 b]) = some l := by
  obtain ⟨d, hd⟩ := Nat.exists_eq_succ_of_ne_zero (Nat.ne_of_gt hs)
  refine Option.isSome_iff_exists.1 ?_
  simp [keyOf, hu, hk, Value.formed, hc, Value.cells, hd, Program.keyLits, hnf, hng, hf, hg, hof, hog, ht, hi, ha, hb]

def pairV (q : Int × Int) : Value := .agg #[.int .i64 q.1, .int .i64 q.2]
theorem pairV_inj (a b : Int × Int) (h : pairV a = pairV b) : a = b := by
  simp [pairV] at h
  exact Prod.ext h.1 h.2
theorem pairKey (q : Int × Int) (h1 : I64 q.1) (h2 : I64 q.2) : ∃ l, keyOf Try.prog 71 (pairV q) = some l :=
  keyOf_pair Try.underlying71 Try.keyTypePair rfl rfl rfl rfl (by decide) (by decide) Try.cellsPair Try.cellsInt Try.underlying3 (Nat.lt_of_le_of_lt (Nat.zero_le _) Try.rowPair) h1.wf h2.wf

/-! ### Twigs -/
structure Tw where
  r : Int
  l : Int
  f : Int
  t : Int
  k : Int
def Tw.cells (x : Tw) : List Value := [.int .i64 x.r, .int .i64 x.l, .int .i64 x.f, .int .i64 x.t, .int .i64 x.k]
def twCells (l : List Tw) : List Value := l.flatMap Tw.cells
theorem twCells_length (l : List Tw) : (twCells l).length = l.length * 5 := by
  induction l with
  | nil => rfl
  | cons x r ih => simp only [twCells, List.flatMap_cons, List.length_append] at ih ⊢; rw [ih]; simp [Tw.cells]; omega
theorem twCells_append (a b : List Tw) : twCells (a ++ b) = twCells a ++ twCells b := by simp [twCells]
theorem twCells_one (l : List Tw) : ∀ u ∈ twCells l, u.oneCell' = true := by
  intro u hu
  obtain ⟨x, _, hx⟩ := List.mem_flatMap.1 hu
  simp [Tw.cells] at hx
  rcases hx with rfl | rfl | rfl | rfl | rfl <;> rfl
/-- Slice v is a row of twigs of its own. -/
def Tree (w : World) (v : Value) (t : List Tw) : Prop := w.ownsRow 0 33 5 v t.length (twCells t) ∧ t.length ≤ 1099511627776

/-! ### The store -/
abbrev Found := Option (Int × Int × List Tw)
def foundV (b : Bool) (e l : Int) (a : Option Addr) (n c : Nat) : Value := .agg #[.bool b, .int .i64 e, .int .i64 l, .slice a n c]
/-- The like, not the row NB. -/
def TreeN (NB : Nat) (w : World) (v : Value) (t : List Tw) : Prop := Tree w v t ∧ v.ownBlock ≠ some NB
def FoundAt (NB : Nat) (w : World) (v : Value) : Found → Prop
  | none => v = foundV false 0 0 none 0 0
  | some (e, l, t) => ∃ a n c, v = foundV true e l a n c ∧ TreeN NB w (.slice a n c) t
abbrev St := List ((Int × Int) × Found)
def St.get (s : St) (q : Int × Int) : Option Found := (s.find? (fun x => x.1 = q)).map (·.2)
def pairCells (s : St) : List Value := s.flatMap fun x => [.int .i64 x.1.1, .int .i64 x.1.2]
/-- At block b lies a store: its own blocks are S. -/
structure StoreAt (NB : Nat) (w : World) (b : Nat) (v : Value) (m : Nat) (s : St) : Prop where
  head : w.heap[b]? = some (.cells #[v, .map (some m)] 68 (0, 0))
  row : w.ownsRow 0 71 2 v s.length (pairCells s)
  map : ∃ M, MapIs Try.prog 71 pairV w m M ∧ ∀ q, (match s.get q with | none => M q = none | some f => ∃ val, M q = some val ∧ FoundAt NB w val f)
  keys : (s.map (·.1)).Nodup
  wf : ∀ x ∈ s, I64 x.1.1 ∧ I64 x.1.2
  ban : NB < w.heap.size
def own (b : Nat) (v : Value) (m : Nat) : List Nat := b :: m :: v.ownBlock.toList

theorem pairCells_length (s : St) : (pairCells s).length = s.length * 2 := by
  induction s with
  | nil => rfl
  | cons x r ih => simp only [pairCells, List.flatMap_cons, List.length_append] at ih ⊢; rw [ih]; simp; omega
theorem pairCells_append (a b : St) : pairCells (a ++ b) = pairCells a ++ pairCells b := by simp [pairCells]

end Go.Proofs.Ytffjfkjlahdedaa

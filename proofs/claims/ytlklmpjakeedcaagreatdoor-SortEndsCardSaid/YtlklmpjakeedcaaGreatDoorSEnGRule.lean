/-
 Grammars in memory: how a list of numbers, of rules, of nodes, a grammar read; what keeps them as they are.
 Conditions: none.
-/
import Derived.Test.YtlklmpjakeedcaaGreatDoorSEnBase
import Derived.Test.YtlklmpjakeedcaaGreatDoorSEnPlain
import Derived.Test.YtlklmpjakeedcaaGreatDoorProg
import Derived.RegionTactic
import Derived.BigRegion
import Derived.BigQuiet
import Derived.ChangeAlike
import Derived.Deep.RegionLaw
import Derived.Deep.RegionHeld3
import Derived.StillTailTactics
import Derived.WalkArith
import Derived.ChangeKeysEq
import Derived.Deep.LoopGhost
import Derived.Laws.MakeOwn
import Derived.Laws.EntriesVeiled
import Derived.Shelf.Abstract
import Derived.Lib.QuietBelow
set_option linter.unusedVariables false
set_option linter.unusedSimpArgs false
namespace Go.Proofs.YtlklmpjakeedcaaGreatDoor
open Go.RowKit Go.MapKept

def I64 (x : Int) : Prop := -9223372036854775808 ≤ x ∧ x ≤ 9223372036854775807
instance (x : Int) : Decidable (I64 x) := by unfold I64; exact inferInstance
theorem I64.wf {x : Int} (h : I64 x) : (Lit.int .i64 x).wf = true := WalkArith.wf_i64 h

/-- What could be read reads as it did. -/
def Kp (w w' : World) : Prop := w.heap.size ≤ w'.heap.size ∧ ∀ p v, w.cell? p = some v → w'.cell? p = some v
theorem Chg.kp {w w' : World} (h : Chg [] w w') : Kp w w' := ⟨h.size, fun p v e => h.cell e (by simp)⟩

/-! ### Numbers -/
def Ints (w : World) (a : Option Addr) (zs : List Int) : Prop := ∀ i (h : i < zs.length), ∃ b o, a = some ⟨b, o, none⟩ ∧ w.cell? ⟨b, o + i, none⟩ = some (.int .i64 zs[i])
theorem Ints.keep {w w' : World} {a : Option Addr} {zs : List Int} (h : Ints w a zs) (k : Kp w w') : Ints w' a zs := fun i hi => by
 obtain ⟨b, o, h1, h2⟩ := h i hi
 exact ⟨b, o, h1, k.2 _ _ h2⟩
theorem Ints.nil (w : World) (a : Option Addr) : Ints w a [] := fun i h => by cases h

/-! ### Rules -/
def Rules (w : World) (a : Option Addr) (rs : List Rl) : Prop :=
 ∀ i (h : i < rs.length), ∃ b o, a = some ⟨b, o, none⟩ ∧ w.cell? ⟨b, o + i * 2, none⟩ = some (.string rs[i].name) ∧ w.cell? ⟨b, o + i * 2 + 1, none⟩ = some (.int .i64 rs[i].body)
theorem Rules.keep {w w' : World} {a : Option Addr} {rs : List Rl} (h : Rules w a rs) (k : Kp w w') : Rules w' a rs := fun i hi => by
 obtain ⟨b, o, h1, h2, h3⟩ := h i hi
 exact ⟨b, o, h1, k.2 _ _ h2, k.2 _ _ h3⟩

/-! ### Nodes -/
structure Nd.Wf (x : Nd) : Prop where
 k : I64 x.k
 r : I64 x.r
 l : I64 x.l
 kids : ∀ z ∈ x.kids, I64 z
 s : x.s.size ≤ maxLen
structure NodeAt (w : World) (b o : Nat) (x : Nd) (a : Option Addr) (n c : Nat) : Prop where
 k : w.cell? ⟨b, o, none⟩ = some (.int .i64 x.k)
 c0 : w.cell? ⟨b, o + 1, none⟩ = some (.int .u64 x.c0)
 c1 : w.cell? ⟨b, o + 2, none⟩ = some (.int .u64 x.c1)
 c2 : w.cell? ⟨b, o + 3, none⟩ = some (.int .u64 x.c2)
 c3 : w.cell? ⟨b, o + 4, none⟩ = some (.int .u64 x.c3)
 s : w.cell? ⟨b, o + 5, none⟩ = some (.string x.s)
 r : w.cell? ⟨b, o + 6, none⟩ = some (.int .i64 x.r)
 l : w.cell? ⟨b, o + 7, none⟩ = some (.int .i64 x.l)
 kids : w.cell? ⟨b, o + 8, none⟩ = some (.slice a n c)
 len : n = x.kids.length
 le : n ≤ c
 cap : c ≤ maxLen
 ints : Ints w a x.kids
theorem NodeAt.keep {w w' : World} {b o n c : Nat} {x : Nd} {a : Option Addr} (h : NodeAt w b o x a n c) (k : Kp w w') : NodeAt w' b o x a n c :=
 ⟨k.2 _ _ h.k, k.2 _ _ h.c0, k.2 _ _ h.c1, k.2 _ _ h.c2, k.2 _ _ h.c3, k.2 _ _ h.s, k.2 _ _ h.r, k.2 _ _ h.l, k.2 _ _ h.kids, h.len, h.le, h.cap, h.ints.keep k⟩
def Nodes (w : World) (a : Option Addr) (ns : List Nd) : Prop :=
 ∀ i (h : i < ns.length), ∃ b o ak nk ck, a = some ⟨b, o, none⟩ ∧ NodeAt w b (o + i * 9) ns[i] ak nk ck
theorem Nodes.keep {w w' : World} {a : Option Addr} {ns : List Nd} (h : Nodes w a ns) (k : Kp w w') : Nodes w' a ns := fun i hi => by
 obtain ⟨b, o, ak, nk, ck, h1, h2⟩ := h i hi
 exact ⟨b, o, ak, nk, ck, h1, h2.keep k⟩
/-- A node as a value. -/
def Nd.cells (x : Nd) (a : Option Addr) (n c : Nat) : Array Value := #[.int .i64 x.k, .int .u64 x.c0, .int .u64 x.c1, .int .u64 x.c2, .int .u64 x.c3, .string x.s, .int .i64 x.r, .int .i64 x.l, .slice a n c]

/-! ### Grammars -/
structure Gr.Wf (g : Gr) : Prop where
 nodes : ∀ x ∈ g.nodes, x.Wf
 names : ∀ r ∈ g.rules, r.name.size ≤ maxLen
 bodies : ∀ r ∈ g.rules, I64 r.body
structure GramAt (w : World) (a1 : Option Addr) (n1 c1 : Nat) (a2 : Option Addr) (n2 c2 : Nat) (g : Gr) : Prop where
 e1 : n1 = g.rules.length
 le1 : n1 ≤ c1
 cap1 : c1 ≤ maxLen
 rules : Rules w a1 g.rules
 e2 : n2 = g.nodes.length
 le2 : n2 ≤ c2
 cap2 : c2 ≤ maxLen
 nodes : Nodes w a2 g.nodes
 wf : g.Wf
theorem GramAt.keep {w w' : World} {a1 : Option Addr} {n1 c1 : Nat} {a2 : Option Addr} {n2 c2 : Nat} {g : Gr} (h : GramAt w a1 n1 c1 a2 n2 c2 g) (k : Kp w w') : GramAt w' a1 n1 c1 a2 n2 c2 g :=
 ⟨h.e1, h.le1, h.cap1, h.rules.keep k, h.e2, h.le2, h.cap2, h.nodes.keep k, h.wf⟩
theorem GramAt.small {w : World} {a1 : Option Addr} {n1 c1 : Nat} {a2 : Option Addr} {n2 c2 : Nat} {g : Gr} (h : GramAt w a1 n1 c1 a2 n2 c2 g) : n1 ≤ 9223372036854775807 ∧ n2 ≤ 9223372036854775807 := by
 have := h.le1; have := h.cap1; have := h.le2; have := h.cap2
 simp only [maxLen] at *
 omega

/-! ### Rows of one's own -/
def OwnInts (w : World) (v : Value) (zs : List Int) : Prop := w.ownsRow 0 3 1 v zs.length (zs.map (Value.int .i64))
theorem ownInts_ints {w : World} {a : Option Addr} {n c : Nat} {zs : List Int} (h : OwnInts w (.slice a n c) zs) : Ints w a zs ∧ n = zs.length ∧ n ≤ c ∧ c ≤ maxLen ∨ n = 0 ∧ zs = [] ∧ c = 0 ∧ a = none := by
 rcases h.2 with ⟨h0, h1⟩ | ⟨g, cap, cur, h0, hb, hg, hn, hc, hs, ht⟩
 ·cases h0
  exact .inr ⟨rfl, List.eq_nil_of_length_eq_zero h1, rfl, rfl⟩
 ·cases h0
  refine .inl ⟨fun i hi => ⟨g, 0, rfl, ?_⟩, rfl, hn, hc⟩
  rw [Nat.zero_add, cell_of_cells hg]
  have h1 : (zs.map (Value.int .i64))[i]? = some (.int .i64 zs[i]) := by simp [hi]
  rw [← ht, List.getElem?_take] at h1
  split at h1
  ·simpa using h1
  ·cases h1
theorem ownInts_read {w : World} {a : Option Addr} {n c : Nat} {zs : List Int} (h : OwnInts w (.slice a n c) zs) : Ints w a zs ∧ n = zs.length ∧ n ≤ c ∧ c ≤ maxLen := by
 rcases ownInts_ints h with h | ⟨rfl, rfl, rfl, rfl⟩
 ·exact h
 ·exact ⟨Ints.nil _ _, rfl, Nat.le_refl _, Nat.zero_le _⟩

/-! ### Regions whose calls only make memory -/
theorem chg_of_rg {w w' : World} (h : ∃ p : Regrown, w' = Sort.grow (redrawn w p.d) p.os) : Chg [] w w' := by
 obtain ⟨⟨d, os⟩, rfl⟩ := h
 exact .of_below (below_regrown w d os)
theorem chg_rg (w : World) (d : Nat) (os : Array Obj) : Chg [] w (Sort.grow (redrawn w d) os) := .of_below (below_regrown w d os)
theorem calls_rg {P : Program} {f : FuncId} {args : Array Value} {w : World} {v : Value} (h : ∀ w1, Chg [] w w1 → Calls P f args w1 fun e w' => e = .returned v ∧ Chg [] w1 w') :
  ∀ d os, Calls P f args (Sort.grow (redrawn w d) os) fun e w'' => e = .returned v ∧ ∃ p : Regrown, w'' = Sort.grow (redrawn w p.d) p.os := fun d os =>
 Calls.regrown_of ((h _ (chg_rg w d os)).mono fun _ _ ⟨a, b⟩ => ⟨a, b.below (Nat.le_refl _) (by simp)⟩)
theorem cell_rg {w : World} {a : Addr} {v : Value} (h : w.cell? a = some v) : ∀ d os, (Sort.grow (redrawn w d) os).cell? a = some v := cell_regrown h

/-- A function value against nil. -/
theorem neq_func {P : Program} {t : TypeId} {ps rs : Array TypeId} {v : Bool} (ht : P.underlying t = some (.func ps rs v)) (w : World) (f : Fn) (a b : Array Value) : (binOp .neq t (.func f a b) .nilFunc).run P w = .ok (.bool true) w := by
 have e : ∀ d, (Op.equalIn (d + 1) t (.func f a b) .nilFunc).run P w = .ok false w := fun d => by simp [Op.equalIn, run_underlying ht]
 simp only [binOp, Op.equal]
 have := e 9999
 rw [show (9999 + 1) = Op.maxDepth from rfl] at this
 simp [this]
theorem neq_func_nil {P : Program} {t : TypeId} {ps rs : Array TypeId} {v : Bool} (ht : P.underlying t = some (.func ps rs v)) (w : World)  : (binOp .neq t (.nilFunc) .nilFunc).run P w = .ok (.bool false) w := by
 have e : ∀ d, (Op.equalIn (d + 1) t .nilFunc .nilFunc).run P w = .ok true w := fun d => by simp [Op.equalIn, run_underlying ht]
 simp only [binOp, Op.equal]
 have := e 9999
 rw [show (9999 + 1) = Op.maxDepth from rfl] at this
 simp [this]

/-- The cells of a block, one by one. -/
theorem cells1 {w : World} {b : Nat} {v0 : Value} {t : TypeId} {m : Nat × Nat} (h : w.heap[b]? = some (.cells #[v0] t m)) : w.cell? ⟨b, 0, none⟩ = some v0 := cell_of_cells h 0
theorem cells2 {w : World} {b : Nat} {v0 v1 : Value} {t : TypeId} {m : Nat × Nat} (h : w.heap[b]? = some (.cells #[v0, v1] t m)) : w.cell? ⟨b, 0, none⟩ = some v0 ∧ w.cell? ⟨b, 1, none⟩ = some v1 := ⟨cell_of_cells h 0, cell_of_cells h 1⟩
theorem cells9 {w : World} {b : Nat} {v0 v1 v2 v3 v4 v5 v6 v7 v8 : Value} {t : TypeId} {m : Nat × Nat} (h : w.heap[b]? = some (.cells #[v0, v1, v2, v3, v4, v5, v6, v7, v8] t m)) :
  w.cell? ⟨b, 0, none⟩ = some v0 ∧ w.cell? ⟨b, 1, none⟩ = some v1 ∧ w.cell? ⟨b, 2, none⟩ = some v2 ∧ w.cell? ⟨b, 3, none⟩ = some v3 ∧ w.cell? ⟨b, 4, none⟩ = some v4 ∧ w.cell? ⟨b, 5, none⟩ = some v5 ∧ w.cell? ⟨b, 6, none⟩ = some v6 ∧ w.cell? ⟨b, 7, none⟩ = some v7 ∧ w.cell? ⟨b, 8, none⟩ = some v8 :=
 ⟨cell_of_cells h 0, cell_of_cells h 1, cell_of_cells h 2, cell_of_cells h 3, cell_of_cells h 4, cell_of_cells h 5, cell_of_cells h 6, cell_of_cells h 7, cell_of_cells h 8⟩

/-! ### Types -/
theorem Tryz.infoInt : (Tryz.prog.info? 3).map (fun i => (i.zero, i.size, i.bytes)) = some (some (.int .i64 0), 1, 8) := by kernel_rfl
theorem Tryz.cellsU64 : Tryz.prog.cellsOf 61 = 1 := by kernel_rfl
theorem Tryz.infoU64x : ∃ i, Tryz.prog.info? 61 = some i := by
 refine Option.isSome_iff_exists.1 ?_
 kernel_rfl
@[go_sem] theorem class_eq (a b c d a' b' c' d' : Int) (w : World) :
  (Op.equalIn 10000 63 (.agg #[.int .u64 a, .int .u64 b, .int .u64 c, .int .u64 d]) (.agg #[.int .u64 a', .int .u64 b', .int .u64 c', .int .u64 d'])).run Tryz.prog w = .ok (decide (a = a' ∧ b = b' ∧ c = c' ∧ d = d')) w := by
 obtain ⟨i, hi⟩ := Tryz.infoU64x
 have e : ∀ (x y : Int) (w : World), (Op.equalIn 9999 61 (.int .u64 x) (.int .u64 y)).run Tryz.prog w = .ok (x == y) w := fun x y w => run_equalIn_int w 9998 _ .u64 .u64 x y Tryz.underlying61
 rw [show (10000 : Nat) = 9999 + 1 from rfl, run_equalIn_array w 9999 _ _ Tryz.underlying63 hi, Tryz.cellsU64]
 have p : ∀ (x y z u : Int) (w : World), (part 61 #[.int .u64 x, .int .u64 y, .int .u64 z, .int .u64 u] (0 * 1)).run Tryz.prog w = .ok (.int .u64 x) w ∧ (part 61 #[.int .u64 x, .int .u64 y, .int .u64 z, .int .u64 u] (1 * 1)).run Tryz.prog w = .ok (.int .u64 y) w ∧ (part 61 #[.int .u64 x, .int .u64 y, .int .u64 z, .int .u64 u] (2 * 1)).run Tryz.prog w = .ok (.int .u64 z) w ∧ (part 61 #[.int .u64 x, .int .u64 y, .int .u64 z, .int .u64 u] (3 * 1)).run Tryz.prog w = .ok (.int .u64 u) w := by
  intro x y z u w
  simp [part, isAgg, run_underlying Tryz.underlying61]
 simp only [show List.range 4 = [0, 1, 2, 3] from rfl, Op.eqItems, Sem.run_bind, (p _ _ _ _ _).1, (p _ _ _ _ _).2.1, (p _ _ _ _ _).2.2.1, (p _ _ _ _ _).2.2.2, Result.andThen_ok, e]
 by_cases ha : a = a' <;> by_cases hb : b = b' <;> by_cases hc : c = c' <;> by_cases hd : d = d' <;>
  simp [ha, hb, hc, hd, (p _ _ _ _ _).1, (p _ _ _ _ _).2.1, (p _ _ _ _ _).2.2.1, (p _ _ _ _ _).2.2.2, e]
end Go.Proofs.YtlklmpjakeedcaaGreatDoor
set_option linter.unusedVariables false
set_option linter.unusedSimpArgs false
namespace Go.Proofs.YtlklmpjakeedcaaGreatDoor
open Go.RowKit Go.MapKept Go.Shelf

theorem tmod_emodK (x n : Int) : x.tmod n % n = x % n := by
 have h := Int.mul_tdiv_add_tmod x n
 have : x.tmod n = x - n * x.tdiv n := by omega
 rw [this, Int.sub_mul_emod_self_left]
theorem pick_posK (x n : Int) (hn : 1 ≤ n) (h : 0 ≤ x.tmod n) : x.tmod n = x % n := by
 have t1 := Int.tmod_lt_of_pos x (show 0 < n by omega)
 rw [← tmod_emodK, Int.emod_eq_of_lt h t1]
theorem pick_negK (x n : Int) (hn : 1 ≤ n) (h : x.tmod n < 0) : x.tmod n + n = x % n := by
 have t2 := Int.lt_tmod_of_pos x (show 0 < n by omega)
 rw [← tmod_emodK, ← Int.add_emod_right, Int.emod_eq_of_lt (by omega) (by omega)]
set_option maxHeartbeats 400000 in
theorem pickK_any (x n : Int) (w : World) (hn : 1 ≤ n) (hn2 : n ≤ 1000000) (h1 : -9223372036854775808 ≤ x) (h2 : x ≤ 9223372036854775807) :
  Calls Tryz.prog 9 #[.int .i64 x, .int .i64 n] w fun e w' => e = .returned (.int .i64 (x % n)) ∧ Chg [] w w' := by
 have t1 := Int.tmod_lt_of_pos x (show 0 < n by omega)
 have t2 := Int.lt_tmod_of_pos x (show 0 < n by omega)
 go_enter Tryz.func9, Tryz.ntmps9
 go_wp2
 all_goals go_ret
 all_goals refine ⟨ret_int ?_, Chg.refl _ _⟩
 ·exact pick_negK x n hn (by assumption)
 ·exact pick_posK x n hn (by assumption)
end Go.Proofs.YtlklmpjakeedcaaGreatDoor
set_option linter.unusedVariables false
set_option linter.unusedSimpArgs false
namespace Go.Proofs.YtlklmpjakeedcaaGreatDoor
open Go.RowKit Go.MapKept

theorem findIdx_at {α : Type} {p : α → Bool} {l : List α} {k : Nat} (hk : k < l.length) (hp : p l[k] = true) (hb : ∀ j (h : j < k), p (l[j]'(by omega)) = false) : l.findIdx p = k := by
 rw [List.findIdx_eq (by omega)]
 exact ⟨hp, fun j hj => hb j hj⟩
theorem findIdx_none {α : Type} {p : α → Bool} {l : List α} (hb : ∀ j (h : j < l.length), p l[j] = false) : l.findIdx p = l.length := by
 rw [List.findIdx_eq_length]
 intro x hx
 obtain ⟨j, hj, rfl⟩ := List.mem_iff_getElem.1 hx
 exact hb j hj
/-- The first place, or -1. -/
def idxI {α : Type} (l : List α) (p : α → Bool) : Int := if l.findIdx p < l.length then (l.findIdx p : Int) else -1

set_option maxRecDepth 100000 in
set_option maxHeartbeats 1000000 in
theorem idxRules_any (w : World) (a : Option Addr) (n c : Nat) (rs : List Rl) (g : Nat) (lb : Array Value) (p : Rl → Bool) (hn : n = rs.length) (hs : n ≤ 9223372036854775807) (hr : Rules w a rs)
  (hp : ∀ i (h : i < rs.length) w1, Chg [] w w1 → Calls Tryz.prog g (#[.agg #[.string rs[i].name, .int .i64 rs[i].body]] ++ lb) w1 fun e w2 => e = .returned (.bool (p rs[i])) ∧ Chg [] w1 w2)
  (eg : ∀ args w, (callFunc g args).run Tryz.prog w = .ok (.enter g args) w) :
  Calls Tryz.prog 100 #[.slice a n c, .func (.func g) #[] lb] w fun e w' => e = .returned (.int .i64 (idxI rs p)) ∧ Chg [] w w' := by
 have H := Lib.hid (And.intro hn (And.intro hr hp))
 clear hn hr hp
 go_enter Tryz.func100, Tryz.ntmps100
 go_wp2_with fail
 go_loopg [8] n (fun d iv wr => ∃ k : Nat, d = n - k ∧ k ≤ n ∧ iv = .int .i64 k ∧ Chg [] w wr ∧ Hid (∀ j (h : j < rs.length), j < k → p rs[j] = false))
 case atStart => exact ⟨0, rfl, Nat.zero_le _, rfl, Chg.refl _ _, Lib.hid (fun j _ h => by omega)⟩
 case round =>
  obtain ⟨k, rfl, hk, rfl, hcw, hb⟩ := hrel
  have HC := Lib.hid hcw
  clear hcw
  by_cases hlt : k < n
  ·have hk' : k < rs.length := by have := H.out.1; omega
   obtain ⟨b, o, rfl, h1, h2⟩ := (H.out.2.1.keep HC.out.kp) k hk'
   have hcall := H.out.2.2 k hk'
   have hbk := World.block_lt_of_cell? _ _ h1
   simp only at hbk
   obtain ⟨r, hr⟩ : ∃ r, r = rs[k] := ⟨_, rfl⟩
   rw [← hr] at hcall h1 h2
   obtain ⟨nm, bd⟩ := r
   have HR := Lib.hid (And.intro hr hcall)
   clear hcall hr
   dsimp only at h1 h2
   go_wp2_with fail
   refine (HR.out.2 _ HC.out).mono ?_
   rintro e w1 ⟨rfl, hc1⟩
   have H1 := Lib.hid hc1
   clear hc1
   cases hp : p ⟨nm, bd⟩
   ·go_wp2
    go_roundg (n - (k + 1))
    case measure => omega
    case rel =>
     refine ⟨k + 1, rfl, by omega, by go_num, HC.out.tr H1.out, Lib.hid fun j h hj => ?_⟩
     by_cases e : j = k
     ·subst e; rw [← HR.out.1]; exact hp
     ·exact hb.out j h (by omega)
   ·go_wp2
    go_ret
    refine ⟨ret_int ?_, HC.out.tr H1.out⟩
    have hk' : k < rs.length := by have := H.out.1; omega
    have hf := findIdx_at hk' (by rw [← HR.out.1]; exact hp) (fun j hj => hb.out j (by omega) hj)
    unfold idxI
    rw [hf, if_pos hk']
  ·obtain rfl : k = n := by omega
   go_wp2
   go_ret
   refine ⟨ret_int ?_, HC.out⟩
   have hf := findIdx_none (p := p) (l := rs) (fun j hj => hb.out j hj (by have := H.out.1; omega))
   unfold idxI
   rw [hf, if_neg (by omega)]

set_option maxRecDepth 100000 in
set_option maxHeartbeats 1000000 in
theorem idxNodes_any (w : World) (a : Option Addr) (n c : Nat) (ns : List Nd) (g : Nat) (lb : Array Value) (p : Nd → Bool) (hn : n = ns.length) (hs : n ≤ 9223372036854775807) (hr : Nodes w a ns)
  (hp : ∀ i (h : i < ns.length) b o ak nk ck, NodeAt w b o ns[i] ak nk ck → ∀ w1, Chg [] w w1 → Calls Tryz.prog g (#[.agg (ns[i].cells ak nk ck)] ++ lb) w1 fun e w2 => e = .returned (.bool (p ns[i])) ∧ Chg [] w1 w2)
  (eg : ∀ args w, (callFunc g args).run Tryz.prog w = .ok (.enter g args) w) :
  Calls Tryz.prog 95 #[.slice a n c, .func (.func g) #[] lb] w fun e w' => e = .returned (.int .i64 (idxI ns p)) ∧ Chg [] w w' := by
 have H := Lib.hid (And.intro hn (And.intro hr hp))
 clear hn hr hp
 go_enter Tryz.func95, Tryz.ntmps95
 go_wp2_with fail
 go_loopg [8] n (fun d iv wr => ∃ k : Nat, d = n - k ∧ k ≤ n ∧ iv = .int .i64 k ∧ Chg [] w wr ∧ Hid (∀ j (h : j < ns.length), j < k → p ns[j] = false))
 case atStart => exact ⟨0, rfl, Nat.zero_le _, rfl, Chg.refl _ _, Lib.hid (fun j _ h => by omega)⟩
 case round =>
  obtain ⟨k, rfl, hk, rfl, hcw, hb⟩ := hrel
  have HC := Lib.hid hcw
  clear hcw
  by_cases hlt : k < n
  ·have hk' : k < ns.length := by have := H.out.1; omega
   obtain ⟨b, o, ak, nk, ck, rfl, hx⟩ := H.out.2.1 k hk'
   have hcall := H.out.2.2 k hk' b _ ak nk ck hx
   have hx' := hx.keep HC.out.kp
   obtain ⟨x, hr⟩ : ∃ x, x = ns[k] := ⟨_, rfl⟩
   rw [← hr] at hcall hx'
   obtain ⟨xk, x0, x1, x2, x3, xs, xr, xl, xkids⟩ := x
   obtain ⟨h0, h1, h2, h3, h4, h5, h6, h7, h8, q1, q2, q3, q4⟩ := hx'
   clear q1 q2 q3 q4
   have hbk := World.block_lt_of_cell? _ _ h0
   simp only at hbk
   unfold Nd.cells at hcall
   dsimp only at h0 h1 h2 h3 h4 h5 h6 h7 h8 hcall
   have HR := Lib.hid (And.intro hr hcall)
   clear hcall hr hx
   go_wp2_with fail
   refine (HR.out.2 _ HC.out).mono ?_
   rintro e w1 ⟨rfl, hc1⟩
   have H1 := Lib.hid hc1
   clear hc1
   cases hp : p ⟨xk, x0, x1, x2, x3, xs, xr, xl, xkids⟩
   ·go_wp2
    go_roundg (n - (k + 1))
    case measure => omega
    case rel =>
     refine ⟨k + 1, rfl, by omega, by go_num, HC.out.tr H1.out, Lib.hid fun j h hj => ?_⟩
     by_cases e : j = k
     ·subst e; rw [← HR.out.1]; exact hp
     ·exact hb.out j h (by omega)
   ·go_wp2
    go_ret
    refine ⟨ret_int ?_, HC.out.tr H1.out⟩
    have hk' : k < ns.length := by have := H.out.1; omega
    have hf := findIdx_at hk' (by rw [← HR.out.1]; exact hp) (fun j hj => hb.out j (by omega) hj)
    unfold idxI
    rw [hf, if_pos hk']
  ·obtain rfl : k = n := by omega
   go_wp2
   go_ret
   refine ⟨ret_int ?_, HC.out⟩
   have hf := findIdx_none (p := p) (l := ns) (fun j hj => hb.out j hj (by have := H.out.1; omega))
   unfold idxI
   rw [hf, if_neg (by omega)]
end Go.Proofs.YtlklmpjakeedcaaGreatDoor
set_option linter.unusedVariables false
set_option linter.unusedSimpArgs false
namespace Go.Proofs.YtlklmpjakeedcaaGreatDoor
open Go.RowKit Go.MapKept Go.Shelf

set_option maxRecDepth 100000 in
set_option maxHeartbeats 400000 in
theorem rule1_any (w : World) (nm : ByteArray) (bd : Int) (B : Nat) (s : ByteArray) (hc : w.cell? ⟨B, 0, none⟩ = some (.string s)) :
  Calls Tryz.prog 101 #[.agg #[.string nm, .int .i64 bd], .pointer (some ⟨B, 0, none⟩)] w fun e w' => e = .returned (.bool (nm.toList == s.toList)) ∧ Chg [] w w' := by
 have hB := World.block_lt_of_cell? _ _ hc
 simp only at hB
 go_enter Tryz.func101, Tryz.ntmps101
 go_wp2
 go_ret
 exact ⟨rfl, (Chg.refl _ _).alloc _⟩

theorem ruleI_idx (rs : List Rl) (s : ByteArray) : ruleI rs s = idxI rs fun r => r.name.toList == s.toList := rfl

set_option maxRecDepth 100000 in
set_option maxHeartbeats 400000 in
theorem Rule_any (w : World) (a1 : Option Addr) (n1 c1 : Nat) (a2 : Option Addr) (n2 c2 : Nat) (rs : List Rl) (s : ByteArray) (hn : n1 = rs.length) (hs : n1 ≤ 9223372036854775807) (hr : Rules w a1 rs) :
  Calls Tryz.prog 70 #[.agg #[.slice a1 n1 c1, .slice a2 n2 c2], .string s] w fun e w' => e = .returned (.int .i64 (ruleI rs s)) ∧ Chg [] w w' := by
 have H := Lib.hid (And.intro hn hr)
 clear hn hr
 go_enter Tryz.func70, Tryz.ntmps70
 go_wp2_with fail
 have hb := heap_alloc_same (w.alloc (.cells #[.slice a1 n1 c1, .slice a2 n2 c2] 31)) (.cells #[.string s] 9)
 have hc0 : Chg [] w ((w.alloc (.cells #[.slice a1 n1 c1, .slice a2 n2 c2] 31)).alloc (.cells #[.string s] 9)) := ((Chg.refl _ _).alloc _).alloc _
 rw [World.size_alloc] at hb
 have hbc := (cell_of_cells hb 0).trans (show _ = some (Value.string s) from rfl)
 have HB := Lib.hid (And.intro hbc hc0)
 clear hb hbc hc0
 refine (idxRules_any _ a1 n1 c1 rs 101 #[.pointer (some ⟨w.heap.size + 1, 0, none⟩)] (fun r => r.name.toList == s.toList) H.out.1 hs (H.out.2.keep HB.out.2.kp) (fun i hi w1 h1 => rule1_any w1 _ _ _ s (h1.cell HB.out.1 (by simp))) (enters_of Tryz.func101 (by kernel_rfl) rfl)).mono ?_
 rintro e w1 ⟨rfl, hc1⟩
 have H1 := Lib.hid hc1
 clear hc1
 go_wp2
 go_ret
 exact ⟨rfl, HB.out.2.tr H1.out⟩

set_option maxRecDepth 100000 in
set_option maxHeartbeats 1000000 in
theorem refRule_any (w : World) (a1 : Option Addr) (n1 c1 : Nat) (a2 : Option Addr) (n2 c2 : Nat) (rs : List Rl) (s : ByteArray) (hn : n1 = rs.length) (hs : n1 ≤ 9223372036854775807) (hr : Rules w a1 rs) :
  Calls Tryz.prog 162 #[.agg #[.slice a1 n1 c1, .slice a2 n2 c2], .string s] w fun e w' => e = .returned (.int .i64 (ruleI rs s)) ∧ Chg [] w w' := by
 have H := Lib.hid (And.intro hn hr)
 clear hn hr
 go_enter Tryz.func162, Tryz.ntmps162
 go_wp2_with fail
 go_loop [5] (fun iv => ∃ k : Nat, k ≤ n1 ∧ iv = .int .i64 k ∧ Hid (∀ j (h : j < rs.length), j < k → (rs[j].name.toList == s.toList) = false)) (fun iv => n1 - (intOf iv).toNat)
 case atStart => exact ⟨0, Nat.zero_le _, rfl, Lib.hid (fun j _ h => by omega)⟩
 case round =>
  obtain ⟨k, hk, rfl, hb⟩ := hrel
  by_cases hlt : k < n1
  ·have hk' : k < rs.length := by have := H.out.1; omega
   obtain ⟨b, o, rfl, h1, h2⟩ := H.out.2 k hk'
   have hbk := World.block_lt_of_cell? _ _ h1
   simp only at hbk
   obtain ⟨nm, hr⟩ : ∃ r, r = rs[k].name := ⟨_, rfl⟩
   rw [← hr] at h1
   have HR := Lib.hid hr
   clear hr h2
   cases hp : (nm.toList == s.toList)
   ·go_wp2
    go_round
    case measure => simp [intOf]; omega
    case rel =>
     refine ⟨k + 1, by omega, by go_num, Lib.hid fun j h hj => ?_⟩
     by_cases e : j = k
     ·subst e; rw [← HR.out]; exact hp
     ·exact hb.out j h (by omega)
   ·go_wp2
    go_ret
    refine ⟨ret_int ?_, (Chg.refl _ _).alloc _⟩
    have hf := findIdx_at (p := fun r : Rl => r.name.toList == s.toList) hk' (by show (rs[k].name.toList == _) = true; rw [← HR.out]; exact hp) (fun j hj => hb.out j (by omega) hj)
    rw [ruleI_idx]
    unfold idxI
    rw [hf, if_pos hk']
  ·obtain rfl : k = n1 := by omega
   go_wp2
   go_ret
   refine ⟨ret_int ?_, (Chg.refl _ _).alloc _⟩
   have hf := findIdx_none (p := fun r : Rl => r.name.toList == s.toList) (l := rs) (fun j hj => hb.out j hj (by have := H.out.1; omega))
   rw [ruleI_idx]
   unfold idxI
   rw [hf, if_neg (by omega)]

end Go.Proofs.YtlklmpjakeedcaaGreatDoor

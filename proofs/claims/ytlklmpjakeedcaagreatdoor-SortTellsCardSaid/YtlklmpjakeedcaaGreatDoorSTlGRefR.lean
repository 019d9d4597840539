/-
  slices.Clone of numbers and of rules: the same in memory of its own.
  Conditions: the lists read as data; they are within the reach.
-/
import Derived.Test.YtlklmpjakeedcaaGreatDoorSTlGCopy
import Derived.Lib.SliceRun
import Derived.Maps.AppendAt
import Derived.Test.YtlklmpjakeedcaaGreatDoorSTlGMix
import Derived.Shelf.Abstract
import Derived.Shelf.RegionOpen
import Derived.WalkKit
import Derived.OwnWalkIn
import Derived.TacticsInMore
import Derived.LoopNIn
import Derived.LoopIn
import Derived.Sort.LoopGhostIn
set_option linter.unusedVariables false
set_option linter.unusedSimpArgs false
namespace Go.Proofs.YtlklmpjakeedcaaGreatDoor
open Go.RowKit Go.MapKept Go.Shelf

/-- A row of one's own, beyond B, that holds numbers. -/
def FreshInts (B : Nat) (w : World) (a : Option Addr) (c : Nat) (zs : List Int) : Prop := w.ownsRow B 3 1 (.slice a zs.length c) zs.length (zs.map (Value.int .i64))
def FreshRules (B : Nat) (w : World) (a : Option Addr) (c : Nat) (rs : List Rl) : Prop := w.ownsRow B 53 2 (.slice a rs.length c) rs.length (rulesCells rs)
theorem row_base {W : World} {base base' : Nat} {e : TypeId} {size : Nat} {v : Value} {k : Nat} {xs : List Value} (h : W.ownsRow base e size v k xs) (hb : base' ≤ base) : W.ownsRow base' e size v k xs := by
  refine ⟨h.1, ?_⟩
  rcases h.2 with hn | ⟨g, cap, cur, hv, hbg, rest⟩
  · exact .inl hn
  · exact .inr ⟨g, cap, cur, hv, Nat.le_trans hb hbg, rest⟩
theorem FreshInts.own {B : Nat} {w : World} {a : Option Addr} {c : Nat} {zs : List Int} (h : FreshInts B w a c zs) : OwnInts w (.slice a zs.length c) zs := row_base h (Nat.zero_le _)
theorem row_beyond {W : World} {B : Nat} {e : TypeId} {size : Nat} {v : Value} {k : Nat} {xs : List Value} (h : W.ownsRow B e size v k xs) {j : Nat} (hj : v.ownBlock = some j) : B ≤ j ∧ j < W.heap.size ∧ ∃ cur, W.heap[j]? = some (.cells cur e (0, 0)) := by
  rcases h.2 with ⟨h0, h1⟩ | ⟨g, cap, cur, h0, hb, hg, _⟩
  · subst h0; cases hj
  · subst h0; cases hj; exact ⟨hb, (Array.getElem?_eq_some_iff.1 hg).1, cur, hg⟩
def ClonedInts (w : World) (zs : List Int) (e : Ending) (w' : World) : Prop := ∃ a c, e = .returned (.slice a zs.length c) ∧ FreshInts w.heap.size w' a c zs ∧ Chg [] w w'
def ClonedRules (w : World) (rs : List Rl) (e : Ending) (w' : World) : Prop := ∃ a c, e = .returned (.slice a rs.length c) ∧ FreshRules w.heap.size w' a c rs ∧ Chg [] w w'

end Go.Proofs.YtlklmpjakeedcaaGreatDoor
set_option linter.unusedVariables false
set_option linter.unusedSimpArgs false
namespace Go.Proofs.YtlklmpjakeedcaaGreatDoor
open Go.RowKit Go.MapKept Go.Shelf
attribute [local go_sem] Oper.semAt_some

/-- What lay below n₀, and in block Bl, lies as it lay. -/
structure Keeps (n₀ Bl : Nat) (A B : World) : Prop where
  size : A.heap.size ≤ B.heap.size
  old : ∀ k o, k < n₀ ∨ k = Bl → A.heap[k]? = some o → B.heap[k]? = some o
theorem Keeps.refl (n₀ Bl : Nat) (A : World) : Keeps n₀ Bl A A := ⟨Nat.le_refl _, fun _ _ _ h => h⟩
theorem Keeps.trans {n₀ Bl : Nat} {A B C : World} (h : Keeps n₀ Bl A B) (k : Keeps n₀ Bl B C) : Keeps n₀ Bl A C := ⟨Nat.le_trans h.size k.size, fun j o hj ho => k.old j o hj (h.old j o hj ho)⟩
theorem Keeps.of_chg {n₀ Bl : Nat} {S : List Nat} {A B : World} (h : Chg S A B) (hS : ∀ k ∈ S, n₀ ≤ k ∧ k ≠ Bl) : Keeps n₀ Bl A B :=
  ⟨h.size, fun k o hk ho => h.heap ho (fun hm => by have := hS k hm; rcases hk with h | h <;> omega)⟩
theorem Keeps.of_turn {n₀ Bl B' : Nat} {A B : World} (h : Turn B' A B) (hn : n₀ ≤ B') (hB : Bl < B') : Keeps n₀ Bl A B := by
  obtain ⟨l, hl, hc⟩ := h.chg
  exact .of_chg hc (fun k hk => by simp only [List.mem_singleton] at hk; omega)
theorem Keeps.cell {n₀ Bl : Nat} {A B : World} (h : Keeps n₀ Bl A B) {p : Addr} {v : Value} (hc : A.cell? p = some v) (hp : p.block < n₀ ∨ p.block = Bl) : B.cell? p = some v := by
  obtain ⟨o, ho, _⟩ := cells_of_cell hc
  exact (World.cell?_of_block ((h.old _ _ hp ho).trans ho.symm)).trans hc
def Cp.own (p : Cp) : Option Nat := (Value.slice p.2.1 p.1.kids.length p.2.2).ownBlock
/-- What a round is told of the node that it is handed. -/
def CopyX (n₀ : Nat) (ns : List Nd) (pre : List Cp) (p : Cp) (W : World) : Prop :=
  (pre.length < ns.length ∧ ns[pre.length]? = some p.1) ∧ FreshInts n₀ W p.2.1 p.2.2 p.1.kids ∧ (∀ q ∈ pre, ∀ i j, q.own = some i → p.own = some j → i < j)
def encCp (p : Cp) : Array Value := #[.agg (p.1.cells p.2.1 p.1.kids.length p.2.2)]

end Go.Proofs.YtlklmpjakeedcaaGreatDoor
set_option linter.unusedVariables false
set_option linter.unusedSimpArgs false
namespace Go.Proofs.YtlklmpjakeedcaaGreatDoor
open Go.RowKit Go.MapKept Go.Shelf

theorem chain_next {g : Gr} {t : List (Nat × Nat)} {k x e : Nat} (hk : k < g.rules.length) (h : chainT g t (g.rules.drop k) k x = some e) :
    ruleI g.rules g.rules[k].name = (k : Int) ∧ g.rules[k].body = (x : Int) ∧ ∃ z h, t[x]? = some (z, h) ∧ h ≤ 16 ∧ chainT g t (g.rules.drop (k + 1)) (k + 1) (x + z) = some e := by
  rw [chainT_at hk] at h
  split at h
  · rename_i hc
    simp only [Bool.and_eq_true, decide_eq_true_eq] at hc
    split at h
    · cases h
    · rename_i z hh hz
      split at h
      · rename_i hle
        exact ⟨hc.1.2, hc.2, z, hh, hz, hle, h⟩
      · cases h
  · cases h
theorem whole_chain {g : Gr} {t : List (Nat × Nat)} (ht : wholeT g = some t) : chainT g t g.rules 0 0 = some g.nodes.length := by
  unfold wholeT at ht
  split at ht
  · split at ht
    · cases ht
    · rename_i t' ht'
      split at ht
      · rename_i hc
        simp only [Option.some.injEq] at ht
        subst ht
        simpa using hc
      · cases ht
  · cases ht
theorem chain_le {g : Gr} {t : List (Nat × Nat)} (ht : tab g.nodes = some t) {x z h : Nat} (hz : t[x]? = some (z, h)) : x < g.nodes.length ∧ 1 ≤ z ∧ x + z ≤ g.nodes.length := by
  have hxl : x < g.nodes.length := by
    have h3 := (List.getElem?_eq_some_iff.1 hz).1
    have := (tab_ok ht).1
    omega
  obtain ⟨z', h', hz', h1, hle, _⟩ := tabOk_le (tab_ok ht) (Nat.zero_le x) hxl
  rw [Nat.sub_zero, hz] at hz'
  cases hz'
  exact ⟨hxl, h1, hle⟩

end Go.Proofs.YtlklmpjakeedcaaGreatDoor
set_option linter.unusedVariables false
set_option linter.unusedSimpArgs false
namespace Go.Proofs.YtlklmpjakeedcaaGreatDoor
open Go.RowKit Go.MapKept Go.Shelf

abbrev Wk := Int × Cp
def encWk (x : Wk) : Array Value := #[.int .i64 x.1, .agg (x.2.1.cells x.2.2.1 x.2.1.kids.length x.2.2.2)]
/-- What a round is told. -/
def WalkX (n₀ N z : Nat) (ns : List Nd) (pre : List Wk) (x : Wk) (W : World) : Prop :=
  (pre.length < z ∧ x.1 = (N : Int) + pre.length ∧ ns[N + pre.length]? = some x.2.1) ∧ FreshInts n₀ W x.2.2.1 x.2.2.2 x.2.1.kids
theorem WalkX.stays (B n₀ N z : Nat) (ns : List Nd) (pre : List Wk) (x : Wk) : Stays B (WalkX n₀ N z ns pre x) := (Stays.pure _).and (Stays.row B _ _ _ _ _ _)

section
attribute [local go_sem] Oper.semAt_some
end

end Go.Proofs.YtlklmpjakeedcaaGreatDoor
set_option linter.unusedVariables false
set_option linter.unusedSimpArgs false
namespace Go.Proofs.YtlklmpjakeedcaaGreatDoor
open Go.RowKit Go.MapKept Go.Shelf

/-- Rules, nodes and each node's kids in rows of their own, all beyond B. -/
structure OwnG (B : Nat) (w : World) (b1 : Option Addr) (d1 : Nat) (b2 : Option Addr) (d2 : Nat) (L : List Cp) (rs : List Rl) : Prop where
  rules : FreshRules B w b1 d1 rs
  nodes : w.ownsRow B 65 9 (.slice b2 L.length d2) L.length (nodesCells L)
  kids : ∀ p ∈ L, FreshInts B w p.2.1 p.2.2 p.1.kids
  apart : L.Pairwise fun q p => ∀ i j, q.own = some i → p.own = some j → i < j
theorem OwnG.gram {B : Nat} {w : World} {b1 : Option Addr} {d1 : Nat} {b2 : Option Addr} {d2 : Nat} {L : List Cp} {rs : List Rl} (h : OwnG B w b1 d1 b2 d2 L rs) (wf : Gr.Wf ⟨rs, L.map (·.1)⟩) : GramAt w b1 rs.length d1 b2 L.length d2 ⟨rs, L.map (·.1)⟩ := by
  obtain ⟨k1, k2, k3, k4⟩ := rules_row (row_base h.rules (Nat.zero_le _))
  obtain ⟨m1, m2, m3, m4⟩ := nodes_row (row_base h.nodes (Nat.zero_le _)) (fun p hp => (h.kids p hp).own)
  exact ⟨rfl, k3, k4, k1, by simp, m3, m4, m1, wf⟩
/-- What is no row of it is changed. -/
theorem OwnG.chg {B : Nat} {w w' : World} {S : List Nat} {b1 : Option Addr} {d1 : Nat} {b2 : Option Addr} {d2 : Nat} {L : List Cp} {rs : List Rl} (h : OwnG B w b1 d1 b2 d2 L rs) (hc : Chg S w w')
    (hS : ∀ k ∈ S, NotRow w 53 k ∧ NotRow w 65 k ∧ NotRow w 3 k) : OwnG B w' b1 d1 b2 d2 L rs :=
  ⟨hc.rowOf h.rules (fun k hk => (hS k hk).1), hc.rowOf h.nodes (fun k hk => (hS k hk).2.1), fun p hp => hc.rowOf (h.kids p hp) (fun k hk => (hS k hk).2.2), h.apart⟩
theorem OwnG.chg0 {B : Nat} {w w' : World} {b1 : Option Addr} {d1 : Nat} {b2 : Option Addr} {d2 : Nat} {L : List Cp} {rs : List Rl} (h : OwnG B w b1 d1 b2 d2 L rs) (hc : Chg [] w w') : OwnG B w' b1 d1 b2 d2 L rs := h.chg hc (by simp)
theorem OwnG.stays (B0 B : Nat) (b1 : Option Addr) (d1 : Nat) (b2 : Option Addr) (d2 : Nat) (L : List Cp) (rs : List Rl) : Stays B0 fun W => OwnG B W b1 d1 b2 d2 L rs :=
  ⟨fun h hc => h.chg0 hc, fun h ht => ⟨(Stays.row B0 _ _ _ _ _ _).turn h.rules ht, (Stays.row B0 _ _ _ _ _ _).turn h.nodes ht, fun p hp => (Stays.row B0 _ _ _ _ _ _).turn (h.kids p hp) ht, h.apart⟩⟩
/-- It lies apart from what lay below B. -/
theorem OwnG.below {B B' : Nat} {w : World} {b1 : Option Addr} {d1 : Nat} {b2 : Option Addr} {d2 : Nat} {L : List Cp} {rs : List Rl} (h : OwnG B w b1 d1 b2 d2 L rs) (hB : B' ≤ B) : OwnG B' w b1 d1 b2 d2 L rs :=
  ⟨row_base h.rules hB, row_base h.nodes hB, fun p hp => row_base (h.kids p hp) hB, h.apart⟩
/-- The node's row, behind a node more. -/
theorem OwnG.snoc {B : Nat} {w w1 : World} {b1 : Option Addr} {d1 : Nat} {b2 b2' : Option Addr} {d2 d2' : Nat} {L : List Cp} {rs : List Rl} {p : Cp} (h : OwnG B w b1 d1 b2 d2 L rs) (hp : FreshInts B w p.2.1 p.2.2 p.1.kids) (ha : ∀ q ∈ L, ∀ i j, q.own = some i → p.own = some j → i < j)
    (hr : w1.ownsRow B 65 9 (.slice b2' (L.length + 1) d2') (L.length + 1) (nodesCells L ++ p.cells)) (hg : w.grownBy w1 (Value.slice b2 L.length d2).ownBlock) : OwnG B w1 b1 d1 b2' d2' (L ++ [p]) rs := by
  have hc : Chg (Value.slice b2 L.length d2).ownBlock.toList w w1 := (Chg.refl _ w).grown hg (fun k hk => .inl (by rw [hk]; simp))
  have hS : ∀ e, 65 ≠ e → ∀ k ∈ (Value.slice b2 L.length d2).ownBlock.toList, NotRow w e k := by
    intro e he k hk
    simp only [Option.mem_toList] at hk
    exact row_notrow h.nodes hk he
  refine ⟨hc.rowOf h.rules (hS _ (by decide)), ?_, ?_, ?_⟩
  · have : nodesCells (L ++ [p]) = nodesCells L ++ p.cells := by rw [nodesCells, nodesCells, List.flatMap_append, List.flatMap_singleton]
    rw [this, List.length_append]; exact hr
  · intro q hq
    rcases List.mem_append.1 hq with hq | hq
    · exact hc.rowOf (h.kids q hq) (hS _ (by decide))
    · simp only [List.mem_singleton] at hq
      subst hq
      exact hc.rowOf hp (hS _ (by decide))
  · rw [List.pairwise_append]
    exact ⟨h.apart, List.pairwise_singleton _ _, fun q hq r hr => by simp only [List.mem_singleton] at hr; subst hr; exact ha q hq⟩
theorem keepsFrom_of_chg {B : Nat} {S : List Nat} {A A' : World} (h : Chg S A A') (hS : ∀ k ∈ S, k < B ∨ ∃ cur t m, A.heap[k]? = some (.cells cur t m)) : KeepsFrom B A A' :=
  ⟨h.size, fun k o hB hk ho => h.heap hk (fun hm => by
    rcases hS k hm with h1 | ⟨cur, t, m, h1⟩
    · omega
    · rw [hk] at h1; cases h1; cases ho)⟩
end Go.Proofs.YtlklmpjakeedcaaGreatDoor
set_option linter.unusedVariables false
set_option linter.unusedSimpArgs false
namespace Go.Proofs.YtlklmpjakeedcaaGreatDoor
open Go.RowKit Go.MapKept Go.Shelf
attribute [local go_sem] Oper.semAt_some

/-- A grammar of one's own, new. -/
def DupG (w : World) (g : Gr) (e : Ending) (w' : World) : Prop :=
  ∃ b1 d1 b2 d2 L, e = .returned (.agg #[.slice b1 g.rules.length d1, .slice b2 g.nodes.length d2]) ∧ L.map (·.1) = g.nodes ∧ OwnG w.heap.size w' b1 d1 b2 d2 L g.rules ∧ Chg [] w w'

/-- Between two rounds. -/
structure DupI (w : World) (Br Bo Bl : Nat) (vl : Value) (b1 : Option Addr) (d1 : Nat) (g : Gr) (pre : List Cp) (W : World) : Prop where
  own : ∃ a2 c2, W.heap[Bo]? = some (.cells #[.slice b1 g.rules.length d1, .slice a2 pre.length c2] 31 (0, 0)) ∧ OwnG w.heap.size W b1 d1 a2 c2 pre g.rules
  at_ : pre.map (·.1) = g.nodes.take pre.length
  len : pre.length ≤ g.nodes.length
  res : W.heap[Br]? = some (.cells #[.slice none 0 0, .slice none 0 0] 31 (0, 0))
  lst : W.heap[Bl]? = some (.cells #[vl] 29 (0, 0))
  chg : Chg [] w W
theorem DupI.stays {w : World} {Br Bo Bl : Nat} {vl : Value} {b1 : Option Addr} {d1 : Nat} {g : Gr} {pre : List Cp} {B : Nat} (hB : w.heap.size ≤ B) : Stays B (DupI w Br Bo Bl vl b1 d1 g pre) := by
  refine ⟨fun h hc => ?_, fun h ht => ?_⟩
  · obtain ⟨⟨a2, c2, h1, h2⟩, h3, h4, h5, h7, h6⟩ := h
    exact ⟨⟨a2, c2, hc.heap h1 (by simp), h2.chg0 hc⟩, h3, h4, hc.heap h5 (by simp), hc.heap h7 (by simp), h6.tr0 hc⟩
  · obtain ⟨⟨a2, c2, h1, h2⟩, h3, h4, h5, h7, h6⟩ := h
    exact ⟨⟨a2, c2, ht.heap h1 rfl, (OwnG.stays B _ _ _ _ _ _ _).turn h2 ht⟩, h3, h4, ht.heap h5 rfl, ht.heap h7 rfl, (Stays.since B [] w hB).turn h6 ht⟩
theorem CopyX.stays (B n₀ : Nat) (ns : List Nd) (pre : List Cp) (p : Cp) : Stays B (CopyX n₀ ns pre p) :=
  (Stays.pure _).and ((Stays.row B _ _ _ _ _ _).and (Stays.pure _))

end Go.Proofs.YtlklmpjakeedcaaGreatDoor
set_option linter.unusedVariables false
set_option linter.unusedSimpArgs false
namespace Go.Proofs.YtlklmpjakeedcaaGreatDoor
open Go.RowKit Go.MapKept Go.Shelf

theorem chain_at {g : Gr} {k x : Nat} (hk : k < g.rules.length) : chain g (g.rules.drop k) k x = if nameB g.rules[k].name && decide (ruleI g.rules g.rules[k].name = (k : Int)) && decide (g.rules[k].body = (x : Int)) then
      (match aft g.nodes 16 x with | none => none | some (to, _) => chain g (g.rules.drop (k + 1)) (k + 1) to) else none := by
  rw [List.drop_eq_getElem_cons hk]
  rfl
theorem right_of {g : Gr} (hs : sizesB g = true) (ha : allB g = true) {o : Option Nat} (hc : chain g g.rules 0 0 = o) : rightB g = (o == some g.nodes.length) := by
  unfold rightB
  rw [hs, ha, hc]
  simp

set_option maxRecDepth 100000 in
set_option maxHeartbeats 8000000 in
theorem refRight_any (w : World) (a1 : Option Addr) (n1 c1 : Nat) (a2 : Option Addr) (n2 c2 : Nat) (g : Gr) (hg : GramAt w a1 n1 c1 a2 n2 c2 g) :
    Calls Tryz.prog 114 #[.agg #[.slice a1 n1 c1, .slice a2 n2 c2]] w fun e w' => e = .returned (.bool (rightB g)) ∧ Chg [] w w' := by
  obtain ⟨hs1, hs2⟩ := hg.small
  have HG := Lib.hid hg
  by_cases hsz : 1 ≤ n1 ∧ n1 ≤ 32 ∧ n2 ≤ 2048
  · obtain ⟨z1, z2, z3⟩ := hsz
    have HS : Hid (sizesB g = true) := Lib.hid (by unfold sizesB; rw [← hg.e1, ← hg.e2]; simp [z1, z2, z3])
    clear hg
    have k0 : decide ((n1 : Int) < 1) = false := by simp; omega
    have k1 : decide (32 < (n1 : Int)) = false := by simp; omega
    have k2 : decide (2048 < (n2 : Int)) = false := by simp; omega
    obtain ⟨R, hR⟩ : ∃ R, R = rightB g := ⟨_, rfl⟩
    rw [← hR]
    have HR := Lib.hid hR
    clear hR
    go_enter Tryz.func114, Tryz.ntmps114
    go_wp2_with fail
    have HB := Lib.hid (GrBox.new w a1 n1 c1 a2 n2 c2)
    go_loopg [3] n2 (fun d iv wr => ∃ i : Nat, d = n2 - i ∧ i ≤ n2 ∧ iv = .int .i64 i ∧ Hid (GrBox w w.heap.size a1 n1 c1 a2 n2 c2 wr ∧ ∀ j (hj : j < g.nodes.length), j < i → nodeB g.nodes[j] (n1 : Int) = true))
    case atStart => exact ⟨0, rfl, Nat.zero_le _, rfl, Lib.hid ⟨HB.out, fun j _ h => by omega⟩⟩
    case round =>
      obtain ⟨i, rfl, hi, rfl, HI⟩ := hrel
      obtain ⟨wq, rfl⟩ : ∃ wq : World, wq = wr := ⟨_, rfl⟩
      obtain ⟨x0, x1⟩ := cells2 HI.out.1.box
      have hl := lt_of_block HI.out.1.box
      by_cases hlt : i < n2
      · have hil : i < g.nodes.length := by have := HG.out.e2; omega
        obtain ⟨b, o, ak, nk, ck, rfl, hx2⟩ := (HG.out.nodes.keep HI.out.1.ch.kp) i hil
        have hnb : nodeB g.nodes[i] (n1 : Int) = true ∨ nodeB g.nodes[i] (n1 : Int) = false := by cases nodeB g.nodes[i] (n1 : Int) <;> simp
        have hnext : nodeB g.nodes[i] (n1 : Int) = true → ∀ j (hj : j < g.nodes.length), j < i + 1 → nodeB g.nodes[j] (n1 : Int) = true := by
          intro h j hj hji
          by_cases e : j = i
          · subst e; exact h
          · exact HI.out.2 j hj (by omega)
        have hbad : nodeB g.nodes[i] (n1 : Int) = false → R = false := by
          intro h
          have : allB g = false := by
            unfold allB
            rw [List.all_eq_false]
            exact ⟨_, List.getElem_mem hil, by rw [← HG.out.e1, h]; simp⟩
          rw [HR.out]
          unfold rightB
          rw [this]
          simp
        have HN := Lib.hid (And.intro hnext hbad)
        clear hnext hbad
        obtain ⟨bn, hbn⟩ : ∃ bn, bn = nodeB g.nodes[i] (n1 : Int) := ⟨_, rfl⟩
        have HBN := Lib.hid hbn
        rw [← hbn] at hnb
        obtain ⟨xn, hxn⟩ : ∃ xn, xn = g.nodes[i] := ⟨_, rfl⟩
        rw [← hxn] at hx2 hbn
        clear hxn
        obtain ⟨xk, xc0, xc1, xc2, xc3, xs, xr, xl, xkids⟩ := xn
        obtain ⟨v0, v1, v2, v3, v4, v5, v6, v7, v8, l1, l2, l3, l4⟩ := hx2
        have hb8 := World.block_lt_of_cell? _ _ v8
        simp only at hb8
        unfold nodeB at hbn
        dsimp only at v0 v1 v2 v3 v4 v5 v6 v7 v8 l1 hbn
        rw [← l1] at hbn
        clear l1 l2 l3 l4
        have cN := calls_rg (w := wq) (fun w1 h1 => refNode_any w1 xk xc0 xc1 xc2 xc3 xr xl n1 xs ak nk ck)
        rw [← hbn] at cN
        clear hbn
        have kx0 := cell_rg x0
        have kx1 := cell_rg x1
        have kv0 := cell_rg v0
        have kv1 := cell_rg v1
        have kv2 := cell_rg v2
        have kv3 := cell_rg v3
        have kv4 := cell_rg v4
        have kv5 := cell_rg v5
        have kv6 := cell_rg v6
        have kv7 := cell_rg v7
        have kv8 := cell_rg v8
        have qn0 : (0 : Int) ≤ (i : Int) := by omega
        have qn1 : (i : Int) < (n2 : Int) := by omega
        go_wp2_with fail
        refine wp_region_quiet_below (by kernel_rfl) (by kernel_rfl) ?_
        repeat (go_big_quiet_step (with_reducible exact cN _ _))
        refine wpQuiet_nil ?_
        intro w4 hw4
        have HR4 := Lib.hid (HI.out.1.keep (chg_of_rg hw4))
        clear hw4 kx0 kx1 kv0 kv1 kv2 kv3 kv4 kv5 kv6 kv7 kv8 cN x0 x1 hl v0 v1 v2 v3 v4 v5 v6 v7 v8
        rcases hnb with hb | hb
        · subst hb
          have hn := HN.out.1 HBN.out.symm
          have HN2 := Lib.hid hn
          clear hn
          go_wp2
          go_roundg (n2 - (i + 1))
          case measure => omega
          case rel => exact ⟨i + 1, rfl, by omega, by go_num, Lib.hid ⟨HR4.out, HN2.out⟩⟩
        · subst hb
          have hn := HN.out.2 HBN.out.symm
          subst hn
          go_wp2
          go_ret
          exact ⟨rfl, HR4.out.ch⟩
      · obtain rfl : i = n2 := by omega
        have hall : allB g = true := by
          unfold allB
          rw [List.all_eq_true]
          intro x hx
          obtain ⟨j, hj, rfl⟩ := List.mem_iff_getElem.1 hx
          rw [← HG.out.e1]
          exact HI.out.2 j hj (by have := HG.out.e2; omega)
        have HA := Lib.hid hall
        clear hall
        go_wp2_with fail
        go_loopg [5, 4] n1 (fun d kv xv wr => ∃ k x : Nat, d = n1 - k ∧ k ≤ n1 ∧ kv = .int .i64 k ∧ xv = .int .i64 x ∧ x ≤ i ∧ Hid (GrBox w w.heap.size a1 n1 c1 a2 i c2 wr ∧ chain g g.rules 0 0 = chain g (g.rules.drop k) k x))
        case atStart => exact ⟨0, 0, rfl, Nat.zero_le _, rfl, rfl, Nat.zero_le _, Lib.hid ⟨HI.out.1, by simp⟩⟩
        case round =>
          obtain ⟨k, x, rfl, hk, rfl, rfl, hx, HK⟩ := hrel
          obtain ⟨wp, rfl⟩ : ∃ wp : World, wp = wr := ⟨_, rfl⟩
          clear x0 x1 hl
          obtain ⟨x0, x1⟩ := cells2 HK.out.1.box
          have hl := lt_of_block HK.out.1.box
          by_cases hlt : k < n1
          · have hkl : k < g.rules.length := by have := HG.out.e1; omega
            obtain ⟨b, o, rfl, r0, r1⟩ := (HG.out.rules.keep HK.out.1.ch.kp) k hkl
            have hbr := World.block_lt_of_cell? _ _ r0
            simp only at hbr
            have hnm := HG.out.wf.names _ (List.getElem_mem hkl)
            have hch := (chain_at (g := g) (x := x) hkl)
            obtain ⟨r, hr⟩ : ∃ r, r = g.rules[k] := ⟨_, rfl⟩
            rw [← hr] at r0 r1 hnm hch
            clear hr
            obtain ⟨nm, bd⟩ := r
            dsimp only at r0 r1 hnm hch
            have HC := Lib.hid hch
            clear hch
            have hfail : chain g (g.rules.drop k) k x = none → R = false := by
              intro h
              rw [HR.out, right_of HS.out HA.out (HK.out.2.trans h)]
              rfl
            have HF := Lib.hid hfail
            clear hfail
            have cN := calls_rg (w := wp) (fun w1 h1 => refName_any nm w1 hnm)
            have cR := calls_rg (w := wp) (fun w1 h1 => refRule_any w1 _ n1 c1 a2 i c2 g.rules nm HG.out.e1 hs1 (HG.out.rules.keep (HK.out.1.ch.tr h1).kp))
            obtain ⟨A, hA⟩ : ∃ A, A = nameB nm := ⟨_, rfl⟩
            obtain ⟨I, hI⟩ : ∃ I, I = ruleI g.rules nm := ⟨_, rfl⟩
            rw [← hA] at cN
            rw [← hI] at cR
            have HAI := Lib.hid (And.intro hA hI)
            clear hA hI hnm
            have kx0 := cell_rg x0
            have kx1 := cell_rg x1
            have kr0 := cell_rg r0
            have kr1 := cell_rg r1
            have qk0 : (0 : Int) ≤ (k : Int) := by omega
            have qk1 : (k : Int) < (n1 : Int) := by omega
            have hcs : A = false ∨ (A = true ∧ (I != (k : Int)) = true) ∨ (A = true ∧ (I != (k : Int)) = false ∧ (bd != (x : Int)) = true) ∨ (A = true ∧ (I != (k : Int)) = false ∧ (bd != (x : Int)) = false) := by
              cases A <;> simp; by_cases h1 : I = (k : Int) <;> by_cases h2 : bd = (x : Int) <;> simp [h1, h2]
            rcases hcs with rfl | ⟨rfl, q1⟩ | ⟨rfl, q1, q2⟩ | ⟨rfl, q1, q2⟩
            · have hRf := HF.out (by rw [HC.out, ← HAI.out.1]; simp)
              subst hRf
              go_wp2_with fail
              refine wp_region_quiet_below (by kernel_rfl) (by kernel_rfl) ?_
              repeat (go_big_quiet_step (first | (with_reducible exact cN _ _) | (with_reducible exact cR _ _)))
              refine wpQuiet_nil ?_
              intro w4 hw4
              have HR4 := Lib.hid (HK.out.1.keep (chg_of_rg hw4))
              clear hw4
              go_wp2
              go_ret
              exact ⟨rfl, HR4.out.ch⟩
            · have hRf := HF.out (by rw [HC.out, ← HAI.out.2]; simp at q1; simp [q1])
              subst hRf
              go_wp2_with fail
              refine wp_region_quiet_below (by kernel_rfl) (by kernel_rfl) ?_
              repeat (go_big_quiet_step (first | (with_reducible exact cN _ _) | (with_reducible exact cR _ _)))
              refine wpQuiet_nil ?_
              intro w4 hw4
              have HR4 := Lib.hid (HK.out.1.keep (chg_of_rg hw4))
              clear hw4
              go_wp2
              go_ret
              exact ⟨rfl, HR4.out.ch⟩
            · have hRf := HF.out (by rw [HC.out]; simp at q2; simp [q2])
              subst hRf
              go_wp2_with fail
              refine wp_region_quiet_below (by kernel_rfl) (by kernel_rfl) ?_
              repeat (go_big_quiet_step (first | (with_reducible exact cN _ _) | (with_reducible exact cR _ _)))
              refine wpQuiet_nil ?_
              intro w4 hw4
              have HR4 := Lib.hid (HK.out.1.keep (chg_of_rg hw4))
              clear hw4
              go_wp2
              go_ret
              exact ⟨rfl, HR4.out.ch⟩
            · go_wp2_with fail
              refine wp_region_quiet_below (by kernel_rfl) (by kernel_rfl) ?_
              repeat (go_big_quiet_step (first | (with_reducible exact cN _ _) | (with_reducible exact cR _ _)))
              refine wpQuiet_nil ?_
              intro w4 hw4
              have HR4 := Lib.hid (HK.out.1.keep (chg_of_rg hw4))
              have hch2 : chain g (g.rules.drop k) k x = (match aft g.nodes 16 x with | none => none | some (to, _) => chain g (g.rules.drop (k + 1)) (k + 1) to) := by
                have e1 : I = (k : Int) := by simpa using q1
                have e2 : bd = (x : Int) := by simpa using q2
                rw [HC.out, ← HAI.out.1, ← HAI.out.2, e1, e2]
                simp
              have HC2 := Lib.hid hch2
              clear hw4 kx0 kx1 kr0 kr1 cN cR x0 x1 hl r0 r1 hch2 q1 q2
              obtain ⟨x0, x1⟩ := cells2 HR4.out.box
              have hl := lt_of_block HR4.out.box
              go_wp2_with fail
              refine (after_any _ n1 c1 a2 i c2 g (by omega) 16 x _ (HG.out.keep HR4.out.ch.kp) (by decide) (by omega)).mono ?_
              rintro e w5 ⟨rfl, hc⟩
              have HR5 := Lib.hid (HR4.out.keep hc)
              clear hc x0 x1 hl
              cases hax : aft g.nodes 16 x with
              | none =>
                have hRf := HF.out (by rw [HC2.out, hax])
                subst hRf
                clear hax
                simp only [aftI]
                go_wp2_with fail
                go_ret
                exact ⟨rfl, HR5.out.ch⟩
              | some p =>
                obtain ⟨to, h⟩ := p
                have h1 := (aft_cover hax).1
                have hto : to ≤ i := by have := HG.out.e2; omega
                have hstep : chain g g.rules 0 0 = chain g (g.rules.drop (k + 1)) (k + 1) to := by rw [HK.out.2, HC2.out, hax]
                have HS2 := Lib.hid hstep
                clear hax hstep
                simp only [aftI]
                go_wp2_with fail
                go_roundg (n1 - (k + 1))
                case measure => omega
                case rel => exact ⟨k + 1, to, rfl, by omega, by go_num, rfl, hto, Lib.hid ⟨HR5.out, HS2.out⟩⟩
          · obtain rfl : k = n1 := by omega
            have hRv : R = ((x : Int) == (i : Int)) := by
              have hc : chain g g.rules 0 0 = some x := by
                rw [HK.out.2, HG.out.e1, List.drop_length]
                rfl
              rw [HR.out, right_of HS.out HA.out hc, ← HG.out.e2, Bool.eq_iff_iff]
              simp
              omega
            subst hRv
            go_wp2
            go_ret
            exact ⟨rfl, HK.out.1.ch⟩
  · have hnone : rightB g = false := by
      have : sizesB g = false := by unfold sizesB; rw [← hg.e1, ← hg.e2]; simp; omega
      unfold rightB
      rw [this]
      simp
    rw [hnone]
    clear hnone hg
    have hcs : decide ((n1 : Int) < 1) = true ∨ (decide ((n1 : Int) < 1) = false ∧ decide (32 < (n1 : Int)) = true) ∨ (decide ((n1 : Int) < 1) = false ∧ decide (32 < (n1 : Int)) = false ∧ decide (2048 < (n2 : Int)) = true) := by
      simp; omega
    clear hsz
    rcases hcs with k0 | ⟨k0, k1⟩ | ⟨k0, k1, k2⟩
    all_goals
      go_enter Tryz.func114, Tryz.ntmps114
      go_wp2_with fail
      go_ret
      exact ⟨rfl, (Chg.refl _ _).alloc _⟩
end Go.Proofs.YtlklmpjakeedcaaGreatDoor

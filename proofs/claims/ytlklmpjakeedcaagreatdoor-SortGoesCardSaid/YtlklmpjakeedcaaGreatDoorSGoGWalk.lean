/-
  GramTree answers true, and touches nothing that was there.
  Conditions: the grammar reads as data (GramAt); each of its lists has at most 2^44 (Reach).
-/
import Derived.Test.YtlklmpjakeedcaaGreatDoorSGoG06A
import Derived.Test.YtlklmpjakeedcaaGreatDoorSGoGCopy
import Derived.Lib.SliceRun
import Derived.Maps.AppendAt
import Derived.Test.YtlklmpjakeedcaaGreatDoorSGoGRnd
import Derived.Shelf.Abstract
import Derived.Shelf.RegionOpen
import Derived.WalkKit
import Derived.OwnWalkIn
import Derived.TacticsInMore
import Derived.LoopNIn
import Derived.LoopIn
import Derived.Sort.LoopGhostIn
set_option linter.unusedVariables false
set_option linter.unusedSimpArgs false
namespace Go.Proofs.YtlklmpjakeedcaaGreatDoor
open Go.RowKit Go.MapKept Go.Shelf

theorem tab_drop {ns : List Nd} {t : List (Nat × Nat)} (h : tab ns = some t) : ∀ n, n ≤ ns.length → tabFrom (ns.drop n) n = some (t.drop n) := by
  intro n
  induction n with
  | zero => intro _; simpa [tab] using h
  | succ n ih =>
    intro hn
    have h1 := ih (by omega)
    rw [drop_split (by omega : n < ns.length)] at h1
    simp only [tabFrom] at h1
    split at h1
    · cases h1
    · rename_i t' ht'
      split at h1
      · cases h1
      · rename_i e hh hk
        simp only [Option.some.injEq] at h1
        have h2 : t.drop (n + 1) = t' := by
          have := congrArg (List.drop 1) h1
          simp only [List.drop_succ_cons, List.drop_zero, List.drop_drop] at this
          rw [this, Nat.add_comm]
        rw [h2]
        exact ht'
theorem tab_eq {ns : List Nd} {t : List (Nat × Nat)} (h : tab ns = some t) {n : Nat} (hn : n < ns.length) : ∃ e hh, kidsTab (t.drop (n + 1)) (n + 1) ns[n].kids (n + 1) 0 = some (e, hh) ∧ t[n]? = some (e - n, hh + 1) ∧ n + 1 ≤ e := by
  have h1 := tab_drop h n (by omega)
  have h2 := tab_drop h (n + 1) (by omega)
  rw [drop_split hn] at h1
  simp only [tabFrom, h2] at h1
  split at h1
  · cases h1
  · rename_i e hh hk
    simp only [Option.some.injEq] at h1
    refine ⟨e, hh, hk, ?_, (kidsTab_le hk).1⟩
    have := congrArg (fun l => l[0]?) h1
    simpa using this.symm
theorem chain_next {g : Gr} {t : List (Nat × Nat)} {k x e : Nat} (hk : k < g.rules.length) (h : chainT g t (g.rules.drop k) k x = some e) :
    ruleI g.rules g.rules[k].name = (k : Int) ∧ g.rules[k].body = (x : Int) ∧ ∃ z h, t[x]? = some (z, h) ∧ h ≤ 16 ∧ chainT g t (g.rules.drop (k + 1)) (k + 1) (x + z) = some e := by
  rw [chainT_at hk] at h
  split at h
  · rename_i hc
    simp only [Bool.and_eq_true, decide_eq_true_eq] at hc
    split at h
    · cases h
    · rename_i z hh hz
      split at h
      · rename_i hle
        exact ⟨hc.1.2, hc.2, z, hh, hz, hle, h⟩
      · cases h
  · cases h
theorem owner_at {g : Gr} {t : List (Nat × Nat)} (ht : wholeT g = some t) {i x z h n e : Nat} (hi : i < g.rules.length) (hb : ∀ j (hj : j < g.rules.length), j < i → g.rules[j].body ≤ (x : Int)) (hbi : g.rules[i].body = (x : Int))
    (hz : t[x]? = some (z, h)) (hc : chainT g t (g.rules.drop (i + 1)) (i + 1) (x + z) = some e) (h1 : x ≤ n) (h2 : n < x + z) : ownerG g n = i := by
  have htab := (wholeT_some ht).2
  have hxl : x < g.nodes.length := by
    have h3 := (List.getElem?_eq_some_iff.1 hz).1
    have := (tab_ok htab).1
    omega
  obtain ⟨z', h', hz', _, hle, _⟩ := tabOk_le (tab_ok htab) (Nat.zero_le x) hxl
  rw [Nat.sub_zero, hz] at hz'
  cases hz'
  obtain ⟨z2, hh2, hz2, hz3, _⟩ := right_aft ht (n := n) (by omega)
  have hs : sizeG g n = z2 := (size_in ht (by omega) hz2).1
  unfold ownerG
  rw [hs, if_neg (by omega)]
  have hN : ownerN g.rules n = i + 1 := by
    unfold ownerN
    have hlow : ∀ j (hj : j < g.rules.length), j < i + 1 → decide ((n : Int) < g.rules[j].body) = false := by
      intro j hj hji
      simp only [decide_eq_false_iff_not]
      by_cases e : j = i
      · subst e; rw [hbi]; omega
      · have := hb j hj (by omega); omega
    by_cases hl : i + 1 < g.rules.length
    · refine findIdx_at hl ?_ (fun j hj => hlow j (by omega) hj)
      rw [(chain_next hl hc).2.1]
      simp; omega
    · have hl2 : i + 1 = g.rules.length := by omega
      rw [findIdx_none (fun j hj => hlow j hj (by omega)), hl2]
  rw [hN]
  omega
/-- The next kid of a node of a right grammar. -/
theorem kid_next {ns : List Nd} {t : List (Nat × Nat)} (h : tab ns = some t) {n : Nat} (hn : n < ns.length) {k a y : Nat} (hk : k < ns[n].kids.length) (hp : kidsTab (t.drop (n + 1)) (n + 1) (ns[n].kids.take k) (n + 1) 0 = some (a, y)) :
    ns[n].kids[k] = (a : Int) ∧ n + 1 ≤ a ∧ a < ns.length ∧ ∃ z hh, t[a]? = some (z, hh) ∧ a + z ≤ ns.length ∧ hh ≤ z ∧ kidsTab (t.drop (n + 1)) (n + 1) (ns[n].kids.take (k + 1)) (n + 1) 0 = some (a + z, max y hh) := by
  obtain ⟨e, hh0, hk0, _, _⟩ := tab_eq h hn
  have ha := (kidsTab_le hp).1
  have h1 : kidsTab (t.drop (n + 1)) (n + 1) (ns[n].kids.take (k + 1)) (n + 1) 0 = kidsTab (t.drop (n + 1)) (n + 1) [ns[n].kids[k]] a y := by
    rw [List.take_succ_eq_append_getElem hk, kidsTab_snoc, hp]
  have h2 : kidsTab (t.drop (n + 1)) (n + 1) (ns[n].kids.take (k + 1)) (n + 1) 0 ≠ none := by
    intro hnone
    have := kidsTab_none (l := ns[n].kids.drop (k + 1)) hnone
    rw [List.take_append_drop, hk0] at this
    cases this
  rw [h1] at h2
  simp only [kidsTab] at h2
  by_cases e1 : ns[n].kids[k] = (a : Int)
  · rw [if_pos e1] at h2
    have hd : (t.drop (n + 1))[a - (n + 1)]? = t[a]? := by rw [List.getElem?_drop]; congr 1; omega
    rw [hd] at h2
    cases hta : t[a]? with
    | none => rw [hta] at h2; exact absurd rfl h2
    | some p =>
      obtain ⟨z, hh⟩ := p
      have hal : a < ns.length := by
        have h3 := (List.getElem?_eq_some_iff.1 hta).1
        have := (tab_ok h).1
        omega
      obtain ⟨z', h', hz', _, hle, hhz⟩ := tabOk_le (tab_ok h) (Nat.zero_le a) hal
      rw [Nat.sub_zero, hta] at hz'
      cases hz'
      refine ⟨e1, ha, hal, z, hh, rfl, hle, hhz, ?_⟩
      rw [h1]
      simp only [kidsTab, if_pos e1, hd, hta]
  · rw [if_neg e1] at h2; exact absurd rfl h2

theorem whole_chain {g : Gr} {t : List (Nat × Nat)} (ht : wholeT g = some t) : chainT g t g.rules 0 0 = some g.nodes.length := by
  unfold wholeT at ht
  split at ht
  · split at ht
    · cases ht
    · rename_i t' ht'
      split at ht
      · rename_i hc
        simp only [Option.some.injEq] at ht
        subst ht
        simpa using hc
      · cases ht
  · cases ht
theorem chain_le {g : Gr} {t : List (Nat × Nat)} (ht : tab g.nodes = some t) {x z h : Nat} (hz : t[x]? = some (z, h)) : x < g.nodes.length ∧ 1 ≤ z ∧ x + z ≤ g.nodes.length := by
  have hxl : x < g.nodes.length := by
    have h3 := (List.getElem?_eq_some_iff.1 hz).1
    have := (tab_ok ht).1
    omega
  obtain ⟨z', h', hz', h1, hle, _⟩ := tabOk_le (tab_ok ht) (Nat.zero_le x) hxl
  rw [Nat.sub_zero, hz] at hz'
  cases hz'
  exact ⟨hxl, h1, hle⟩

end Go.Proofs.YtlklmpjakeedcaaGreatDoor
set_option linter.unusedVariables false
set_option linter.unusedSimpArgs false
namespace Go.Proofs.YtlklmpjakeedcaaGreatDoor
open Go.RowKit Go.MapKept Go.Shelf

/-- A row of one's own, beyond B, that holds numbers. -/
def FreshInts (B : Nat) (w : World) (a : Option Addr) (c : Nat) (zs : List Int) : Prop := w.ownsRow B 3 1 (.slice a zs.length c) zs.length (zs.map (Value.int .i64))
def FreshRules (B : Nat) (w : World) (a : Option Addr) (c : Nat) (rs : List Rl) : Prop := w.ownsRow B 53 2 (.slice a rs.length c) rs.length (rulesCells rs)
theorem row_base {W : World} {base base' : Nat} {e : TypeId} {size : Nat} {v : Value} {k : Nat} {xs : List Value} (h : W.ownsRow base e size v k xs) (hb : base' ≤ base) : W.ownsRow base' e size v k xs := by
  refine ⟨h.1, ?_⟩
  rcases h.2 with hn | ⟨g, cap, cur, hv, hbg, rest⟩
  · exact .inl hn
  · exact .inr ⟨g, cap, cur, hv, Nat.le_trans hb hbg, rest⟩
theorem FreshInts.own {B : Nat} {w : World} {a : Option Addr} {c : Nat} {zs : List Int} (h : FreshInts B w a c zs) : OwnInts w (.slice a zs.length c) zs := row_base h (Nat.zero_le _)
theorem row_beyond {W : World} {B : Nat} {e : TypeId} {size : Nat} {v : Value} {k : Nat} {xs : List Value} (h : W.ownsRow B e size v k xs) {j : Nat} (hj : v.ownBlock = some j) : B ≤ j ∧ j < W.heap.size ∧ ∃ cur, W.heap[j]? = some (.cells cur e (0, 0)) := by
  rcases h.2 with ⟨h0, h1⟩ | ⟨g, cap, cur, h0, hb, hg, _⟩
  · subst h0; cases hj
  · subst h0; cases hj; exact ⟨hb, (Array.getElem?_eq_some_iff.1 hg).1, cur, hg⟩
def ClonedInts (w : World) (zs : List Int) (e : Ending) (w' : World) : Prop := ∃ a c, e = .returned (.slice a zs.length c) ∧ FreshInts w.heap.size w' a c zs ∧ Chg [] w w'
def ClonedRules (w : World) (rs : List Rl) (e : Ending) (w' : World) : Prop := ∃ a c, e = .returned (.slice a rs.length c) ∧ FreshRules w.heap.size w' a c rs ∧ Chg [] w w'

end Go.Proofs.YtlklmpjakeedcaaGreatDoor
set_option linter.unusedVariables false
set_option linter.unusedSimpArgs false
namespace Go.Proofs.YtlklmpjakeedcaaGreatDoor
open Go.RowKit Go.MapKept Go.Shelf
attribute [local go_sem] Oper.semAt_some

/-- What lay below n₀, and in block Bl, lies as it lay. -/
structure Keeps (n₀ Bl : Nat) (A B : World) : Prop where
  size : A.heap.size ≤ B.heap.size
  old : ∀ k o, k < n₀ ∨ k = Bl → A.heap[k]? = some o → B.heap[k]? = some o
theorem Keeps.refl (n₀ Bl : Nat) (A : World) : Keeps n₀ Bl A A := ⟨Nat.le_refl _, fun _ _ _ h => h⟩
theorem Keeps.trans {n₀ Bl : Nat} {A B C : World} (h : Keeps n₀ Bl A B) (k : Keeps n₀ Bl B C) : Keeps n₀ Bl A C := ⟨Nat.le_trans h.size k.size, fun j o hj ho => k.old j o hj (h.old j o hj ho)⟩
theorem Keeps.of_chg {n₀ Bl : Nat} {S : List Nat} {A B : World} (h : Chg S A B) (hS : ∀ k ∈ S, n₀ ≤ k ∧ k ≠ Bl) : Keeps n₀ Bl A B :=
  ⟨h.size, fun k o hk ho => h.heap ho (fun hm => by have := hS k hm; rcases hk with h | h <;> omega)⟩
theorem Keeps.of_turn {n₀ Bl B' : Nat} {A B : World} (h : Turn B' A B) (hn : n₀ ≤ B') (hB : Bl < B') : Keeps n₀ Bl A B := by
  obtain ⟨l, hl, hc⟩ := h.chg
  exact .of_chg hc (fun k hk => by simp only [List.mem_singleton] at hk; omega)
theorem Keeps.cell {n₀ Bl : Nat} {A B : World} (h : Keeps n₀ Bl A B) {p : Addr} {v : Value} (hc : A.cell? p = some v) (hp : p.block < n₀ ∨ p.block = Bl) : B.cell? p = some v := by
  obtain ⟨o, ho, _⟩ := cells_of_cell hc
  exact (World.cell?_of_block ((h.old _ _ hp ho).trans ho.symm)).trans hc
theorem kp_old {A B : World} (hs : A.heap.size ≤ B.heap.size) (h : ∀ k, k < A.heap.size → B.heap[k]? = A.heap[k]?) : Kp A B :=
  ⟨hs, fun p v hc => (World.cell?_of_block (h _ (World.block_lt_of_cell? _ _ hc))).trans hc⟩

def Cp.own (p : Cp) : Option Nat := (Value.slice p.2.1 p.1.kids.length p.2.2).ownBlock
/-- What a round is told of the node that it is handed. -/
def CopyX (n₀ : Nat) (ns : List Nd) (pre : List Cp) (p : Cp) (W : World) : Prop :=
  (pre.length < ns.length ∧ ns[pre.length]? = some p.1) ∧ FreshInts n₀ W p.2.1 p.2.2 p.1.kids ∧ (∀ q ∈ pre, ∀ i j, q.own = some i → p.own = some j → i < j)
def encCp (p : Cp) : Array Value := #[.agg (p.1.cells p.2.1 p.1.kids.length p.2.2)]

end Go.Proofs.YtlklmpjakeedcaaGreatDoor
set_option linter.unusedVariables false
set_option linter.unusedSimpArgs false
namespace Go.Proofs.YtlklmpjakeedcaaGreatDoor
open Go.RowKit Go.MapKept Go.Shelf

/-- A node's size stays within the row. -/
theorem sizeG_in (g : Gr) (n : Int) : ∃ z : Nat, sizeG g n = z ∧ (0 < z → n = (n.toNat : Int) ∧ n.toNat + z ≤ g.nodes.length ∧ rightB g = true) := by
  unfold sizeG
  cases h : wholeT g with
  | none => exact ⟨0, rfl, fun h => by omega⟩
  | some t =>
    by_cases hn : 0 ≤ n ∧ n < g.nodes.length
    · simp only [if_pos hn]
      obtain ⟨hr, ht⟩ := wholeT_some h
      obtain ⟨z, hh, h1, h2, h3, _⟩ := tabOk_le (tab_ok ht) (Nat.zero_le n.toNat) (by omega)
      rw [Nat.sub_zero] at h1
      rw [h1]
      exact ⟨z, rfl, fun _ => ⟨by omega, h3, hr⟩⟩
    · simp only [if_neg hn]
      exact ⟨0, rfl, fun h => by omega⟩

abbrev Wk := Int × Cp
def encWk (x : Wk) : Array Value := #[.int .i64 x.1, .agg (x.2.1.cells x.2.2.1 x.2.1.kids.length x.2.2.2)]
/-- What a round is told. -/
def WalkX (n₀ N z : Nat) (ns : List Nd) (pre : List Wk) (x : Wk) (W : World) : Prop :=
  (pre.length < z ∧ x.1 = (N : Int) + pre.length ∧ ns[N + pre.length]? = some x.2.1) ∧ FreshInts n₀ W x.2.2.1 x.2.2.2 x.2.1.kids
theorem WalkX.stays (B n₀ N z : Nat) (ns : List Nd) (pre : List Wk) (x : Wk) : Stays B (WalkX n₀ N z ns pre x) := (Stays.pure _).and (Stays.row B _ _ _ _ _ _)

section
attribute [local go_sem] Oper.semAt_some
end

end Go.Proofs.YtlklmpjakeedcaaGreatDoor

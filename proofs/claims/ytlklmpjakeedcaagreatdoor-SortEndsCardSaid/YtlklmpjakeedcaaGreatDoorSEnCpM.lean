/-
 A search in memory: its cells, its rows, and what a change of one of them leaves of the others.
 Conditions: none.
-/
import Derived.Test.YtlklmpjakeedcaaGreatDoorSEnCpB
import Derived.Test.YtlklmpjakeedcaaGreatDoorSEnWeR
import Derived.Test.YtlklmpjakeedcaaGreatDoorSEnAp0
set_option linter.unusedVariables false
set_option linter.unusedSimpArgs false
set_option linter.unnecessarySimpa false
namespace Go.Proofs.YtlklmpjakeedcaaGreatDoor
open Go.RowKit Go.MapKept Go.Shelf

def natI (l : List Nat) : List Int := l.map (fun (x : Nat) => (x : Int))
theorem natI_len (l : List Nat) : (natI l).length = l.length := by simp [natI]
theorem natI_append (l m : List Nat) : natI (l ++ m) = natI l ++ natI m := by simp [natI]
theorem natI_set (f : Nat → Nat) (n i v : Nat) : (natI ((List.range n).map f)).set i (v : Int) = natI ((List.range n).map (Cp.upd f i v)) := by
 rw [← Cp.set_range]; unfold natI; rw [List.map_set]
theorem OwnIs.keepS {B : Nat} {w w' : World} {S : List Nat} {a : Option Addr} {c : Nat} {VS : List Is} (h : OwnIs B w a c VS) (hc : Chg S w w') (h1 : ∀ k ∈ S, NotRow w 34 k) (h2 : ∀ k ∈ S, ∀ p ∈ VS, p.own ≠ some k) : OwnIs B w' a c VS :=
 ⟨hc.row h.row (fun k hk hm => h1 k hm _ _ _ _ _ h.row hk), fun p hp => hc.row (h.each p hp) (fun k hk hm => h2 k hm p hp hk), h.apart⟩
/-- Two rows lie apart. -/
def Apt (p q : Is) : Prop := ∀ k, p.own = some k → q.own ≠ some k
theorem Apt.symm {p q : Is} (h : Apt p q) : Apt q p := fun k h1 h2 => h k h2 h1
structure SearchIs (B : Nat) (w : World) (sb : Nat) (ga : Option Addr) (gn gc n : Nat) (A M K P : Is) (la : Option Addr) (lc : Nat) (VS : List Is) (s : Cp.TS) : Prop where
 low : B ≤ sb
 head : w.heap[sb]? = some (.cells #[.slice ga gn gc, A.cell, M.cell, K.cell, P.cell, .slice la VS.length lc, .int .i64 s.clock] 161 (0, 0))
 rA : FreshInts B w A.1 A.2.1 A.2.2
 rM : FreshInts B w M.1 M.2.1 M.2.2
 rK : FreshInts B w K.1 K.2.1 K.2.2
 rP : FreshInts B w P.1 P.2.1 P.2.2
 own : OwnIs B w la lc VS
 aAM : Apt A M
 aAK : Apt A K
 aAP : Apt A P
 aMK : Apt M K
 aMP : Apt M P
 aKP : Apt K P
 vA : ∀ q ∈ VS, Apt A q
 vM : ∀ q ∈ VS, Apt M q
 vK : ∀ q ∈ VS, Apt K q
 vP : ∀ q ∈ VS, Apt P q
 aside : A.2.2 = natI s.aside.reverse
 met : M.2.2 = natI ((List.range n).map s.met)
 back : K.2.2 = natI ((List.range n).map s.back)
 part : P.2.2 = (List.range n).map s.part
 parts : VS.map (·.2.2) = s.parts.map natI
section
variable {B : Nat} {w w' : World} {sb : Nat} {ga : Option Addr} {gn gc n : Nat} {A M K P : Is} {la : Option Addr} {lc : Nat} {VS : List Is} {s : Cp.TS}
theorem row_ne_search {B : Nat} {w : World} {sb : Nat} {cs : Array Value} {X : Is} (h : FreshInts B w X.1 X.2.1 X.2.2) (hh : w.heap[sb]? = some (.cells cs 161 (0, 0))) : X.own ≠ some sb := ownsRow_ne h hh (by decide)
theorem row_lt {B : Nat} {w : World} {X : Is} (h : FreshInts B w X.1 X.2.1 X.2.2) {k : Nat} (hk : X.own = some k) : B ≤ k ∧ k < w.heap.size := ⟨(row_beyond h hk).1, (row_beyond h hk).2.1⟩
theorem SearchIs.len (h : SearchIs B w sb ga gn gc n A M K P la lc VS s) : VS.length = s.parts.length := by
 have := congrArg List.length h.parts
 simpa using this
theorem SearchIs.chg0 (h : SearchIs B w sb ga gn gc n A M K P la lc VS s) (hc : Chg [] w w') : SearchIs B w' sb ga gn gc n A M K P la lc VS s :=
 ⟨h.low, hc.heap h.head (by simp), hc.row h.rA (fun _ _ => by simp), hc.row h.rM (fun _ _ => by simp), hc.row h.rK (fun _ _ => by simp), hc.row h.rP (fun _ _ => by simp), h.own.chg0 hc, h.aAM, h.aAK, h.aAP, h.aMK, h.aMP, h.aKP, h.vA, h.vM, h.vK, h.vP, h.aside, h.met, h.back, h.part, h.parts⟩
theorem SearchIs.cells (h : SearchIs B w sb ga gn gc n A M K P la lc VS s) : w.cell? ⟨sb, 0, none⟩ = some (.slice ga gn gc) ∧ w.cell? ⟨sb, 1, none⟩ = some A.cell ∧ w.cell? ⟨sb, 2, none⟩ = some M.cell ∧ w.cell? ⟨sb, 3, none⟩ = some K.cell ∧ w.cell? ⟨sb, 4, none⟩ = some P.cell ∧ w.cell? ⟨sb, 5, none⟩ = some (.slice la VS.length lc) ∧ w.cell? ⟨sb, 6, none⟩ = some (.int .i64 s.clock) :=
 ⟨cell_of_cells h.head 0, cell_of_cells h.head 1, cell_of_cells h.head 2, cell_of_cells h.head 3, cell_of_cells h.head 4, cell_of_cells h.head 5, cell_of_cells h.head 6⟩
theorem SearchIs.free (h : SearchIs B w sb ga gn gc n A M K P la lc VS s) (i : Nat) : w.frozen? ⟨sb, i, none⟩ = false := free_of_cells h.head i
/-- The head alone is written. -/
theorem SearchIs.tick (h : SearchIs B w sb ga gn gc n A M K P la lc VS s) (hc : Chg [sb] w w') (c : Nat) (hh : w'.heap[sb]? = some (.cells #[.slice ga gn gc, A.cell, M.cell, K.cell, P.cell, .slice la VS.length lc, .int .i64 c] 161 (0, 0))) : SearchIs B w' sb ga gn gc n A M K P la lc VS { s with clock := c } := by
 have hn : ∀ {X : Is}, FreshInts B w X.1 X.2.1 X.2.2 → FreshInts B w' X.1 X.2.1 X.2.2 := fun hX => hc.row hX (fun k hk hm => by rw [List.mem_singleton.1 hm] at hk; exact row_ne_search hX h.head hk)
 exact ⟨h.low, hh, hn h.rA, hn h.rM, hn h.rK, hn h.rP, h.own.keepS hc (fun k hk => by rw [List.mem_singleton.1 hk]; exact NotRow.of_cells h.head (by decide)) (fun k hk p hp => by rw [List.mem_singleton.1 hk]; exact row_ne_search (h.own.each p hp) h.head), h.aAM, h.aAK, h.aAP, h.aMK, h.aMP, h.aKP, h.vA, h.vM, h.vK, h.vP, h.aside, h.met, h.back, h.part, h.parts⟩
/-- The row of 'aside' is another one, or in another place. -/
theorem SearchIs.upA (h : SearchIs B w sb ga gn gc n A M K P la lc VS s) {S : List Nat} (hc : Chg S w w') (hS : ∀ k ∈ S, k = sb ∨ A.own = some k) {A' : Is} (l : List Nat) (hX : FreshInts B w' A'.1 A'.2.1 A'.2.2) (hl : A'.2.2 = natI l.reverse) (ho : ∀ k, A'.own = some k → A.own = some k ∨ w.heap.size ≤ k) (hh : w'.heap[sb]? = some (.cells #[.slice ga gn gc, A'.cell, M.cell, K.cell, P.cell, .slice la VS.length lc, .int .i64 s.clock] 161 (0, 0))) : SearchIs B w' sb ga gn gc n A' M K P la lc VS { s with aside := l } := by
 have hn : ∀ {Y : Is}, FreshInts B w Y.1 Y.2.1 Y.2.2 → Apt A Y → FreshInts B w' Y.1 Y.2.1 Y.2.2 := fun hY ha => hc.row hY (fun k hk hm => by
  rcases hS k hm with e | e
  ·rw [e] at hk; exact row_ne_search hY h.head hk
  ·exact ha k e hk)
 have hap : ∀ {Y : Is}, FreshInts B w Y.1 Y.2.1 Y.2.2 → Apt A Y → Apt A' Y := fun hY ha k hk hk2 => by
  rcases ho k hk with e | e
  ·exact ha k e hk2
  ·have := (row_lt hY hk2).2; omega
 exact ⟨h.low, hh, hX, hn h.rM h.aAM, hn h.rK h.aAK, hn h.rP h.aAP, h.own.keepS hc (fun k hk => by
  rcases hS k hk with e | e
  ·rw [e]; exact NotRow.of_cells h.head (by decide)
  ·exact row_notrow h.rA e (by decide)) (fun k hk p hp => by
  rcases hS k hk with e | e
  ·rw [e]; exact row_ne_search (h.own.each p hp) h.head
  ·exact h.vA p hp k e), hap h.rM h.aAM, hap h.rK h.aAK, hap h.rP h.aAP, h.aMK, h.aMP, h.aKP, fun q hq => hap (h.own.each q hq) (h.vA q hq), h.vM, h.vK, h.vP, hl, h.met, h.back, h.part, h.parts⟩
/-- The row of 'met' is another one, or in another place. -/
theorem SearchIs.upM (h : SearchIs B w sb ga gn gc n A M K P la lc VS s) {S : List Nat} (hc : Chg S w w') (hS : ∀ k ∈ S, k = sb ∨ M.own = some k) {M' : Is} (l : Nat → Nat) (hX : FreshInts B w' M'.1 M'.2.1 M'.2.2) (hl : M'.2.2 = natI ((List.range n).map l)) (ho : ∀ k, M'.own = some k → M.own = some k ∨ w.heap.size ≤ k) (hh : w'.heap[sb]? = some (.cells #[.slice ga gn gc, A.cell, M'.cell, K.cell, P.cell, .slice la VS.length lc, .int .i64 s.clock] 161 (0, 0))) : SearchIs B w' sb ga gn gc n A M' K P la lc VS { s with met := l } := by
 have hn : ∀ {Y : Is}, FreshInts B w Y.1 Y.2.1 Y.2.2 → Apt M Y → FreshInts B w' Y.1 Y.2.1 Y.2.2 := fun hY ha => hc.row hY (fun k hk hm => by
  rcases hS k hm with e | e
  ·rw [e] at hk; exact row_ne_search hY h.head hk
  ·exact ha k e hk)
 have hap : ∀ {Y : Is}, FreshInts B w Y.1 Y.2.1 Y.2.2 → Apt M Y → Apt M' Y := fun hY ha k hk hk2 => by
  rcases ho k hk with e | e
  ·exact ha k e hk2
  ·have := (row_lt hY hk2).2; omega
 exact ⟨h.low, hh, hn h.rA (Apt.symm h.aAM), hX, hn h.rK h.aMK, hn h.rP h.aMP, h.own.keepS hc (fun k hk => by
  rcases hS k hk with e | e
  ·rw [e]; exact NotRow.of_cells h.head (by decide)
  ·exact row_notrow h.rM e (by decide)) (fun k hk p hp => by
  rcases hS k hk with e | e
  ·rw [e]; exact row_ne_search (h.own.each p hp) h.head
  ·exact h.vM p hp k e), (hap h.rA (Apt.symm h.aAM)).symm, h.aAK, h.aAP, hap h.rK h.aMK, hap h.rP h.aMP, h.aKP, h.vA, fun q hq => hap (h.own.each q hq) (h.vM q hq), h.vK, h.vP, h.aside, hl, h.back, h.part, h.parts⟩
/-- A number of 'met' is written. -/
theorem SearchIs.putM (h : SearchIs B w sb ga gn gc n A M K P la lc VS s) {a : Nat} (ha : a < n) (v : Nat) : ∃ g, M.1 = some ⟨g, 0, none⟩ ∧ g ≠ sb ∧ B ≤ g ∧ g < w.heap.size ∧ M.cell = .slice (some ⟨g, 0, none⟩) n M.2.1 ∧ n ≤ M.2.1 ∧ M.2.1 ≤ 9223372036854775807 ∧ w.cell? ⟨g, a, none⟩ = some (.int .i64 (s.met a)) ∧ w.frozen? ⟨g, a, none⟩ = false ∧ Chg [g] w (w.setCell ⟨g, a, none⟩ (.int .i64 v)) ∧ ∃ M', M'.cell = M.cell ∧ SearchIs B (w.setCell ⟨g, a, none⟩ (.int .i64 v)) sb ga gn gc n A M' K P la lc VS { s with met := Cp.upd s.met a v } := by
 have hlen : M.2.2.length = n := by rw [h.met]; simp [natI]
 obtain ⟨g, hg, hgb, hgl⟩ : ∃ g, M.1 = some ⟨g, 0, none⟩ ∧ B ≤ g ∧ g < w.heap.size := by
  rcases h.rM.2 with ⟨h0, h1⟩ | ⟨g, cap, cur, h0, hb, hg, _⟩
  ·have : M.2.2.length = 0 := h1
   omega
  ·simp only [Value.slice.injEq] at h0
   exact ⟨g, h0.1, hb, lt_of_block hg⟩
 have hr := h.rM
 unfold FreshInts at hr
 rw [hg] at hr
 obtain ⟨h1, h2, h3, h4, h5⟩ := row_put hr (i := a) (by omega)
 obtain ⟨h6, h7⟩ := h5 (.int .i64 v)
 have hown : M.own = some g := by show (Value.slice M.1 _ _).ownBlock = _; rw [hg]; rfl
 have hne : g ≠ sb := fun e => row_ne_search h.rM h.head (by rw [hown, e])
 have hset : M.2.2.set a v = natI ((List.range n).map (Cp.upd s.met a v)) := by rw [h.met]; exact natI_set s.met n a v
 have hcap : n ≤ M.2.1 ∧ M.2.1 ≤ 9223372036854775807 := by
  obtain ⟨_, _, k1, k2⟩ := ownInts_read h.rM.own
  rw [hlen] at k1
  have k3 : M.2.1 ≤ maxLen := k2
  simp only [maxLen] at k3
  exact ⟨k1, k3⟩
 refine ⟨g, hg, hne, hgb, hgl, (by show Value.slice M.1 M.2.2.length M.2.1 = _; rw [hg, hlen]), hcap.1, hcap.2, ?_, h2, h7, (M.1, M.2.1, M.2.2.set a v), ?_, h.upM h7 (fun k hk => .inr (by rw [List.mem_singleton.1 hk]; exact hown)) (Cp.upd s.met a v) ?_ hset (fun k hk => .inl ?_) ?_⟩
 ·rw [h1, List.getElem?_map, h.met]; simp [natI, ha]
 ·show Value.slice M.1 (M.2.2.set a v).length M.2.1 = Value.slice M.1 M.2.2.length M.2.1; rw [List.length_set]
 ·show FreshInts B _ M.1 M.2.1 (M.2.2.set a v)
  unfold FreshInts
  rw [hg, List.length_set, List.map_set]; exact h6
 ·have : (Value.slice M.1 (M.2.2.set a v).length M.2.1).ownBlock = some k := hk
  rw [hg] at this; rw [hown]; exact this
 ·rw [show (Is.cell (M.1, M.2.1, M.2.2.set a v)) = M.cell by show Value.slice M.1 (M.2.2.set a v).length M.2.1 = Value.slice M.1 M.2.2.length M.2.1; rw [List.length_set]]
  exact h7.heap h.head (by simpa using fun e => hne e.symm)
/-- The row of 'back' is another one, or in another place. -/
theorem SearchIs.upK (h : SearchIs B w sb ga gn gc n A M K P la lc VS s) {S : List Nat} (hc : Chg S w w') (hS : ∀ k ∈ S, k = sb ∨ K.own = some k) {K' : Is} (l : Nat → Nat) (hX : FreshInts B w' K'.1 K'.2.1 K'.2.2) (hl : K'.2.2 = natI ((List.range n).map l)) (ho : ∀ k, K'.own = some k → K.own = some k ∨ w.heap.size ≤ k) (hh : w'.heap[sb]? = some (.cells #[.slice ga gn gc, A.cell, M.cell, K'.cell, P.cell, .slice la VS.length lc, .int .i64 s.clock] 161 (0, 0))) : SearchIs B w' sb ga gn gc n A M K' P la lc VS { s with back := l } := by
 have hn : ∀ {Y : Is}, FreshInts B w Y.1 Y.2.1 Y.2.2 → Apt K Y → FreshInts B w' Y.1 Y.2.1 Y.2.2 := fun hY ha => hc.row hY (fun k hk hm => by
  rcases hS k hm with e | e
  ·rw [e] at hk; exact row_ne_search hY h.head hk
  ·exact ha k e hk)
 have hap : ∀ {Y : Is}, FreshInts B w Y.1 Y.2.1 Y.2.2 → Apt K Y → Apt K' Y := fun hY ha k hk hk2 => by
  rcases ho k hk with e | e
  ·exact ha k e hk2
  ·have := (row_lt hY hk2).2; omega
 exact ⟨h.low, hh, hn h.rA (Apt.symm h.aAK), hn h.rM (Apt.symm h.aMK), hX, hn h.rP h.aKP, h.own.keepS hc (fun k hk => by
  rcases hS k hk with e | e
  ·rw [e]; exact NotRow.of_cells h.head (by decide)
  ·exact row_notrow h.rK e (by decide)) (fun k hk p hp => by
  rcases hS k hk with e | e
  ·rw [e]; exact row_ne_search (h.own.each p hp) h.head
  ·exact h.vK p hp k e), h.aAM, (hap h.rA (Apt.symm h.aAK)).symm, h.aAP, (hap h.rM (Apt.symm h.aMK)).symm, h.aMP, hap h.rP h.aKP, h.vA, h.vM, fun q hq => hap (h.own.each q hq) (h.vK q hq), h.vP, h.aside, h.met, hl, h.part, h.parts⟩
/-- A number of 'back' is written. -/
theorem SearchIs.putK (h : SearchIs B w sb ga gn gc n A M K P la lc VS s) {a : Nat} (ha : a < n) (v : Nat) : ∃ g, K.1 = some ⟨g, 0, none⟩ ∧ g ≠ sb ∧ B ≤ g ∧ g < w.heap.size ∧ K.cell = .slice (some ⟨g, 0, none⟩) n K.2.1 ∧ n ≤ K.2.1 ∧ K.2.1 ≤ 9223372036854775807 ∧ w.cell? ⟨g, a, none⟩ = some (.int .i64 (s.back a)) ∧ w.frozen? ⟨g, a, none⟩ = false ∧ Chg [g] w (w.setCell ⟨g, a, none⟩ (.int .i64 v)) ∧ ∃ K', K'.cell = K.cell ∧ SearchIs B (w.setCell ⟨g, a, none⟩ (.int .i64 v)) sb ga gn gc n A M K' P la lc VS { s with back := Cp.upd s.back a v } := by
 have hlen : K.2.2.length = n := by rw [h.back]; simp [natI]
 obtain ⟨g, hg, hgb, hgl⟩ : ∃ g, K.1 = some ⟨g, 0, none⟩ ∧ B ≤ g ∧ g < w.heap.size := by
  rcases h.rK.2 with ⟨h0, h1⟩ | ⟨g, cap, cur, h0, hb, hg, _⟩
  ·have : K.2.2.length = 0 := h1
   omega
  ·simp only [Value.slice.injEq] at h0
   exact ⟨g, h0.1, hb, lt_of_block hg⟩
 have hr := h.rK
 unfold FreshInts at hr
 rw [hg] at hr
 obtain ⟨h1, h2, h3, h4, h5⟩ := row_put hr (i := a) (by omega)
 obtain ⟨h6, h7⟩ := h5 (.int .i64 v)
 have hown : K.own = some g := by show (Value.slice K.1 _ _).ownBlock = _; rw [hg]; rfl
 have hne : g ≠ sb := fun e => row_ne_search h.rK h.head (by rw [hown, e])
 have hset : K.2.2.set a v = natI ((List.range n).map (Cp.upd s.back a v)) := by rw [h.back]; exact natI_set s.back n a v
 have hcap : n ≤ K.2.1 ∧ K.2.1 ≤ 9223372036854775807 := by
  obtain ⟨_, _, k1, k2⟩ := ownInts_read h.rK.own
  rw [hlen] at k1
  have k3 : K.2.1 ≤ maxLen := k2
  simp only [maxLen] at k3
  exact ⟨k1, k3⟩
 refine ⟨g, hg, hne, hgb, hgl, (by show Value.slice K.1 K.2.2.length K.2.1 = _; rw [hg, hlen]), hcap.1, hcap.2, ?_, h2, h7, (K.1, K.2.1, K.2.2.set a v), ?_, h.upK h7 (fun k hk => .inr (by rw [List.mem_singleton.1 hk]; exact hown)) (Cp.upd s.back a v) ?_ hset (fun k hk => .inl ?_) ?_⟩
 ·rw [h1, List.getElem?_map, h.back]; simp [natI, ha]
 ·show Value.slice K.1 (K.2.2.set a v).length K.2.1 = Value.slice K.1 K.2.2.length K.2.1; rw [List.length_set]
 ·show FreshInts B _ K.1 K.2.1 (K.2.2.set a v)
  unfold FreshInts
  rw [hg, List.length_set, List.map_set]; exact h6
 ·have : (Value.slice K.1 (K.2.2.set a v).length K.2.1).ownBlock = some k := hk
  rw [hg] at this; rw [hown]; exact this
 ·rw [show (Is.cell (K.1, K.2.1, K.2.2.set a v)) = K.cell by show Value.slice K.1 (K.2.2.set a v).length K.2.1 = Value.slice K.1 K.2.2.length K.2.1; rw [List.length_set]]
  exact h7.heap h.head (by simpa using fun e => hne e.symm)
/-- The row of 'part' is another one, or in another place. -/
theorem SearchIs.upP (h : SearchIs B w sb ga gn gc n A M K P la lc VS s) {S : List Nat} (hc : Chg S w w') (hS : ∀ k ∈ S, k = sb ∨ P.own = some k) {P' : Is} (l : Nat → Int) (hX : FreshInts B w' P'.1 P'.2.1 P'.2.2) (hl : P'.2.2 = (List.range n).map l) (ho : ∀ k, P'.own = some k → P.own = some k ∨ w.heap.size ≤ k) (hh : w'.heap[sb]? = some (.cells #[.slice ga gn gc, A.cell, M.cell, K.cell, P'.cell, .slice la VS.length lc, .int .i64 s.clock] 161 (0, 0))) : SearchIs B w' sb ga gn gc n A M K P' la lc VS { s with part := l } := by
 have hn : ∀ {Y : Is}, FreshInts B w Y.1 Y.2.1 Y.2.2 → Apt P Y → FreshInts B w' Y.1 Y.2.1 Y.2.2 := fun hY ha => hc.row hY (fun k hk hm => by
  rcases hS k hm with e | e
  ·rw [e] at hk; exact row_ne_search hY h.head hk
  ·exact ha k e hk)
 have hap : ∀ {Y : Is}, FreshInts B w Y.1 Y.2.1 Y.2.2 → Apt P Y → Apt P' Y := fun hY ha k hk hk2 => by
  rcases ho k hk with e | e
  ·exact ha k e hk2
  ·have := (row_lt hY hk2).2; omega
 exact ⟨h.low, hh, hn h.rA (Apt.symm h.aAP), hn h.rM (Apt.symm h.aMP), hn h.rK (Apt.symm h.aKP), hX, h.own.keepS hc (fun k hk => by
  rcases hS k hk with e | e
  ·rw [e]; exact NotRow.of_cells h.head (by decide)
  ·exact row_notrow h.rP e (by decide)) (fun k hk p hp => by
  rcases hS k hk with e | e
  ·rw [e]; exact row_ne_search (h.own.each p hp) h.head
  ·exact h.vP p hp k e), h.aAM, h.aAK, (hap h.rA (Apt.symm h.aAP)).symm, h.aMK, (hap h.rM (Apt.symm h.aMP)).symm, (hap h.rK (Apt.symm h.aKP)).symm, h.vA, h.vM, h.vK, fun q hq => hap (h.own.each q hq) (h.vP q hq), h.aside, h.met, h.back, hl, h.parts⟩
/-- A number of 'part' is written. -/
theorem SearchIs.putP (h : SearchIs B w sb ga gn gc n A M K P la lc VS s) {a : Nat} (ha : a < n) (v : Int) : ∃ g, P.1 = some ⟨g, 0, none⟩ ∧ g ≠ sb ∧ B ≤ g ∧ g < w.heap.size ∧ P.cell = .slice (some ⟨g, 0, none⟩) n P.2.1 ∧ n ≤ P.2.1 ∧ P.2.1 ≤ 9223372036854775807 ∧ w.cell? ⟨g, a, none⟩ = some (.int .i64 (s.part a)) ∧ w.frozen? ⟨g, a, none⟩ = false ∧ Chg [g] w (w.setCell ⟨g, a, none⟩ (.int .i64 v)) ∧ ∃ P', P'.cell = P.cell ∧ SearchIs B (w.setCell ⟨g, a, none⟩ (.int .i64 v)) sb ga gn gc n A M K P' la lc VS { s with part := Cp.upd s.part a v } := by
 have hlen : P.2.2.length = n := by rw [h.part]; simp [natI]
 obtain ⟨g, hg, hgb, hgl⟩ : ∃ g, P.1 = some ⟨g, 0, none⟩ ∧ B ≤ g ∧ g < w.heap.size := by
  rcases h.rP.2 with ⟨h0, h1⟩ | ⟨g, cap, cur, h0, hb, hg, _⟩
  ·have : P.2.2.length = 0 := h1
   omega
  ·simp only [Value.slice.injEq] at h0
   exact ⟨g, h0.1, hb, lt_of_block hg⟩
 have hr := h.rP
 unfold FreshInts at hr
 rw [hg] at hr
 obtain ⟨h1, h2, h3, h4, h5⟩ := row_put hr (i := a) (by omega)
 obtain ⟨h6, h7⟩ := h5 (.int .i64 v)
 have hown : P.own = some g := by show (Value.slice P.1 _ _).ownBlock = _; rw [hg]; rfl
 have hne : g ≠ sb := fun e => row_ne_search h.rP h.head (by rw [hown, e])
 have hset : P.2.2.set a v = (List.range n).map (Cp.upd s.part a v) := by rw [h.part]; exact Cp.set_range s.part n a v
 have hcap : n ≤ P.2.1 ∧ P.2.1 ≤ 9223372036854775807 := by
  obtain ⟨_, _, k1, k2⟩ := ownInts_read h.rP.own
  rw [hlen] at k1
  have k3 : P.2.1 ≤ maxLen := k2
  simp only [maxLen] at k3
  exact ⟨k1, k3⟩
 refine ⟨g, hg, hne, hgb, hgl, (by show Value.slice P.1 P.2.2.length P.2.1 = _; rw [hg, hlen]), hcap.1, hcap.2, ?_, h2, h7, (P.1, P.2.1, P.2.2.set a v), ?_, h.upP h7 (fun k hk => .inr (by rw [List.mem_singleton.1 hk]; exact hown)) (Cp.upd s.part a v) ?_ hset (fun k hk => .inl ?_) ?_⟩
 ·rw [h1, List.getElem?_map, h.part]; simp [natI, ha]
 ·show Value.slice P.1 (P.2.2.set a v).length P.2.1 = Value.slice P.1 P.2.2.length P.2.1; rw [List.length_set]
 ·show FreshInts B _ P.1 P.2.1 (P.2.2.set a v)
  unfold FreshInts
  rw [hg, List.length_set, List.map_set]; exact h6
 ·have : (Value.slice P.1 (P.2.2.set a v).length P.2.1).ownBlock = some k := hk
  rw [hg] at this; rw [hown]; exact this
 ·rw [show (Is.cell (P.1, P.2.1, P.2.2.set a v)) = P.cell by show Value.slice P.1 (P.2.2.set a v).length P.2.1 = Value.slice P.1 P.2.2.length P.2.1; rw [List.length_set]]
  exact h7.heap h.head (by simpa using fun e => hne e.symm)
/-- A part more. -/
theorem SearchIs.more (h : SearchIs B w sb ga gn gc n A M K P la lc VS s) {S : List Nat} (hc : Chg S w w') (hS : ∀ k ∈ S, k = sb ∨ (Value.slice la VS.length lc).ownBlock = some k) {X : Is} {la' : Option Addr} {lc' : Nat} {l : List Nat} (hX : FreshInts B w X.1 X.2.1 X.2.2) (hl : X.2.2 = natI l) (xA : Apt A X) (xM : Apt M X) (xK : Apt K X) (xP : Apt P X) (xV : ∀ q ∈ VS, Apt q X)
  (hr : w'.ownsRow B 34 1 (.slice la' (VS.length + 1) lc') (VS.length + 1) (VS.map Is.cell ++ [X.cell])) (hh : w'.heap[sb]? = some (.cells #[.slice ga gn gc, A.cell, M.cell, K.cell, P.cell, .slice la' (VS.length + 1) lc', .int .i64 s.clock] 161 (0, 0))) :
  SearchIs B w' sb ga gn gc n A M K P la' lc' (VS ++ [X]) { s with parts := s.parts ++ [l] } := by
 have hn : ∀ {Y : Is}, FreshInts B w Y.1 Y.2.1 Y.2.2 → FreshInts B w' Y.1 Y.2.1 Y.2.2 := fun hY => hc.row hY (fun k hk hm => by
  rcases hS k hm with e | e
  ·rw [e] at hk; exact row_ne_search hY h.head hk
  ·exact row_notrow h.own.row e (by decide) _ _ _ _ _ hY hk)
 have hlen : (VS ++ [X]).length = VS.length + 1 := by simp
 have hv : ∀ {Y : Is}, (∀ q ∈ VS, Apt Y q) → Apt Y X → ∀ q ∈ VS ++ [X], Apt Y q := fun h1 h2 q hq => by
  rcases List.mem_append.1 hq with k | k
  ·exact h1 q k
  ·rw [List.mem_singleton.1 k]; exact h2
 refine ⟨h.low, by rw [hlen]; exact hh, hn h.rA, hn h.rM, hn h.rK, hn h.rP, ⟨?_, fun q hq => ?_, ?_⟩, h.aAM, h.aAK, h.aAP, h.aMK, h.aMP, h.aKP, hv h.vA xA, hv h.vM xM, hv h.vK xK, hv h.vP xP, h.aside, h.met, h.back, h.part, ?_⟩
 ·rw [hlen, List.map_append]; exact hr
 ·rcases List.mem_append.1 hq with k | k
  ·exact hn (h.own.each q k)
  ·rw [List.mem_singleton.1 k]; exact hn hX
 ·rw [List.pairwise_append]
  refine ⟨h.own.apart, List.pairwise_singleton _ _, fun q hq r hr k hk hk2 => ?_⟩
  rw [List.mem_singleton.1 hr] at hk2
  exact xV q hq k hk hk2
 ·rw [List.map_append, h.parts, List.map_append]
  simp [hl]
end
end Go.Proofs.YtlklmpjakeedcaaGreatDoor

/-
  Copies of a grammar's rules, and of one node, in memory of their own.
  Conditions: the lists read as data; they are within the reach.
-/
import Derived.Test.YtibgfgfmljhimaaGCopy
set_option linter.unusedVariables false
set_option linter.unusedSimpArgs false
namespace Go.Proofs.Ytibgfgfmljhimaa
open Go.RowKit Go.MapKept Go.Shelf

theorem flat_len {α β : Type} (f : α → List β) (m : Nat) (hf : ∀ a, (f a).length = m) (l : List α) : (l.flatMap f).length = l.length * m := by
  induction l with
  | nil => simp
  | cons a l ih => simp [hf, ih, Nat.add_mul, Nat.add_comm]
theorem flat_get {α β : Type} (f : α → List β) (m : Nat) (hf : ∀ a, (f a).length = m) : ∀ (l : List α) (i r : Nat), r < m → (l.flatMap f)[i * m + r]? = l[i]?.bind fun a => (f a)[r]?
  | [], i, r, h => by simp
  | a :: l, 0, r, h => by
    simp only [List.flatMap_cons, Nat.zero_mul, Nat.zero_add, List.getElem?_cons_zero, Option.bind_some]
    rw [List.getElem?_append_left (by rw [hf]; exact h)]
  | a :: l, i + 1, r, h => by
    simp only [List.flatMap_cons, List.getElem?_cons_succ]
    rw [List.getElem?_append_right (by rw [hf, Nat.add_mul]; omega), hf, ← flat_get f m hf l i r h]
    congr 1
    rw [Nat.add_mul]
    omega

/-! ### Rules -/
def Rl.cells (r : Rl) : List Value := [.string r.name, .int .i64 r.body]
def rulesCells (rs : List Rl) : List Value := rs.flatMap Rl.cells
theorem rules_some {w : World} {b : Addr} {rs : List Rl} (h : Rules w (some b) rs) : ∀ j u, (rulesCells rs)[j]? = some u → w.cell? (b.add j) = some u := by
  intro j u hu
  have e : j = j / 2 * 2 + j % 2 := by omega
  rw [e, rulesCells, flat_get Rl.cells 2 (fun _ => rfl) rs _ _ (Nat.mod_lt _ (by decide))] at hu
  cases hr : rs[j / 2]? with
  | none => rw [hr] at hu; cases hu
  | some r =>
    rw [hr] at hu
    simp only [Option.bind_some] at hu
    obtain ⟨hj, hzj⟩ := List.getElem?_eq_some_iff.1 hr
    obtain ⟨b', o, h1, h2, h3⟩ := h (j / 2) hj
    simp only [Option.some.injEq] at h1
    subst h1
    rw [hzj] at h2 h3
    rw [Addr.add_lit]
    rcases (show j % 2 = 0 ∨ j % 2 = 1 by omega) with h0 | h0
    · rw [h0] at hu
      rw [show o + j = o + j / 2 * 2 by omega, h2]
      exact hu
    · rw [h0] at hu
      rw [show o + j = o + j / 2 * 2 + 1 by omega, h3]
      exact hu
theorem rules_none {w : World} {rs : List Rl} (h : Rules w none rs) : rs = [] := by
  cases rs with
  | nil => rfl
  | cons z zs => obtain ⟨b, o, h1, _⟩ := h 0 (by simp); cases h1
theorem rulesCells_len (rs : List Rl) : (rulesCells rs).length = rs.length * 2 := flat_len Rl.cells 2 (fun _ => rfl) rs
theorem rules_row {w : World} {a : Option Addr} {n c : Nat} {rs : List Rl} (h : w.ownsRow 0 46 2 (.slice a n c) rs.length (rulesCells rs)) : Rules w a rs ∧ n = rs.length ∧ n ≤ c ∧ c ≤ maxLen := by
  rcases h.2 with ⟨h0, h1⟩ | ⟨g, cap, cur, h0, hb, hg, hn, hc, hs, ht⟩
  · cases h0
    obtain rfl := List.eq_nil_of_length_eq_zero h1
    exact ⟨(fun i hi => by cases hi), rfl, Nat.le_refl _, Nat.zero_le _⟩
  · cases h0
    have key : ∀ (j : Nat) (u : Value), (rulesCells rs)[j]? = some u → cur[j]? = some u := by
      intro j u hu
      rw [← ht, List.getElem?_take] at hu
      split at hu
      · simpa using hu
      · cases hu
    refine ⟨fun i hi => ⟨g, 0, rfl, ?_, ?_⟩, rfl, hn, hc⟩
    · rw [Nat.zero_add, cell_of_cells hg]
      refine key _ _ ?_
      have := flat_get Rl.cells 2 (fun _ => rfl) rs i 0 (by decide)
      rw [Nat.add_zero] at this
      rw [rulesCells, this]
      simp [Rl.cells, hi]
    · rw [Nat.zero_add, cell_of_cells hg]
      refine key _ _ ?_
      rw [rulesCells, flat_get Rl.cells 2 (fun _ => rfl) rs i 1 (by decide)]
      simp [Rl.cells, hi]

/-- A list of rules, new. -/
def NewRules (w : World) (rs : List Rl) (e : Ending) (w' : World) : Prop :=
  ∃ a c, e = .returned (.slice a rs.length c) ∧ Rules w' a rs ∧ rs.length ≤ c ∧ c ≤ maxLen ∧ Chg [] w w'

set_option maxRecDepth 100000 in
set_option maxHeartbeats 1000000 in
theorem CopyRules_any (w : World) (a : Option Addr) (n c : Nat) (rs : List Rl) (hn : n = rs.length) (hs : n ≤ 300) (hz : Rules w a rs) :
    Calls Try.prog 79 #[.slice a n c] w (NewRules w rs) := by
  obtain ⟨i0, hi, hz0, hz1, hz2⟩ := info_parts Try.infoRule
  cases a with
  | none =>
    obtain rfl := rules_none hz
    obtain rfl : n = 0 := by simpa using hn
    clear hz hn
    have hnil : w.ownsRow 0 46 2 (.slice none 0 0) 0 [] := World.ownsRow_nil _ _ _ _
    have HN := Lib.hid hnil
    clear hnil
    go_enter Try.func79, Try.ntmps79
    go_wp2_with (at_builtin; refine wpList_append_nil rfl _ _ 22 rfl 0 46 i0 2 c Try.underlying22 hi (.slice none 0 0) 0 [] rfl HN.out rfl ?_)
    go_ret
    exact ⟨none, 0, rfl, (fun i hi => by cases hi), Nat.le_refl _, Nat.zero_le _, Chg.refl _ _⟩
  | some b =>
    have hnil : w.ownsRow 0 46 2 (.slice none 0 0) 0 [] := World.ownsRow_nil _ _ _ _
    have hl : (rulesCells rs).length = n * 2 := by rw [rulesCells_len, hn]
    have h1 : ∀ u ∈ rulesCells rs, u.oneCell' = true := by
      intro u hu
      obtain ⟨z, _, hz⟩ := List.mem_flatMap.1 hu
      simp only [Rl.cells, List.mem_cons, List.not_mem_nil, or_false] at hz
      rcases hz with rfl | rfl <;> rfl
    have h2 : 0 + n ≤ maxLen ∧ (0 + n) * 24 ≤ 140737488355328 := by simp only [maxLen]; omega
    have HN := Lib.hid (And.intro hnil (And.intro hl (And.intro (rules_some hz) (And.intro h1 (And.intro h2 hn)))))
    clear hnil hl h1 h2 hz hn
    go_enter Try.func79, Try.ntmps79
    go_wp2_with (at_builtin; refine wpList_append_row rfl _ _ 22 rfl 46 i0 _ 2 24 Try.underlying22 hi hz0 hz1 hz2 rfl (by decide) (.slice none 0 0) 0 [] rfl HN.out.1 b n c (rulesCells rs) rfl HN.out.2.1 HN.out.2.2.1 HN.out.2.2.2.1 HN.out.2.2.2.2.1.1 HN.out.2.2.2.2.1.2 ?_; intro a' c' w1 hr1 hg1 hk1; have HW := Lib.hid (And.intro hr1 hg1); clear hr1 hg1 hk1)
    go_ret
    have hn := HN.out.2.2.2.2.2
    obtain ⟨hr1, hg1⟩ := HW.out
    simp only [Nat.zero_add, List.nil_append] at hr1 ⊢
    subst hn
    obtain ⟨k1, k2, k3, k4⟩ := rules_row hr1
    exact ⟨a', c', rfl, k1, k3, k4, (Chg.refl _ _).grown hg1 (fun k hk => by cases hk)⟩

/-! ### One node -/
theorem nine_set {w : World} {b : Nat} {v0 v1 v2 v3 v4 v5 v6 v7 v8 : Value} {t : TypeId} {m : Nat × Nat} (h : w.heap[b]? = some (.cells #[v0, v1, v2, v3, v4, v5, v6, v7, v8] t m)) (u0 u1 u2 u3 u4 u5 u6 u7 u8 : Value) :
    ∃ w', w' = (((((((((w.setCell ⟨b, 0, none⟩ u0).setCell ⟨b, 1, none⟩ u1).setCell ⟨b, 2, none⟩ u2).setCell ⟨b, 3, none⟩ u3).setCell ⟨b, 4, none⟩ u4).setCell ⟨b, 5, none⟩ u5).setCell ⟨b, 6, none⟩ u6).setCell ⟨b, 7, none⟩ u7).setCell ⟨b, 8, none⟩ u8) ∧ w'.heap[b]? = some (.cells #[u0, u1, u2, u3, u4, u5, u6, u7, u8] t m) ∧ Chg [b] w w' := by
  refine ⟨_, rfl, ?_, ?_⟩
  · have z1 := heap_setCell_same h 0 u0
    have z2 := heap_setCell_same z1 1 u1
    have z3 := heap_setCell_same z2 2 u2
    have z4 := heap_setCell_same z3 3 u3
    have z5 := heap_setCell_same z4 4 u4
    have z6 := heap_setCell_same z5 5 u5
    have z7 := heap_setCell_same z6 6 u6
    have z8 := heap_setCell_same z7 7 u7
    have z9 := heap_setCell_same z8 8 u8
    rw [z9]
    simp
  · exact (((((((((Chg.refl [b] w).setCell (p := ⟨b, 0, none⟩) (.inl (by simp)) u0).setCell (p := ⟨b, 1, none⟩) (.inl (by simp)) u1).setCell (p := ⟨b, 2, none⟩) (.inl (by simp)) u2).setCell (p := ⟨b, 3, none⟩) (.inl (by simp)) u3).setCell (p := ⟨b, 4, none⟩) (.inl (by simp)) u4).setCell (p := ⟨b, 5, none⟩) (.inl (by simp)) u5).setCell (p := ⟨b, 6, none⟩) (.inl (by simp)) u6).setCell (p := ⟨b, 7, none⟩) (.inl (by simp)) u7).setCell (p := ⟨b, 8, none⟩) (.inl (by simp)) u8
def NewNode (w : World) (x : Nd) (e : Ending) (w' : World) : Prop :=
  ∃ a c, e = .returned (.agg (x.cells a x.kids.length c)) ∧ OwnInts w' (.slice a x.kids.length c) x.kids ∧ Chg [] w w'

set_option maxRecDepth 100000 in
set_option maxHeartbeats 1000000 in
theorem CopyNode_any (w : World) (x : Nd) (a : Option Addr) (n c : Nat) (hn : n = x.kids.length) (hs : n ≤ 17592186044416) (hz : Ints w a x.kids) :
    Calls Try.prog 128 #[.agg (x.cells a n c)] w (NewNode w x) := by
  have HN := Lib.hid (And.intro hn (And.intro hs hz))
  clear hn hs hz
  unfold Nd.cells
  go_enter Try.func128, Try.ntmps128
  go_wp2_with fail
  refine (CopyInts_any _ _ _ _ _ HN.out.1 HN.out.2.1 (HN.out.2.2.keep (((Chg.refl [] w).alloc _).alloc _).kp)).mono ?_
  rintro e w3 ⟨a', c', rfl, h1, h2⟩
  have hb0 := h2.heap (heap_alloc_lt (heap_alloc_same _ _) _) (by simp)
  have hb1 := h2.heap (heap_alloc_same _ _) (by simp)
  have hc := (((Chg.refl [] w).alloc _).alloc _).tr0 h2
  have hl := h2.size
  simp only [World.size_alloc] at hb1 hl
  have H := Lib.hid (And.intro h1 (And.intro hc (And.intro hb0 hb1)))
  clear h1 h2 hc hb0 hb1
  obtain ⟨x0, x1, x2, x3, x4, x5, x6, x7, x8⟩ := cells9 H.out.2.2.1
  have f8 := free_of_cells H.out.2.2.1 8
  obtain ⟨y0, y1, y2, y3, y4, y5, y6, y7, y8⟩ := cells9 H.out.2.2.2
  have g0 := free_of_cells H.out.2.2.2 0
  have g1 := free_of_cells H.out.2.2.2 1
  have g2 := free_of_cells H.out.2.2.2 2
  have g3 := free_of_cells H.out.2.2.2 3
  have g4 := free_of_cells H.out.2.2.2 4
  have g5 := free_of_cells H.out.2.2.2 5
  have g6 := free_of_cells H.out.2.2.2 6
  have g7 := free_of_cells H.out.2.2.2 7
  have g8 := free_of_cells H.out.2.2.2 8
  go_wp2_with fail
  have z0 := heap_set_ne (c := w.heap.size) (i := 8) (u := .slice a' x.kids.length c') H.out.2.2.2 (by omega)
  obtain ⟨w4, e4, z, hch⟩ := nine_set z0 (.int .i64 x.k) (.int .u64 x.c0) (.int .u64 x.c1) (.int .u64 x.c2) (.int .u64 x.c3) (.string x.s) (.int .i64 x.r) (.int .i64 x.l) (.slice a' x.kids.length c')
  rw [← e4]
  clear e4 z0 x0 x1 x2 x3 x4 x5 x6 x7 x8 y0 y1 y2 y3 y4 y5 y6 y7 y8 f8 g0 g1 g2 g3 g4 g5 g6 g7 g8
  have hch := ((Chg.refl [w.heap.size, w.heap.size + 1] w3).setCell (p := ⟨w.heap.size, 8, none⟩) (.inl (by simp)) (.slice a' x.kids.length c')).trans hch (fun j hj => .inl (by simp at hj; simp [hj]))
  obtain ⟨q0, q1, q2, q3, q4, q5, q6, q7, q8⟩ := cells9 z
  have hTl := lt_of_block z
  refine bodyPost_ret (v := .agg #[.int .i64 x.k, .int .u64 x.c0, .int .u64 x.c1, .int .u64 x.c2, .int .u64 x.c3, .string x.s, .int .i64 x.r, .int .i64 x.l, .slice a' x.kids.length c']) (by simp [results, Try.results128, go_sem, q0, q1, q2, q3, q4, q5, q6, q7, q8, hTl]) rfl ?_
  refine ⟨a', c', rfl, hch.rowOf H.out.1 ?_, H.out.2.1.trans hch ?_⟩
  · intro k hk
    simp only [List.mem_cons, List.not_mem_nil, or_false] at hk
    rcases hk with rfl | rfl
    · exact NotRow.of_cells H.out.2.2.1 (by decide)
    · exact NotRow.of_cells H.out.2.2.2 (by decide)
  · intro k hk
    simp only [List.mem_cons, List.not_mem_nil, or_false] at hk
    rcases hk with rfl | rfl <;> right <;> omega
end Go.Proofs.Ytibgfgfmljhimaa

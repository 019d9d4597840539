/-
  A grammar in memory of one's own: what it is, what leaves it as it is, how it grows by a node, how a cell of it is written.
  Conditions: none.
-/
import Derived.Test.YtlklmpjakeedcaaGreatDoorSOrNuC
import Derived.Maps.AppendAt
import Derived.Laws.MakeOwn
set_option linter.unusedVariables false
set_option linter.unusedSimpArgs false
namespace Go.Proofs.YtlklmpjakeedcaaGreatDoor
open Go.RowKit Go.MapKept Go.Shelf

/-- Rules, nodes and each node's kids in rows of their own, all beyond B. -/
structure OwnG (B : Nat) (w : World) (b1 : Option Addr) (d1 : Nat) (b2 : Option Addr) (d2 : Nat) (L : List Cp) (rs : List Rl) : Prop where
  rules : FreshRules B w b1 d1 rs
  nodes : w.ownsRow B 65 9 (.slice b2 L.length d2) L.length (nodesCells L)
  kids : ∀ p ∈ L, FreshInts B w p.2.1 p.2.2 p.1.kids
  apart : L.Pairwise fun q p => ∀ i j, q.own = some i → p.own = some j → i < j
theorem OwnG.gram {B : Nat} {w : World} {b1 : Option Addr} {d1 : Nat} {b2 : Option Addr} {d2 : Nat} {L : List Cp} {rs : List Rl} (h : OwnG B w b1 d1 b2 d2 L rs) (wf : Gr.Wf ⟨rs, L.map (·.1)⟩) : GramAt w b1 rs.length d1 b2 L.length d2 ⟨rs, L.map (·.1)⟩ := by
  obtain ⟨k1, k2, k3, k4⟩ := rules_row (row_base h.rules (Nat.zero_le _))
  obtain ⟨m1, m2, m3, m4⟩ := nodes_row (row_base h.nodes (Nat.zero_le _)) (fun p hp => (h.kids p hp).own)
  exact ⟨rfl, k3, k4, k1, by simp, m3, m4, m1, wf⟩
/-- What is no row of it is changed. -/
theorem OwnG.chg {B : Nat} {w w' : World} {S : List Nat} {b1 : Option Addr} {d1 : Nat} {b2 : Option Addr} {d2 : Nat} {L : List Cp} {rs : List Rl} (h : OwnG B w b1 d1 b2 d2 L rs) (hc : Chg S w w')
    (hS : ∀ k ∈ S, NotRow w 53 k ∧ NotRow w 65 k ∧ NotRow w 3 k) : OwnG B w' b1 d1 b2 d2 L rs :=
  ⟨hc.rowOf h.rules (fun k hk => (hS k hk).1), hc.rowOf h.nodes (fun k hk => (hS k hk).2.1), fun p hp => hc.rowOf (h.kids p hp) (fun k hk => (hS k hk).2.2), h.apart⟩
theorem OwnG.chg0 {B : Nat} {w w' : World} {b1 : Option Addr} {d1 : Nat} {b2 : Option Addr} {d2 : Nat} {L : List Cp} {rs : List Rl} (h : OwnG B w b1 d1 b2 d2 L rs) (hc : Chg [] w w') : OwnG B w' b1 d1 b2 d2 L rs := h.chg hc (by simp)
theorem OwnG.stays (B0 B : Nat) (b1 : Option Addr) (d1 : Nat) (b2 : Option Addr) (d2 : Nat) (L : List Cp) (rs : List Rl) : Stays B0 fun W => OwnG B W b1 d1 b2 d2 L rs :=
  ⟨fun h hc => h.chg0 hc, fun h ht => ⟨(Stays.row B0 _ _ _ _ _ _).turn h.rules ht, (Stays.row B0 _ _ _ _ _ _).turn h.nodes ht, fun p hp => (Stays.row B0 _ _ _ _ _ _).turn (h.kids p hp) ht, h.apart⟩⟩
/-- It lies apart from what lay below B. -/
theorem OwnG.below {B B' : Nat} {w : World} {b1 : Option Addr} {d1 : Nat} {b2 : Option Addr} {d2 : Nat} {L : List Cp} {rs : List Rl} (h : OwnG B w b1 d1 b2 d2 L rs) (hB : B' ≤ B) : OwnG B' w b1 d1 b2 d2 L rs :=
  ⟨row_base h.rules hB, row_base h.nodes hB, fun p hp => row_base (h.kids p hp) hB, h.apart⟩
/-- Blocks below B are changed. -/
theorem OwnG.under {B : Nat} {w w' : World} {S : List Nat} {b1 : Option Addr} {d1 : Nat} {b2 : Option Addr} {d2 : Nat} {L : List Cp} {rs : List Rl} (h : OwnG B w b1 d1 b2 d2 L rs) (hc : Chg S w w') (hS : ∀ k ∈ S, k < B) : OwnG B w' b1 d1 b2 d2 L rs := by
  have key : ∀ {e size n : Nat} {v : Value} {xs : List Value}, w.ownsRow B e size v n xs → w'.ownsRow B e size v n xs := fun h1 => hc.row h1 (fun k hk hm => by have := (row_beyond h1 hk).1; have := hS k hm; omega)
  exact ⟨key h.rules, key h.nodes, fun p hp => key (h.kids p hp), h.apart⟩
/-- The node's row, behind a node more. -/
theorem OwnG.snoc {B : Nat} {w w1 : World} {b1 : Option Addr} {d1 : Nat} {b2 b2' : Option Addr} {d2 d2' : Nat} {L : List Cp} {rs : List Rl} {p : Cp} (h : OwnG B w b1 d1 b2 d2 L rs) (hp : FreshInts B w p.2.1 p.2.2 p.1.kids) (ha : ∀ q ∈ L, ∀ i j, q.own = some i → p.own = some j → i < j)
    (hr : w1.ownsRow B 65 9 (.slice b2' (L.length + 1) d2') (L.length + 1) (nodesCells L ++ p.cells)) (hg : w.grownBy w1 (Value.slice b2 L.length d2).ownBlock) : OwnG B w1 b1 d1 b2' d2' (L ++ [p]) rs := by
  have hc : Chg (Value.slice b2 L.length d2).ownBlock.toList w w1 := (Chg.refl _ w).grown hg (fun k hk => .inl (by rw [hk]; simp))
  have hS : ∀ e, 65 ≠ e → ∀ k ∈ (Value.slice b2 L.length d2).ownBlock.toList, NotRow w e k := by
    intro e he k hk
    simp only [Option.mem_toList] at hk
    exact row_notrow h.nodes hk he
  refine ⟨hc.rowOf h.rules (hS _ (by decide)), ?_, ?_, ?_⟩
  · have : nodesCells (L ++ [p]) = nodesCells L ++ p.cells := by rw [nodesCells, nodesCells, List.flatMap_append, List.flatMap_singleton]
    rw [this, List.length_append]; exact hr
  · intro q hq
    rcases List.mem_append.1 hq with hq | hq
    · exact hc.rowOf (h.kids q hq) (hS _ (by decide))
    · simp only [List.mem_singleton] at hq
      subst hq
      exact hc.rowOf hp (hS _ (by decide))
  · rw [List.pairwise_append]
    exact ⟨h.apart, List.pairwise_singleton _ _, fun q hq r hr => by simp only [List.mem_singleton] at hr; subst hr; exact ha q hq⟩
theorem keepsFrom_of_chg {B : Nat} {S : List Nat} {A A' : World} (h : Chg S A A') (hS : ∀ k ∈ S, k < B ∨ ∃ cur t m, A.heap[k]? = some (.cells cur t m)) : KeepsFrom B A A' :=
  ⟨h.size, fun k o hB hk ho => h.heap hk (fun hm => by
    rcases hS k hm with h1 | ⟨cur, t, m, h1⟩
    · omega
    · rw [hk] at h1; cases h1; cases ho)⟩
end Go.Proofs.YtlklmpjakeedcaaGreatDoor
set_option linter.unusedVariables false
set_option linter.unusedSimpArgs false
namespace Go.Proofs.YtlklmpjakeedcaaGreatDoor
open Go.RowKit Go.MapKept Go.Shelf
attribute [local go_sem] Oper.semAt_some

/-- A grammar of one's own, new. -/
def DupG (w : World) (g : Gr) (e : Ending) (w' : World) : Prop :=
  ∃ b1 d1 b2 d2 L, e = .returned (.agg #[.slice b1 g.rules.length d1, .slice b2 g.nodes.length d2]) ∧ L.map (·.1) = g.nodes ∧ OwnG w.heap.size w' b1 d1 b2 d2 L g.rules ∧ Chg [] w w'

/-- Between two rounds. -/
structure DupI (w : World) (Br Bo Bl : Nat) (vl : Value) (b1 : Option Addr) (d1 : Nat) (g : Gr) (pre : List Cp) (W : World) : Prop where
  own : ∃ a2 c2, W.heap[Bo]? = some (.cells #[.slice b1 g.rules.length d1, .slice a2 pre.length c2] 31 (0, 0)) ∧ OwnG w.heap.size W b1 d1 a2 c2 pre g.rules
  at_ : pre.map (·.1) = g.nodes.take pre.length
  len : pre.length ≤ g.nodes.length
  res : W.heap[Br]? = some (.cells #[.slice none 0 0, .slice none 0 0] 31 (0, 0))
  lst : W.heap[Bl]? = some (.cells #[vl] 29 (0, 0))
  chg : Chg [] w W
theorem DupI.stays {w : World} {Br Bo Bl : Nat} {vl : Value} {b1 : Option Addr} {d1 : Nat} {g : Gr} {pre : List Cp} {B : Nat} (hB : w.heap.size ≤ B) : Stays B (DupI w Br Bo Bl vl b1 d1 g pre) := by
  refine ⟨fun h hc => ?_, fun h ht => ?_⟩
  · obtain ⟨⟨a2, c2, h1, h2⟩, h3, h4, h5, h7, h6⟩ := h
    exact ⟨⟨a2, c2, hc.heap h1 (by simp), h2.chg0 hc⟩, h3, h4, hc.heap h5 (by simp), hc.heap h7 (by simp), h6.tr0 hc⟩
  · obtain ⟨⟨a2, c2, h1, h2⟩, h3, h4, h5, h7, h6⟩ := h
    exact ⟨⟨a2, c2, ht.heap h1 rfl, (OwnG.stays B _ _ _ _ _ _ _).turn h2 ht⟩, h3, h4, ht.heap h5 rfl, ht.heap h7 rfl, (Stays.since B [] w hB).turn h6 ht⟩
theorem CopyX.stays (B n₀ : Nat) (ns : List Nd) (pre : List Cp) (p : Cp) : Stays B (CopyX n₀ ns pre p) :=
  (Stays.pure _).and ((Stays.row B _ _ _ _ _ _).and (Stays.pure _))

end Go.Proofs.YtlklmpjakeedcaaGreatDoor
set_option linter.unusedVariables false
set_option linter.unusedSimpArgs false
namespace Go.Proofs.YtlklmpjakeedcaaGreatDoor
open Go.RowKit Go.MapKept Go.Shelf

set_option maxRecDepth 100000 in
set_option maxHeartbeats 1000000 in
theorem CopyIntsF_any (w : World) (a : Option Addr) (n c : Nat) (zs : List Int) (hn : n = zs.length) (hs : n ≤ 17592186044416) (hz : Ints w a zs) :
    Calls Tryz.prog 140 #[.slice a n c] w (ClonedInts w zs) := by
  obtain ⟨i0, hi, hz0, hz1, hz2⟩ := info_parts Tryz.infoInt
  cases a with
  | none =>
    obtain rfl := ints_none hz
    obtain rfl : n = 0 := by simpa using hn
    clear hz hn
    have hnil : w.ownsRow w.heap.size 3 1 (.slice none 0 0) 0 [] := World.ownsRow_nil _ _ _ _
    have HN := Lib.hid hnil
    clear hnil
    go_enter Tryz.func140, Tryz.ntmps140
    go_wp2_with (at_builtin; refine wpList_append_nil rfl _ _ 34 rfl w.heap.size 3 i0 1 c Tryz.underlying34 hi (.slice none 0 0) 0 [] rfl HN.out rfl ?_)
    go_ret
    exact ⟨none, 0, rfl, HN.out, Chg.refl _ _⟩
  | some b =>
    have hl : (zs.map (Value.int .i64)).length = n * 1 := by simp [hn]
    have h1 : ∀ u ∈ zs.map (Value.int .i64), u.oneCell' = true := by
      intro u hu
      obtain ⟨z, _, rfl⟩ := List.mem_map.1 hu
      rfl
    have h2 : 0 + n ≤ maxLen ∧ (0 + n) * 8 ≤ 140737488355328 := by simp only [maxLen]; omega
    have HN := Lib.hid (And.intro hl (And.intro (ints_some hz) (And.intro h1 (And.intro h2 hn))))
    clear hl h1 h2 hz hn
    go_enter Tryz.func140, Tryz.ntmps140
    go_wp2_with (at_builtin; refine wpList_append_own_at _ rfl _ _ 34 rfl w.heap.size 3 i0 _ 1 8 Tryz.underlying34 hi hz0 hz1 hz2 rfl (by decide) (.slice none 0 0) 0 [] rfl (World.ownsRow_nil _ _ _ _) b n c (zs.map (Value.int .i64)) rfl HN.out.1 HN.out.2.1 HN.out.2.2.1 HN.out.2.2.2.1.1 HN.out.2.2.2.1.2 (Nat.le_refl _) ?_; intro v' w1 hown hgrow hnil hblk; obtain ⟨a', c', rfl⟩ := ownsRow_slice hown; have HW := Lib.hid (And.intro hown hgrow); clear hown hgrow hnil hblk)
    go_ret
    obtain ⟨hl, h3, h1, h2, hn⟩ := HN.out
    obtain ⟨hr, hg⟩ := HW.out
    subst hn
    simp only [Nat.zero_add] at hr ⊢
    exact ⟨a', c', rfl, by simpa [FreshInts] using hr, (Chg.refl _ _).grown hg (fun k hk => by cases hk)⟩

def NewNodeF (w : World) (x : Nd) (e : Ending) (w' : World) : Prop :=
  ∃ a c, e = .returned (.agg (x.cells a x.kids.length c)) ∧ FreshInts w.heap.size w' a c x.kids ∧ Chg [] w w'

set_option maxRecDepth 100000 in
set_option maxHeartbeats 1000000 in
theorem CopyNodeF_any (w : World) (x : Nd) (a : Option Addr) (n c : Nat) (hn : n = x.kids.length) (hs : n ≤ 17592186044416) (hz : Ints w a x.kids) :
    Calls Tryz.prog 92 #[.agg (x.cells a n c)] w (NewNodeF w x) := by
  have HN := Lib.hid (And.intro hn (And.intro hs hz))
  clear hn hs hz
  unfold Nd.cells
  go_enter Tryz.func92, Tryz.ntmps92
  go_wp2_with fail
  refine (CopyIntsF_any _ _ _ _ _ HN.out.1 HN.out.2.1 (HN.out.2.2.keep (((Chg.refl [] w).alloc _).alloc _).kp)).mono ?_
  rintro e w3 ⟨a', c', rfl, h1, h2⟩
  have hb0 := h2.heap (heap_alloc_lt (heap_alloc_same _ _) _) (by simp)
  have hb1 := h2.heap (heap_alloc_same _ _) (by simp)
  have hc := (((Chg.refl [] w).alloc _).alloc _).tr0 h2
  have hl := h2.size
  simp only [World.size_alloc] at hb1 hl h1
  have h1 := row_base h1 (show w.heap.size ≤ w.heap.size + 1 + 1 by omega)
  have H := Lib.hid (And.intro h1 (And.intro hc (And.intro hb0 hb1)))
  clear h1 h2 hc hb0 hb1
  obtain ⟨x0, x1, x2, x3, x4, x5, x6, x7, x8⟩ := cells9 H.out.2.2.1
  have f8 := free_of_cells H.out.2.2.1 8
  obtain ⟨y0, y1, y2, y3, y4, y5, y6, y7, y8⟩ := cells9 H.out.2.2.2
  have g0 := free_of_cells H.out.2.2.2 0
  have g1 := free_of_cells H.out.2.2.2 1
  have g2 := free_of_cells H.out.2.2.2 2
  have g3 := free_of_cells H.out.2.2.2 3
  have g4 := free_of_cells H.out.2.2.2 4
  have g5 := free_of_cells H.out.2.2.2 5
  have g6 := free_of_cells H.out.2.2.2 6
  have g7 := free_of_cells H.out.2.2.2 7
  have g8 := free_of_cells H.out.2.2.2 8
  go_wp2_with fail
  have z0 := heap_set_ne (c := w.heap.size) (i := 8) (u := .slice a' x.kids.length c') H.out.2.2.2 (by omega)
  obtain ⟨w4, e4, z, hch⟩ := nine_set z0 (.int .i64 x.k) (.int .u64 x.c0) (.int .u64 x.c1) (.int .u64 x.c2) (.int .u64 x.c3) (.string x.s) (.int .i64 x.r) (.int .i64 x.l) (.slice a' x.kids.length c')
  rw [← e4]
  clear e4 z0 x0 x1 x2 x3 x4 x5 x6 x7 x8 y0 y1 y2 y3 y4 y5 y6 y7 y8 f8 g0 g1 g2 g3 g4 g5 g6 g7 g8
  have hch := ((Chg.refl [w.heap.size, w.heap.size + 1] w3).setCell (p := ⟨w.heap.size, 8, none⟩) (.inl (by simp)) (.slice a' x.kids.length c')).trans hch (fun j hj => .inl (by simp at hj; simp [hj]))
  obtain ⟨q0, q1, q2, q3, q4, q5, q6, q7, q8⟩ := cells9 z
  have hTl := lt_of_block z
  refine bodyPost_ret (v := .agg #[.int .i64 x.k, .int .u64 x.c0, .int .u64 x.c1, .int .u64 x.c2, .int .u64 x.c3, .string x.s, .int .i64 x.r, .int .i64 x.l, .slice a' x.kids.length c']) (by simp [results, Tryz.results92, go_sem, q0, q1, q2, q3, q4, q5, q6, q7, q8, hTl]) rfl ?_
  refine ⟨a', c', rfl, hch.rowOf H.out.1 ?_, H.out.2.1.trans hch ?_⟩
  · intro k hk
    simp only [List.mem_cons, List.not_mem_nil, or_false] at hk
    rcases hk with rfl | rfl
    · exact NotRow.of_cells H.out.2.2.1 (by decide)
    · exact NotRow.of_cells H.out.2.2.2 (by decide)
  · intro k hk
    simp only [List.mem_cons, List.not_mem_nil, or_false] at hk
    rcases hk with rfl | rfl <;> right <;> omega

/-- Nodes in rows of their own. -/
def NewBody (w : World) (ns : List Nd) (e : Ending) (w' : World) : Prop :=
  ∃ a c L, e = .returned (.slice a ns.length c) ∧ L.map (·.1) = ns ∧ OwnG w.heap.size w' none 0 a c L [] ∧ Chg [] w w'

set_option maxRecDepth 100000 in
set_option maxHeartbeats 2000000 in
theorem CopyNodesF_any (w : World) (a : Option Addr) (n c : Nat) (ns : List Nd) (hn : n = ns.length) (hs : n ≤ 3000) (hr : Nodes w a ns) (hk : ∀ x ∈ ns, x.kids.length ≤ 3000) :
    Calls Tryz.prog 59 #[.slice a n c] w (NewBody w ns) := by
  obtain ⟨i0, hi, hz0, hz1, hz2⟩ := info_parts Tryz.infoNode
  have H := Lib.hid (And.intro hn (And.intro hr hk))
  clear hn hr hk
  go_enter Tryz.func59, Tryz.ntmps59
  go_wp2_with fail
  go_loopg [4, 3] n (fun d iv ov wr => ∃ (k c' : Nat) (a' : Option Addr) (L : List Cp), d = n - k ∧ k ≤ n ∧ iv = .int .i64 k ∧ ov = .slice a' k c' ∧ Hid (L.length = k ∧ L.map (·.1) = ns.take k ∧ OwnG w.heap.size wr none 0 a' c' L [] ∧ Chg [] w wr))
  case atStart => exact ⟨0, 0, none, [], rfl, Nat.zero_le _, rfl, rfl, Lib.hid ⟨rfl, rfl, ⟨World.ownsRow_nil _ _ _ _, World.ownsRow_nil _ _ _ _, by simp, List.Pairwise.nil⟩, Chg.refl _ _⟩⟩
  case round =>
    obtain ⟨k, c', a', L, rfl, hk, rfl, rfl, hcp⟩ := hrel
    obtain ⟨wq, rfl⟩ : ∃ wq, wq = wr := ⟨_, rfl⟩
    by_cases hlt : k < n
    · have hk' : k < ns.length := by have := H.out.1; omega
      obtain ⟨b, o, ak, nk, ck, rfl, hx⟩ := H.out.2.1.keep hcp.out.2.2.2.kp k hk'
      have hkl := H.out.2.2 _ (List.getElem_mem hk')
      obtain ⟨x, hxe⟩ : ∃ x, x = ns[k] := ⟨_, rfl⟩
      rw [← hxe] at hx hkl
      have hbk := World.block_lt_of_cell? _ _ hx.k
      simp only at hbk
      obtain ⟨h0, h1, h2, h3, h4, h5, h6, h7, h8, q1, q2, q3, q4⟩ := hx
      have hcall := CopyNodeF_any wq x ak nk ck q1 (by omega) q4
      unfold Nd.cells at hcall
      have HR := Lib.hid (And.intro hxe (And.intro hcall hkl))
      clear q1 q2 q3 q4 hcall hkl hxe
      go_wp2_with fail
      refine HR.out.2.1.mono ?_
      rintro e w4 ⟨a4, c4, rfl, ho, hc4⟩
      have hc5 := (hc4.alloc (.cells #[.int .i64 x.k, .int .u64 x.c0, .int .u64 x.c1, .int .u64 x.c2, .int .u64 x.c3, .string x.s, .int .i64 x.r, .int .i64 x.l, .slice a4 x.kids.length c4] 65)).alloc (.cells #[.int .i64 x.k, .int .u64 x.c0, .int .u64 x.c1, .int .u64 x.c2, .int .u64 x.c3, .string x.s, .int .i64 x.r, .int .i64 x.l, .slice a4 x.kids.length c4] 65)
      have ho5 : FreshInts wq.heap.size ((w4.alloc (.cells #[.int .i64 x.k, .int .u64 x.c0, .int .u64 x.c1, .int .u64 x.c2, .int .u64 x.c3, .string x.s, .int .i64 x.r, .int .i64 x.l, .slice a4 x.kids.length c4] 65)).alloc (.cells #[.int .i64 x.k, .int .u64 x.c0, .int .u64 x.c1, .int .u64 x.c2, .int .u64 x.c3, .string x.s, .int .i64 x.r, .int .i64 x.l, .slice a4 x.kids.length c4] 65)) a4 c4 x.kids := (World.ownsRow.alloc (World.ownsRow.alloc ho _) _)
      have hown5 := hcp.out.2.2.1.chg0 hc5
      have h1' : ∀ u ∈ (#[.int .i64 x.k, .int .u64 x.c0, .int .u64 x.c1, .int .u64 x.c2, .int .u64 x.c3, .string x.s, .int .i64 x.r, .int .i64 x.l, .slice a4 x.kids.length c4] : Array Value).toList, u.oneCell' = true := by simp [Value.oneCell']
      have h2' : k + 1 ≤ maxLen ∧ (k + 1) * 96 ≤ 140737488355328 := by simp only [maxLen]; omega
      have hnew := cells_at (w := (w4.alloc (.cells #[.int .i64 x.k, .int .u64 x.c0, .int .u64 x.c1, .int .u64 x.c2, .int .u64 x.c3, .string x.s, .int .i64 x.r, .int .i64 x.l, .slice a4 x.kids.length c4] 65)).alloc (.cells #[.int .i64 x.k, .int .u64 x.c0, .int .u64 x.c1, .int .u64 x.c2, .int .u64 x.c3, .string x.s, .int .i64 x.r, .int .i64 x.l, .slice a4 x.kids.length c4] 65)) (heap_alloc_same _ _)
      rw [World.size_alloc] at hnew
      have hnodes5 := hown5.nodes
      rw [hcp.out.1] at hnodes5
      have hcw := hcp.out.2.2.2.tr0 hc5
      have hsz := hcw.size
      have H4 := Lib.hid (And.intro ho5 (And.intro hc5 (And.intro hnodes5 (And.intro h1' (And.intro h2' (And.intro hnew (And.intro hcw (And.intro hsz hown5))))))))
      clear ho hc4 h1' h2' hnew ho5 hc5 hnodes5 hown5 hcw hsz
      unfold Nd.cells
      go_wp2_with (at_builtin; refine wpList_append_own_at _ rfl _ _ 29 rfl w.heap.size 65 i0 _ 9 96 Tryz.underlying29 hi hz0 hz1 hz2 rfl (by decide) (.slice a' k c') k (nodesCells L) rfl H4.out.2.2.1 ⟨w4.heap.size + 1, 0, none⟩ 1 1 (#[.int .i64 x.k, .int .u64 x.c0, .int .u64 x.c1, .int .u64 x.c2, .int .u64 x.c3, .string x.s, .int .i64 x.r, .int .i64 x.l, .slice a4 x.kids.length c4] : Array Value).toList rfl rfl H4.out.2.2.2.2.2.1 H4.out.2.2.2.1 H4.out.2.2.2.2.1.1 H4.out.2.2.2.2.1.2 H4.out.2.2.2.2.2.2.2.1 ?_; intro v' w6 hr1 hg1 hk1 hb1; obtain ⟨a6, c6, rfl⟩ := ownsRow_slice hr1; have HW := Lib.hid (And.intro hr1 (And.intro hg1 hk1)); clear hr1 hg1 hk1 hb1)
      go_roundg (n - (k + 1))
      case measure => omega
      case rel =>
        refine ⟨k + 1, c6, a6, L ++ [(x, a4, c4)], rfl, by omega, by go_num, rfl, Lib.hid ⟨by simp [hcp.out.1], ?_, ?_, ?_⟩⟩
        · rw [List.take_succ_eq_append_getElem hk', ← HR.out.1]; simp [hcp.out.2.1]
        · refine H4.out.2.2.2.2.2.2.2.2.snoc (p := (x, a4, c4)) (row_base H4.out.1 (by have := hcp.out.2.2.2.size; omega)) ?_ ?_ ?_
          · intro q hq i j hi hj
            have h1 := (row_beyond (hcp.out.2.2.1.kids q hq) hi).2.1
            have h2 := (row_beyond H4.out.1 hj).1
            omega
          · have := HW.out.1
            rw [hcp.out.1]
            exact this
          · have := HW.out.2.1
            rw [hcp.out.1]
            exact this
        · have hrow := hcp.out.2.2.1.nodes
          refine H4.out.2.2.2.2.2.2.1.grown HW.out.2.1 (fun j hj => .inr ?_)
          rw [← hcp.out.1] at hj
          exact (row_beyond hrow hj).1
    · obtain rfl : k = n := by omega
      go_wp2
      go_ret
      obtain rfl := H.out.1
      have h1 := hcp.out.2.1
      rw [List.take_length] at h1
      exact ⟨a', c', L, rfl, h1, hcp.out.2.2.1, hcp.out.2.2.2⟩
end Go.Proofs.YtlklmpjakeedcaaGreatDoor
set_option linter.unusedVariables false
set_option linter.unusedSimpArgs false
namespace Go.Proofs.YtlklmpjakeedcaaGreatDoor
open Go.RowKit Go.MapKept

/-- A row without elements, with room. -/
theorem made_row {P : Program} {t e : TypeId} {i : TypeInfo} {z : Value} {size : Nat} (ht : P.underlying t = some (.slice e)) (hi : P.info? e = some i) (hz : i.zero = some z) (hsize : i.size = size) {m : Nat} (hb : i.bytes * m ≤ 281474976710656) (h63 : m ≤ maxLen) :
    ∃ ob, (∀ W : World, (Instr.makeSlice t (.int .i64 0) (.int .i64 (m : Int))).run P W = .ok (.slice (some ⟨W.heap.size, 0, none⟩) 0 m) (W.alloc ob)) ∧ ∀ (W : World) (base : Nat), base ≤ W.heap.size → (W.alloc ob).ownsRow base e size (.slice (some ⟨W.heap.size, 0, none⟩) 0 m) 0 [] := by
  subst hsize
  have h63' : (m : Int) ≤ 9223372036854775807 := by simp only [maxLen] at h63; omega
  have hb' : (i.bytes : Int) * (m : Int) ≤ 281474976710656 := by
    have h : ((i.bytes * m : Nat) : Int) ≤ 281474976710656 := by omega
    rwa [Int.natCast_mul] at h
  refine ⟨.cells (madeCells z.cells (m * i.size)) e, fun W => ?_, fun W base hbase => World.ownsRow_made W _ m hbase h63 (size_madeCells _ _)⟩
  have hr := run_make (P := P) W t e i z ht hi hz .i64 .i64 0 m (Int.le_refl _) (by omega) hb' h63'
  simp only [Int.toNat_zero, Int.toNat_natCast] at hr
  exact hr

/-- 'append(s, x...)': the row's own block grows, or there is a new one and all is as it was. -/
theorem run_append_two {P : Program} (w : World) (base : Nat) (t ty e : TypeId) (i : TypeInfo) (z : Value) (size bytes : Nat) (ht : P.underlying t = some (.slice e)) (hi : P.info? e = some i) (hz : i.zero = some z)
    (hsize : i.size = size) (hby : i.bytes = bytes) (hzs : z.cells.size = size) (hsz : 0 < size) (v : Value) (n : Nat) (xs : List Value) (hown : w.ownsRow base e size v n xs)
    (a : Addr) (m c : Nat) (news : List Value) (hl : news.length = m * size) (hnews : ∀ j u, news[j]? = some u → w.cell? (a.add j) = some u) (h1 : ∀ u ∈ news, u.oneCell' = true)
    (h63 : n + m ≤ maxLen) (hbytes : (n + m) * bytes ≤ 140737488355328) (hbase : base ≤ w.heap.size) :
    ∃ v' w', (Builtin.append_ #[t, t] ty #[v, .slice (some a) m c]).run P w = .ok v' w' ∧ w'.ownsRow base e size v' (n + m) (xs ++ news) ∧ w.grownBy w' v.ownBlock ∧
      ((∃ g cap, v = .slice (some ⟨g, 0, none⟩) n cap ∧ v' = .slice (some ⟨g, 0, none⟩) (n + m) cap) ∨ Chg [] w w' ∧ (v'.ownBlock = none ∨ v'.ownBlock = some w.heap.size)) := by
  obtain ⟨v', w', hr, ho, hg, hn, hb⟩ := run_append_own_at (P := P) w base t ty e i z size bytes ht hi hz hsize hby hzs hsz v n xs hown a m c news hl hnews h1 h63 hbytes hbase
  refine ⟨v', w', hr, ho, hg, ?_⟩
  subst hsize
  subst hby
  have hsmall : n + m ≤ 9223372036854775807 := by simp only [maxLen] at h63; omega
  rcases hown.2 with ⟨rfl, rfl⟩ | ⟨g, cap, cur, rfl, hbg, hgg, hnc, hcm, hcs, htake⟩
  · exact .inr ⟨⟨hg.os, hg.tape, hg.output, hg.size, fun k hk _ => hg.block k hk (by simp [Value.ownBlock])⟩, hb⟩
  · by_cases hroom : n + m ≤ cap
    · have hfit : n * i.size + news.length ≤ cur.size := by rw [hl, hcs, ← Nat.add_mul]; exact Nat.mul_le_mul_right _ hroom
      have hr' := run_append_room (P := P) w t ty e i ht hi g n cap cur hgg a m c news hl hnews h1 hroom hfit
      rw [hr'] at hr
      cases hr
      exact .inl ⟨g, cap, rfl, rfl⟩
    · have holds : ∀ j u, xs[j]? = some u → w.cell? ((⟨g, 0, none⟩ : Addr).add j) = some u := hown.cells (g := g) rfl
      have hr' := run_append_grow (P := P) w t ty e i z ht hi hz ⟨g, 0, none⟩ n cap xs hown.1 holds a m c news hl hnews (by omega) (by omega) (growslice_fits (by omega) hbytes)
      rw [hr'] at hr
      cases hr
      exact .inr ⟨((Chg.refl [] w).drew).alloc _, .inr rfl⟩
theorem wpList_append_two {P : Program} {w : World} {ops : Array Oper} {rest : List Oper} {o : Oper} {a : Act} {Q : Exit → Act → World → Prop} (hgd : o.guard = none) (s x : Operand) (t : TypeId)
    (ho : o.op = .call { callee := .builtin .append, args := #[s, x], argTypes := #[t, t] })
    (base : Nat) (e : TypeId) (i : TypeInfo) (z : Value) (size bytes : Nat) (ht : P.underlying t = some (.slice e)) (hi : P.info? e = some i) (hz : i.zero = some z)
    (hsize : i.size = size) (hby : i.bytes = bytes) (hzs : z.cells.size = size) (hsz : 0 < size)
    (v : Value) (n : Nat) (xs : List Value) (hs : a.eval s = v) (hown : w.ownsRow base e size v n xs)
    (ad : Option Addr) (m c : Nat) (news : List Value) (hx : a.eval x = .slice ad m c) (hl : news.length = m * size) (hnone : ad = none → m = 0) (hnews : ∀ b, ad = some b → ∀ j u, news[j]? = some u → w.cell? (b.add j) = some u) (h1 : ∀ u ∈ news, u.oneCell' = true)
    (h63 : n + m ≤ maxLen) (hbytes : (n + m) * bytes ≤ 140737488355328) (hbase : base ≤ w.heap.size)
    (h : ∀ v' w', w'.ownsRow base e size v' (n + m) (xs ++ news) → w.grownBy w' v.ownBlock → ((∃ g cap, v = .slice (some ⟨g, 0, none⟩) n cap ∧ v' = .slice (some ⟨g, 0, none⟩) (n + m) cap) ∨ Chg [] w w' ∧ (v' = v ∨ v'.ownBlock = none ∨ v'.ownBlock = some w.heap.size)) → wpList P ops Q rest (a.put o.dst v') w') :
    wpList P ops Q (o :: rest) a w := by
  cases ad with
  | none =>
    obtain rfl := hnone rfl
    obtain rfl : news = [] := List.eq_nil_of_length_eq_zero (by simpa using hl)
    refine wpList_append_nil hgd s x t ho base e i size c ht hi v n xs hs hown hx (h v w (by simpa using hown) ⟨rfl, rfl, rfl, Nat.le_refl _, fun _ _ _ => rfl⟩ (.inr ⟨Chg.refl _ _, .inl rfl⟩))
  | some ad =>
    refine wpList_plain hgd fun K hK => ?_
    obtain ⟨v', w', hr, h2, h3, h4⟩ := run_append_two (P := P) w base t o.type e i z size bytes ht hi hz hsize hby hzs hsz v n xs hown ad m c news hl (hnews ad rfl) h1 h63 hbytes hbase
    unfold Oper.wp execOp
    simp only [ho, resolve, invoke, builtin, Sem.run_bind, Sem.run_pure, Result.andThen_ok, List.map_toArray, List.map_cons, List.map_nil, hs, hx, hr]
    exact hK _ _ (h v' w' h2 h3 (h4.imp id fun h5 => ⟨h5.1, .inr h5.2⟩))
/-- A cell of a row of one's own is written. -/
theorem row_put {w : World} {B e size n c g : Nat} {xs : List Value} (h : w.ownsRow B e size (.slice (some ⟨g, 0, none⟩) n c) n xs) {i : Nat} (hi : i < n * size) :
    w.cell? ⟨g, i, none⟩ = xs[i]? ∧ w.frozen? ⟨g, i, none⟩ = false ∧ B ≤ g ∧ (∃ cur, w.heap[g]? = some (.cells cur e (0, 0))) ∧
      ∀ u, (w.setCell ⟨g, i, none⟩ u).ownsRow B e size (.slice (some ⟨g, 0, none⟩) n c) n (xs.set i u) ∧ Chg [g] w (w.setCell ⟨g, i, none⟩ u) := by
  have hl := h.1
  rcases h.2 with ⟨h0, h1⟩ | ⟨g, cap, cur, h0, hb, hg, hn, hcm, hcs, ht⟩
  · cases h0
  cases h0
  refine ⟨?_, free_of_cells hg _, hb, ⟨cur, hg⟩, fun u => ⟨⟨by rw [List.length_set]; exact hl, .inr ⟨g, c, _, rfl, hb, heap_setCell_same hg _ _, hn, hcm, by simpa using hcs, ?_⟩⟩, (Chg.refl [g] w).setCell (p := ⟨g, i, none⟩) (.inl (by simp)) _⟩⟩
  · rw [cell_of_cells hg, ← ht, List.getElem?_take, if_pos hi]
    simp
  · rw [Array.toList_setIfInBounds, List.take_set, ht]
/-- A row's first elements. -/
theorem row_take {w : World} {B e size n c : Nat} {b : Option Addr} {xs : List Value} (h : w.ownsRow B e size (.slice b n c) n xs) {m : Nat} (hm : m ≤ n) (hbn : b ≠ none) :
    w.ownsRow B e size (.slice b m c) m (xs.take (m * size)) := by
  have hl := h.1
  rcases h.2 with ⟨h0, h1⟩ | ⟨g, cap, cur, h0, hbg, hg, hn, hcm, hcs, ht⟩
  · cases h0
    exact absurd rfl hbn
  cases h0
  have hms : m * size ≤ n * size := Nat.mul_le_mul_right _ hm
  refine ⟨by rw [List.length_take, hl]; omega, .inr ⟨g, c, cur, rfl, hbg, hg, by omega, hcm, hcs, ?_⟩⟩
  rw [← ht, List.take_take, Nat.min_eq_left hms]
end Go.Proofs.YtlklmpjakeedcaaGreatDoor

/-
  The kit's copies of nodes, in memory of their own, row by row.
  Conditions: the lists read as data; they are small.
-/
import Derived.Test.YtlklmpjakeedcaaGreatDoorSTlGRefR
set_option linter.unusedVariables false
set_option linter.unusedSimpArgs false
namespace Go.Proofs.YtlklmpjakeedcaaGreatDoor
open Go.RowKit Go.MapKept Go.Shelf

set_option maxRecDepth 100000 in
set_option maxHeartbeats 1000000 in
theorem CopyIntsF_any (w : World) (a : Option Addr) (n c : Nat) (zs : List Int) (hn : n = zs.length) (hs : n ≤ 17592186044416) (hz : Ints w a zs) :
    Calls Tryz.prog 140 #[.slice a n c] w (ClonedInts w zs) := by
  obtain ⟨i0, hi, hz0, hz1, hz2⟩ := info_parts Tryz.infoInt
  cases a with
  | none =>
    obtain rfl := ints_none hz
    obtain rfl : n = 0 := by simpa using hn
    clear hz hn
    have hnil : w.ownsRow w.heap.size 3 1 (.slice none 0 0) 0 [] := World.ownsRow_nil _ _ _ _
    have HN := Lib.hid hnil
    clear hnil
    go_enter Tryz.func140, Tryz.ntmps140
    go_wp2_with (at_builtin; refine wpList_append_nil rfl _ _ 34 rfl w.heap.size 3 i0 1 c Tryz.underlying34 hi (.slice none 0 0) 0 [] rfl HN.out rfl ?_)
    go_ret
    exact ⟨none, 0, rfl, HN.out, Chg.refl _ _⟩
  | some b =>
    have hl : (zs.map (Value.int .i64)).length = n * 1 := by simp [hn]
    have h1 : ∀ u ∈ zs.map (Value.int .i64), u.oneCell' = true := by
      intro u hu
      obtain ⟨z, _, rfl⟩ := List.mem_map.1 hu
      rfl
    have h2 : 0 + n ≤ maxLen ∧ (0 + n) * 8 ≤ 140737488355328 := by simp only [maxLen]; omega
    have HN := Lib.hid (And.intro hl (And.intro (ints_some hz) (And.intro h1 (And.intro h2 hn))))
    clear hl h1 h2 hz hn
    go_enter Tryz.func140, Tryz.ntmps140
    go_wp2_with (at_builtin; refine wpList_append_own_at _ rfl _ _ 34 rfl w.heap.size 3 i0 _ 1 8 Tryz.underlying34 hi hz0 hz1 hz2 rfl (by decide) (.slice none 0 0) 0 [] rfl (World.ownsRow_nil _ _ _ _) b n c (zs.map (Value.int .i64)) rfl HN.out.1 HN.out.2.1 HN.out.2.2.1 HN.out.2.2.2.1.1 HN.out.2.2.2.1.2 (Nat.le_refl _) ?_; intro v' w1 hown hgrow hnil hblk; obtain ⟨a', c', rfl⟩ := ownsRow_slice hown; have HW := Lib.hid (And.intro hown hgrow); clear hown hgrow hnil hblk)
    go_ret
    obtain ⟨hl, h3, h1, h2, hn⟩ := HN.out
    obtain ⟨hr, hg⟩ := HW.out
    subst hn
    simp only [Nat.zero_add] at hr ⊢
    exact ⟨a', c', rfl, by simpa [FreshInts] using hr, (Chg.refl _ _).grown hg (fun k hk => by cases hk)⟩

def NewNodeF (w : World) (x : Nd) (e : Ending) (w' : World) : Prop :=
  ∃ a c, e = .returned (.agg (x.cells a x.kids.length c)) ∧ FreshInts w.heap.size w' a c x.kids ∧ Chg [] w w'

set_option maxRecDepth 100000 in
set_option maxHeartbeats 1000000 in
theorem CopyNodeF_any (w : World) (x : Nd) (a : Option Addr) (n c : Nat) (hn : n = x.kids.length) (hs : n ≤ 17592186044416) (hz : Ints w a x.kids) :
    Calls Tryz.prog 92 #[.agg (x.cells a n c)] w (NewNodeF w x) := by
  have HN := Lib.hid (And.intro hn (And.intro hs hz))
  clear hn hs hz
  unfold Nd.cells
  go_enter Tryz.func92, Tryz.ntmps92
  go_wp2_with fail
  refine (CopyIntsF_any _ _ _ _ _ HN.out.1 HN.out.2.1 (HN.out.2.2.keep (((Chg.refl [] w).alloc _).alloc _).kp)).mono ?_
  rintro e w3 ⟨a', c', rfl, h1, h2⟩
  have hb0 := h2.heap (heap_alloc_lt (heap_alloc_same _ _) _) (by simp)
  have hb1 := h2.heap (heap_alloc_same _ _) (by simp)
  have hc := (((Chg.refl [] w).alloc _).alloc _).tr0 h2
  have hl := h2.size
  simp only [World.size_alloc] at hb1 hl h1
  have h1 := row_base h1 (show w.heap.size ≤ w.heap.size + 1 + 1 by omega)
  have H := Lib.hid (And.intro h1 (And.intro hc (And.intro hb0 hb1)))
  clear h1 h2 hc hb0 hb1
  obtain ⟨x0, x1, x2, x3, x4, x5, x6, x7, x8⟩ := cells9 H.out.2.2.1
  have f8 := free_of_cells H.out.2.2.1 8
  obtain ⟨y0, y1, y2, y3, y4, y5, y6, y7, y8⟩ := cells9 H.out.2.2.2
  have g0 := free_of_cells H.out.2.2.2 0
  have g1 := free_of_cells H.out.2.2.2 1
  have g2 := free_of_cells H.out.2.2.2 2
  have g3 := free_of_cells H.out.2.2.2 3
  have g4 := free_of_cells H.out.2.2.2 4
  have g5 := free_of_cells H.out.2.2.2 5
  have g6 := free_of_cells H.out.2.2.2 6
  have g7 := free_of_cells H.out.2.2.2 7
  have g8 := free_of_cells H.out.2.2.2 8
  go_wp2_with fail
  have z0 := heap_set_ne (c := w.heap.size) (i := 8) (u := .slice a' x.kids.length c') H.out.2.2.2 (by omega)
  obtain ⟨w4, e4, z, hch⟩ := nine_set z0 (.int .i64 x.k) (.int .u64 x.c0) (.int .u64 x.c1) (.int .u64 x.c2) (.int .u64 x.c3) (.string x.s) (.int .i64 x.r) (.int .i64 x.l) (.slice a' x.kids.length c')
  rw [← e4]
  clear e4 z0 x0 x1 x2 x3 x4 x5 x6 x7 x8 y0 y1 y2 y3 y4 y5 y6 y7 y8 f8 g0 g1 g2 g3 g4 g5 g6 g7 g8
  have hch := ((Chg.refl [w.heap.size, w.heap.size + 1] w3).setCell (p := ⟨w.heap.size, 8, none⟩) (.inl (by simp)) (.slice a' x.kids.length c')).trans hch (fun j hj => .inl (by simp at hj; simp [hj]))
  obtain ⟨q0, q1, q2, q3, q4, q5, q6, q7, q8⟩ := cells9 z
  have hTl := lt_of_block z
  refine bodyPost_ret (v := .agg #[.int .i64 x.k, .int .u64 x.c0, .int .u64 x.c1, .int .u64 x.c2, .int .u64 x.c3, .string x.s, .int .i64 x.r, .int .i64 x.l, .slice a' x.kids.length c']) (by simp [results, Tryz.results92, go_sem, q0, q1, q2, q3, q4, q5, q6, q7, q8, hTl]) rfl ?_
  refine ⟨a', c', rfl, hch.rowOf H.out.1 ?_, H.out.2.1.trans hch ?_⟩
  · intro k hk
    simp only [List.mem_cons, List.not_mem_nil, or_false] at hk
    rcases hk with rfl | rfl
    · exact NotRow.of_cells H.out.2.2.1 (by decide)
    · exact NotRow.of_cells H.out.2.2.2 (by decide)
  · intro k hk
    simp only [List.mem_cons, List.not_mem_nil, or_false] at hk
    rcases hk with rfl | rfl <;> right <;> omega

/-- Nodes in rows of their own. -/
def NewBody (w : World) (ns : List Nd) (e : Ending) (w' : World) : Prop :=
  ∃ a c L, e = .returned (.slice a ns.length c) ∧ L.map (·.1) = ns ∧ OwnG w.heap.size w' none 0 a c L [] ∧ Chg [] w w'

set_option maxRecDepth 100000 in
set_option maxHeartbeats 2000000 in
theorem CopyNodesF_any (w : World) (a : Option Addr) (n c : Nat) (ns : List Nd) (hn : n = ns.length) (hs : n ≤ 3000) (hr : Nodes w a ns) (hk : ∀ x ∈ ns, x.kids.length ≤ 3000) :
    Calls Tryz.prog 59 #[.slice a n c] w (NewBody w ns) := by
  obtain ⟨i0, hi, hz0, hz1, hz2⟩ := info_parts Tryz.infoNode
  have H := Lib.hid (And.intro hn (And.intro hr hk))
  clear hn hr hk
  go_enter Tryz.func59, Tryz.ntmps59
  go_wp2_with fail
  go_loopg [4, 3] n (fun d iv ov wr => ∃ (k c' : Nat) (a' : Option Addr) (L : List Cp), d = n - k ∧ k ≤ n ∧ iv = .int .i64 k ∧ ov = .slice a' k c' ∧ Hid (L.length = k ∧ L.map (·.1) = ns.take k ∧ OwnG w.heap.size wr none 0 a' c' L [] ∧ Chg [] w wr))
  case atStart => exact ⟨0, 0, none, [], rfl, Nat.zero_le _, rfl, rfl, Lib.hid ⟨rfl, rfl, ⟨World.ownsRow_nil _ _ _ _, World.ownsRow_nil _ _ _ _, by simp, List.Pairwise.nil⟩, Chg.refl _ _⟩⟩
  case round =>
    obtain ⟨k, c', a', L, rfl, hk, rfl, rfl, hcp⟩ := hrel
    obtain ⟨wq, rfl⟩ : ∃ wq, wq = wr := ⟨_, rfl⟩
    by_cases hlt : k < n
    · have hk' : k < ns.length := by have := H.out.1; omega
      obtain ⟨b, o, ak, nk, ck, rfl, hx⟩ := H.out.2.1.keep hcp.out.2.2.2.kp k hk'
      have hkl := H.out.2.2 _ (List.getElem_mem hk')
      obtain ⟨x, hxe⟩ : ∃ x, x = ns[k] := ⟨_, rfl⟩
      rw [← hxe] at hx hkl
      have hbk := World.block_lt_of_cell? _ _ hx.k
      simp only at hbk
      obtain ⟨h0, h1, h2, h3, h4, h5, h6, h7, h8, q1, q2, q3, q4⟩ := hx
      have hcall := CopyNodeF_any wq x ak nk ck q1 (by omega) q4
      unfold Nd.cells at hcall
      have HR := Lib.hid (And.intro hxe (And.intro hcall hkl))
      clear q1 q2 q3 q4 hcall hkl hxe
      go_wp2_with fail
      refine HR.out.2.1.mono ?_
      rintro e w4 ⟨a4, c4, rfl, ho, hc4⟩
      have hc5 := (hc4.alloc (.cells #[.int .i64 x.k, .int .u64 x.c0, .int .u64 x.c1, .int .u64 x.c2, .int .u64 x.c3, .string x.s, .int .i64 x.r, .int .i64 x.l, .slice a4 x.kids.length c4] 65)).alloc (.cells #[.int .i64 x.k, .int .u64 x.c0, .int .u64 x.c1, .int .u64 x.c2, .int .u64 x.c3, .string x.s, .int .i64 x.r, .int .i64 x.l, .slice a4 x.kids.length c4] 65)
      have ho5 : FreshInts wq.heap.size ((w4.alloc (.cells #[.int .i64 x.k, .int .u64 x.c0, .int .u64 x.c1, .int .u64 x.c2, .int .u64 x.c3, .string x.s, .int .i64 x.r, .int .i64 x.l, .slice a4 x.kids.length c4] 65)).alloc (.cells #[.int .i64 x.k, .int .u64 x.c0, .int .u64 x.c1, .int .u64 x.c2, .int .u64 x.c3, .string x.s, .int .i64 x.r, .int .i64 x.l, .slice a4 x.kids.length c4] 65)) a4 c4 x.kids := (World.ownsRow.alloc (World.ownsRow.alloc ho _) _)
      have hown5 := hcp.out.2.2.1.chg0 hc5
      have h1' : ∀ u ∈ (#[.int .i64 x.k, .int .u64 x.c0, .int .u64 x.c1, .int .u64 x.c2, .int .u64 x.c3, .string x.s, .int .i64 x.r, .int .i64 x.l, .slice a4 x.kids.length c4] : Array Value).toList, u.oneCell' = true := by simp [Value.oneCell']
      have h2' : k + 1 ≤ maxLen ∧ (k + 1) * 96 ≤ 140737488355328 := by simp only [maxLen]; omega
      have hnew := cells_at (w := (w4.alloc (.cells #[.int .i64 x.k, .int .u64 x.c0, .int .u64 x.c1, .int .u64 x.c2, .int .u64 x.c3, .string x.s, .int .i64 x.r, .int .i64 x.l, .slice a4 x.kids.length c4] 65)).alloc (.cells #[.int .i64 x.k, .int .u64 x.c0, .int .u64 x.c1, .int .u64 x.c2, .int .u64 x.c3, .string x.s, .int .i64 x.r, .int .i64 x.l, .slice a4 x.kids.length c4] 65)) (heap_alloc_same _ _)
      rw [World.size_alloc] at hnew
      have hnodes5 := hown5.nodes
      rw [hcp.out.1] at hnodes5
      have hcw := hcp.out.2.2.2.tr0 hc5
      have hsz := hcw.size
      have H4 := Lib.hid (And.intro ho5 (And.intro hc5 (And.intro hnodes5 (And.intro h1' (And.intro h2' (And.intro hnew (And.intro hcw (And.intro hsz hown5))))))))
      clear ho hc4 h1' h2' hnew ho5 hc5 hnodes5 hown5 hcw hsz
      unfold Nd.cells
      go_wp2_with (at_builtin; refine wpList_append_own_at _ rfl _ _ 29 rfl w.heap.size 65 i0 _ 9 96 Tryz.underlying29 hi hz0 hz1 hz2 rfl (by decide) (.slice a' k c') k (nodesCells L) rfl H4.out.2.2.1 ⟨w4.heap.size + 1, 0, none⟩ 1 1 (#[.int .i64 x.k, .int .u64 x.c0, .int .u64 x.c1, .int .u64 x.c2, .int .u64 x.c3, .string x.s, .int .i64 x.r, .int .i64 x.l, .slice a4 x.kids.length c4] : Array Value).toList rfl rfl H4.out.2.2.2.2.2.1 H4.out.2.2.2.1 H4.out.2.2.2.2.1.1 H4.out.2.2.2.2.1.2 H4.out.2.2.2.2.2.2.2.1 ?_; intro v' w6 hr1 hg1 hk1 hb1; obtain ⟨a6, c6, rfl⟩ := ownsRow_slice hr1; have HW := Lib.hid (And.intro hr1 (And.intro hg1 hk1)); clear hr1 hg1 hk1 hb1)
      go_roundg (n - (k + 1))
      case measure => omega
      case rel =>
        refine ⟨k + 1, c6, a6, L ++ [(x, a4, c4)], rfl, by omega, by go_num, rfl, Lib.hid ⟨by simp [hcp.out.1], ?_, ?_, ?_⟩⟩
        · rw [List.take_succ_eq_append_getElem hk', ← HR.out.1]; simp [hcp.out.2.1]
        · refine H4.out.2.2.2.2.2.2.2.2.snoc (p := (x, a4, c4)) (row_base H4.out.1 (by have := hcp.out.2.2.2.size; omega)) ?_ ?_ ?_
          · intro q hq i j hi hj
            have h1 := (row_beyond (hcp.out.2.2.1.kids q hq) hi).2.1
            have h2 := (row_beyond H4.out.1 hj).1
            omega
          · have := HW.out.1
            rw [hcp.out.1]
            exact this
          · have := HW.out.2.1
            rw [hcp.out.1]
            exact this
        · have hrow := hcp.out.2.2.1.nodes
          refine H4.out.2.2.2.2.2.2.1.grown HW.out.2.1 (fun j hj => .inr ?_)
          rw [← hcp.out.1] at hj
          exact (row_beyond hrow hj).1
    · obtain rfl : k = n := by omega
      go_wp2
      go_ret
      obtain rfl := H.out.1
      have h1 := hcp.out.2.1
      rw [List.take_length] at h1
      exact ⟨a', c', L, rfl, h1, hcp.out.2.2.1, hcp.out.2.2.2⟩
end Go.Proofs.YtlklmpjakeedcaaGreatDoor
set_option linter.unusedVariables false
set_option linter.unusedSimpArgs false
namespace Go.Proofs.YtlklmpjakeedcaaGreatDoor
open Go.RowKit Go.MapKept Go.Shelf

/-- Nodes, and each node's kids, in rows of their own, each apart from each other one. -/
structure OwnN (B : Nat) (w : World) (b2 : Option Addr) (d2 : Nat) (L : List Cp) : Prop where
  nodes : w.ownsRow B 65 9 (.slice b2 L.length d2) L.length (nodesCells L)
  kids : ∀ p ∈ L, FreshInts B w p.2.1 p.2.2 p.1.kids
  apart : L.Pairwise fun q p => ∀ i j, q.own = some i → p.own = some j → i ≠ j
theorem OwnG.ownN {B : Nat} {w : World} {b1 : Option Addr} {d1 : Nat} {b2 : Option Addr} {d2 : Nat} {L : List Cp} {rs : List Rl} (h : OwnG B w b1 d1 b2 d2 L rs) : OwnN B w b2 d2 L :=
  ⟨h.nodes, h.kids, h.apart.imp fun hh i j hi hj => by have := hh i j hi hj; omega⟩
theorem OwnN.nil (B : Nat) (w : World) : OwnN B w none 0 [] := ⟨World.ownsRow_nil _ _ _ _, by simp, List.Pairwise.nil⟩
theorem OwnN.chg {B : Nat} {w w' : World} {S : List Nat} {b2 : Option Addr} {d2 : Nat} {L : List Cp} (h : OwnN B w b2 d2 L) (hc : Chg S w w') (hS : ∀ k ∈ S, NotRow w 65 k ∧ NotRow w 3 k) : OwnN B w' b2 d2 L :=
  ⟨hc.rowOf h.nodes (fun k hk => (hS k hk).1), fun p hp => hc.rowOf (h.kids p hp) (fun k hk => (hS k hk).2), h.apart⟩
theorem OwnN.chg0 {B : Nat} {w w' : World} {b2 : Option Addr} {d2 : Nat} {L : List Cp} (h : OwnN B w b2 d2 L) (hc : Chg [] w w') : OwnN B w' b2 d2 L := h.chg hc (by simp)
theorem OwnN.below {B B' : Nat} {w : World} {b2 : Option Addr} {d2 : Nat} {L : List Cp} (h : OwnN B w b2 d2 L) (hB : B' ≤ B) : OwnN B' w b2 d2 L :=
  ⟨row_base h.nodes hB, fun p hp => row_base (h.kids p hp) hB, h.apart⟩
theorem OwnN.read {B : Nat} {w : World} {b2 : Option Addr} {d2 : Nat} {L : List Cp} (h : OwnN B w b2 d2 L) : Nodes w b2 (L.map (·.1)) ∧ L.length ≤ d2 ∧ d2 ≤ maxLen := by
  obtain ⟨m1, m2, m3, m4⟩ := nodes_row (row_base h.nodes (Nat.zero_le _)) (fun p hp => (h.kids p hp).own)
  exact ⟨m1, m3, m4⟩
/-- How a node's cells read. -/
theorem OwnN.at {B : Nat} {w : World} {b2 : Option Addr} {d2 : Nat} {L : List Cp} (h : OwnN B w b2 d2 L) {i : Nat} (hi : i < L.length) :
    ∃ G, b2 = some ⟨G, 0, none⟩ ∧ B ≤ G ∧ (∃ cur, w.heap[G]? = some (.cells cur 65 (0, 0))) ∧ (∀ r, r < 9 → w.cell? ⟨G, i * 9 + r, none⟩ = L[i].cells[r]?) ∧ ∀ o, w.frozen? ⟨G, o, none⟩ = false := by
  rcases h.nodes.2 with ⟨h0, h1⟩ | ⟨g, cap, cur, h0, hb, hg, hn, hc, hs, ht⟩
  · omega
  · cases h0
    refine ⟨g, rfl, hb, ⟨cur, hg⟩, fun r hr => ?_, fun o => free_of_cells hg o⟩
    have h1 := flat_get Cp.cells 9 cp_len L i r hr
    rw [List.getElem?_eq_getElem hi, Option.bind_some] at h1
    have h3 : L[i].cells[r]? = some (L[i].cells[r]'(by rw [cp_len]; exact hr)) := List.getElem?_eq_getElem _
    rw [cell_of_cells hg, h3]
    have h2 : (nodesCells L)[i * 9 + r]? = some (L[i].cells[r]'(by rw [cp_len]; exact hr)) := h1.trans h3
    rw [← ht, List.getElem?_take] at h2
    split at h2
    · simpa using h2
    · cases h2
def Nd.setKid (x : Nd) (k : Nat) (v : Int) : Nd := { x with kids := x.kids.set k v }
def Cp.setKid (p : Cp) (k : Nat) (v : Int) : Cp := (p.1.setKid k v, p.2.1, p.2.2)
theorem setKid_cells (p : Cp) (k : Nat) (v : Int) : (p.setKid k v).cells = p.cells := by
  simp only [Cp.cells, Cp.setKid, Nd.setKid, List.length_set]; rfl
theorem setKid_own (p : Cp) (k : Nat) (v : Int) : (p.setKid k v).own = p.own := by simp only [Cp.own, Cp.setKid, Nd.setKid, List.length_set]
theorem cells_set' {L : List Cp} {i : Nat} (hi : i < L.length) {q : Cp} (h : q.cells = L[i].cells) : nodesCells (L.set i q) = nodesCells L := by
  rw [nodesCells, nodesCells, List.flatMap_def, List.flatMap_def, List.map_set, h]
  congr 1
  apply List.ext_getElem
  · simp
  · intro j h1 h2
    rw [List.getElem_set]
    split
    · rename_i hij; subst hij; simp
    · rfl
theorem ints_take {zs : List Int} {cur : Array Value} (h : cur.toList.take zs.length = zs.map (Value.int .i64)) {k : Nat} (hk : k < zs.length) (v : Int) (hc : zs.length ≤ cur.size) :
    (cur.setIfInBounds k (.int .i64 v)).toList.take zs.length = (zs.set k v).map (Value.int .i64) := by
  rw [Array.toList_setIfInBounds, List.take_set, h, List.map_set]
/-- A kid is written. -/
theorem OwnN.kidPut {B : Nat} {w : World} {b2 : Option Addr} {d2 : Nat} {L : List Cp} (h : OwnN B w b2 d2 L) {i : Nat} (hi : i < L.length) {k : Nat} (hk : k < L[i].1.kids.length) :
    ∃ K, L[i].2.1 = some ⟨K, 0, none⟩ ∧ B ≤ K ∧ w.cell? ⟨K, k, none⟩ = some (.int .i64 L[i].1.kids[k]) ∧ w.frozen? ⟨K, k, none⟩ = false ∧
      ∀ v, OwnN B (w.setCell ⟨K, k, none⟩ (.int .i64 v)) b2 d2 (L.set i (L[i].setKid k v)) ∧ Chg [K] w (w.setCell ⟨K, k, none⟩ (.int .i64 v)) := by
  have hik := h.kids _ (List.getElem_mem hi)
  rcases hik.2 with ⟨h0, h1⟩ | ⟨K, cap, cur, h0, hb, hg, hn, hcm, hcs, ht⟩
  · omega
  have hK : L[i].2.1 = some ⟨K, 0, none⟩ := by injection h0
  have hcap : cap = L[i].2.2 := by injection h0 with _ _ h0; exact h0.symm
  subst hcap
  have hKo : L[i].own = some K := by simp [Cp.own, hK, Value.ownBlock]
  refine ⟨K, hK, hb, ?_, free_of_cells hg _, fun v => ?_⟩
  · rw [cell_of_cells hg]
    have h1 : (L[i].1.kids.map (Value.int .i64))[k]? = some (.int .i64 L[i].1.kids[k]) := by simp [hk]
    rw [← ht, List.getElem?_take] at h1
    split at h1
    · simpa using h1
    · cases h1
  have hc := (Chg.refl [K] w).setCell (p := ⟨K, k, none⟩) (.inl (by simp)) (.int .i64 v)
  have hN : ∀ e, 3 ≠ e → ∀ k ∈ [K], NotRow w e k := fun e he k hk => by simp only [List.mem_singleton] at hk; subst hk; exact .of_cells hg he
  have hap : ∀ a b (ha : a < L.length) (hb : b < L.length), a < b → ∀ i j, L[a].own = some i → L[b].own = some j → i ≠ j := fun a b ha hb hab => List.pairwise_iff_getElem.1 h.apart a b ha hb hab
  refine ⟨⟨?_, ?_, ?_⟩, hc⟩
  · rw [List.length_set, cells_set' hi (setKid_cells _ _ _)]
    exact hc.rowOf h.nodes (hN _ (by decide))
  · intro p hp
    obtain ⟨j, hj, rfl⟩ := List.mem_iff_getElem.1 hp
    have hj' : j < L.length := by simpa using hj
    rw [List.getElem_set]
    split
    · rename_i hij
      subst hij
      refine ⟨by simp [Cp.setKid, Nd.setKid], .inr ⟨K, L[i].2.2, _, ?_, hb, heap_setCell_same hg _ _, ?_, hcm, by simpa using hcs, ?_⟩⟩
      · simp [Cp.setKid, Nd.setKid, hK]
      · simp only [Cp.setKid, Nd.setKid, List.length_set]; exact hn
      · simp only [Cp.setKid, Nd.setKid, List.length_set, Nat.mul_one]
        exact ints_take (by simpa using ht) hk v (by omega)
    · rename_i hij
      refine hc.row (h.kids _ (List.getElem_mem hj')) (fun k hk hm => ?_)
      simp only [List.mem_singleton] at hm
      subst hm
      rcases Nat.lt_or_gt_of_ne hij with hlt | hlt
      · exact hap i j hi hj' hlt _ _ hKo hk rfl
      · exact hap j i hj' hi hlt _ _ hk hKo rfl
  · rw [List.pairwise_iff_getElem]
    intro a b ha hb hab x y hx hy
    have ha' : a < L.length := by simpa using ha
    have hb' : b < L.length := by simpa using hb
    have key : ∀ c (hc : c < L.length) (hc' : c < (L.set i (L[i].setKid k v)).length), ((L.set i (L[i].setKid k v))[c]).own = L[c].own := by
      intro c hc hc'
      rw [List.getElem_set]
      split
      · rename_i hic; subst hic; exact setKid_own _ _ _
      · rfl
    rw [key a ha' ha] at hx
    rw [key b hb' hb] at hy
    exact hap a b ha' hb' hab x y hx hy
/-- Rows are joined: nodes that lie beyond all that there was. -/
theorem OwnN.join {B : Nat} {w w1 : World} {b2 b2' : Option Addr} {d2 d2' : Nat} {L M : List Cp} (h : OwnN B w b2 d2 L) (hM : ∀ p ∈ M, FreshInts B w p.2.1 p.2.2 p.1.kids) (ha : M.Pairwise fun q p => ∀ i j, q.own = some i → p.own = some j → i ≠ j)
    (hx : ∀ q ∈ L, ∀ p ∈ M, ∀ i j, q.own = some i → p.own = some j → i ≠ j)
    (hr : w1.ownsRow B 65 9 (.slice b2' (L.length + M.length) d2') (L.length + M.length) (nodesCells L ++ nodesCells M)) (hg : w.grownBy w1 (Value.slice b2 L.length d2).ownBlock) : OwnN B w1 b2' d2' (L ++ M) := by
  have hc : Chg (Value.slice b2 L.length d2).ownBlock.toList w w1 := (Chg.refl _ w).grown hg (fun k hk => .inl (by rw [hk]; simp))
  have hS : ∀ e, 65 ≠ e → ∀ k ∈ (Value.slice b2 L.length d2).ownBlock.toList, NotRow w e k := by
    intro e he k hk
    simp only [Option.mem_toList] at hk
    exact row_notrow h.nodes hk he
  refine ⟨?_, ?_, ?_⟩
  · have : nodesCells (L ++ M) = nodesCells L ++ nodesCells M := by rw [nodesCells, nodesCells, nodesCells, List.flatMap_append]
    rw [this, List.length_append]; exact hr
  · intro q hq
    rcases List.mem_append.1 hq with hq | hq
    · exact hc.rowOf (h.kids q hq) (hS _ (by decide))
    · exact hc.rowOf (hM q hq) (hS _ (by decide))
  · rw [List.pairwise_append]
    exact ⟨h.apart, ha, hx⟩
def Nd.addKid (x : Nd) (v : Int) : Nd := { x with kids := x.kids ++ [v] }
theorem addKid_len (x : Nd) (v : Int) : (x.addKid v).kids.length = x.kids.length + 1 := by simp [Nd.addKid]
/-- The first node gets a kid more. -/
theorem OwnN.more {B : Nat} {w w1 : World} {b2 : Option Addr} {d2 : Nat} {p : Cp} {L : List Cp} {v : Int} {a' : Option Addr} {c' G : Nat} (h : OwnN B w b2 d2 (p :: L)) (hB : B ≤ w.heap.size) (hG : b2 = some ⟨G, 0, none⟩)
    (hr : w1.ownsRow B 3 1 (.slice a' (p.1.kids.length + 1) c') (p.1.kids.length + 1) (p.1.kids.map (Value.int .i64) ++ [.int .i64 v])) (hg : w.grownBy w1 p.own)
    (hb : (Value.slice a' (p.1.kids.length + 1) c').ownBlock = p.own ∨ (Value.slice a' (p.1.kids.length + 1) c').ownBlock = some w.heap.size) :
    OwnN B (w1.setCell ⟨G, 8, none⟩ (.slice a' (p.1.kids.length + 1) c')) b2 d2 ((p.1.addKid v, a', c') :: L) ∧ Chg (p.own.toList ++ [G]) w (w1.setCell ⟨G, 8, none⟩ (.slice a' (p.1.kids.length + 1) c')) := by
  subst hG
  have hc1 : Chg p.own.toList w w1 := (Chg.refl _ w).grown hg (fun k hk => .inl (by rw [hk]; simp))
  have hc2 := (Chg.refl [G] w1).setCell (p := ⟨G, 8, none⟩) (.inl (by simp)) (.slice a' (p.1.kids.length + 1) c')
  have hpk := h.kids p (by simp)
  obtain ⟨hap1, hap2⟩ := List.pairwise_cons.1 h.apart
  have hN1 : ∀ k ∈ p.own.toList, NotRow w 65 k := fun k hk => by simp only [Option.mem_toList] at hk; exact row_notrow hpk hk (by decide)
  have hrow1 := hc1.rowOf h.nodes hN1
  have hL1 : ∀ q ∈ L, FreshInts B w1 q.2.1 q.2.2 q.1.kids := fun q hq => hc1.row (h.kids q (by simp [hq])) (fun k hk hm => by
    simp only [Option.mem_toList] at hm
    exact hap1 q hq k k hm hk rfl)
  rcases hrow1.2 with ⟨h0, h1⟩ | ⟨g, cap, cur, h0, hbg, hg1, hn, hcm, hcs, ht⟩
  · cases h0
  cases h0
  have hN2 : ∀ k ∈ [G], NotRow w1 3 k := fun k hk => by simp only [List.mem_singleton] at hk; subst hk; exact .of_cells hg1 (by decide)
  have hG8 : G < w1.heap.size := lt_of_block hg1
  have hown' : ∀ k, (Value.slice a' (p.1.kids.length + 1) c').ownBlock = some k → k ≠ G := by
    intro k hk e
    subst e
    have h3 := row_beyond hr hk
    obtain ⟨_, _, cur3, h3⟩ := h3
    rw [hg1] at h3
    cases h3
  refine ⟨⟨⟨by rw [nodesCells, flat_len Cp.cells 9 cp_len], .inr ⟨G, d2, _, rfl, hbg, heap_setCell_same hg1 _ _, by simpa using hn, hcm, by simpa using hcs, ?_⟩⟩, ?_, ?_⟩, ?_⟩
  · have hp9 : 9 ≤ cur.toList.length := by
      have := congrArg List.length ht
      rw [List.length_take] at this
      have h2 : (nodesCells (p :: L)).length = (p :: L).length * 9 := flat_len Cp.cells 9 cp_len _
      rw [h2] at this
      simp only [List.length_cons] at this ⊢
      omega
    rw [Array.toList_setIfInBounds, List.take_set]
    show (List.take ((p :: L).length * 9) cur.toList).set 8 _ = _
    rw [ht]
    have e1 : nodesCells (p :: L) = p.cells ++ nodesCells L := by simp [nodesCells]
    rw [e1, List.set_append_left _ _ (by rw [cp_len]; decide)]
    have e2 : nodesCells ((p.1.addKid v, a', c') :: L) = Cp.cells (p.1.addKid v, a', c') ++ nodesCells L := by simp [nodesCells]
    rw [e2]
    congr 1
    simp [Cp.cells, Nd.cells, addKid_len]
    simp [Nd.addKid]
  · intro q hq
    rcases List.mem_cons.1 hq with rfl | hq
    · have hr' : FreshInts B w1 a' c' (p.1.addKid v).kids := by simpa [FreshInts, Nd.addKid] using hr
      refine hc2.row hr' (fun k hk hm => ?_)
      simp only [List.mem_singleton] at hm
      rw [addKid_len] at hk
      exact hown' k hk hm
    · exact hc2.rowOf (hL1 q hq) hN2
  · rw [List.pairwise_cons]
    refine ⟨fun q hq i j hi hj e => ?_, hap2⟩
    subst e
    have hi' : (Value.slice a' (p.1.kids.length + 1) c').ownBlock = some i := by simpa [Cp.own, addKid_len] using hi
    rcases hb with hb | hb
    · exact hap1 q hq i i (hb ▸ hi') hj rfl
    · rw [hb] at hi'
      cases hi'
      have := (row_beyond (h.kids q (by simp [hq])) hj).2.1
      omega
  · exact (hc1.mono (T := p.own.toList ++ [G]) (fun j hj => .inl (by simp [hj]))).trans hc2 (fun j hj => .inl (by simp at hj; simp [hj]))
end Go.Proofs.YtlklmpjakeedcaaGreatDoor

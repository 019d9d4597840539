/-
  Copies of a grammar's nodes, and of a grammar, in memory of their own.
  Conditions: the lists read as data; they are small.
-/
import Derived.Test.YtibgfgfmljhimaaGCopy2
set_option linter.unusedVariables false
set_option linter.unusedSimpArgs false
namespace Go.Proofs.Ytibgfgfmljhimaa
open Go.RowKit Go.MapKept Go.Shelf

abbrev Cp := Nd × Option Addr × Nat
def Cp.cells (p : Cp) : List Value := (p.1.cells p.2.1 p.1.kids.length p.2.2).toList
def nodesCells (L : List Cp) : List Value := L.flatMap Cp.cells
theorem cp_len (p : Cp) : p.cells.length = 9 := rfl
theorem nodes_none {w : World} {ns : List Nd} (h : Nodes w none ns) : ns = [] := by
  cases ns with
  | nil => rfl
  | cons z zs => obtain ⟨b, o, _, _, _, h1, _⟩ := h 0 (by simp); cases h1
theorem row_notrow {w : World} {base e e' size n k : Nat} {v : Value} {xs : List Value} (h : w.ownsRow base e size v n xs) (hv : v.ownBlock = some k) (ht : e ≠ e') : NotRow w e' k := by
  rcases h.2 with ⟨h0, h1⟩ | ⟨g, cap, cur, h0, hb, hg, _⟩
  · subst h0; cases hv
  · subst h0
    cases hv
    exact NotRow.of_cells hg ht
theorem nodes_row {w : World} {a : Option Addr} {n c : Nat} {L : List Cp} (h : w.ownsRow 0 32 9 (.slice a n c) L.length (nodesCells L)) (hk : ∀ p ∈ L, OwnInts w (.slice p.2.1 p.1.kids.length p.2.2) p.1.kids) :
    Nodes w a (L.map (·.1)) ∧ n = L.length ∧ n ≤ c ∧ c ≤ maxLen := by
  rcases h.2 with ⟨h0, h1⟩ | ⟨g, cap, cur, h0, hb, hg, hn, hc, hs, ht⟩
  · cases h0
    obtain rfl := List.eq_nil_of_length_eq_zero h1
    exact ⟨(fun i hi => by cases hi), rfl, Nat.le_refl _, Nat.zero_le _⟩
  · cases h0
    have key : ∀ (j : Nat) (u : Value), (nodesCells L)[j]? = some u → cur[j]? = some u := by
      intro j u hu
      rw [← ht, List.getElem?_take] at hu
      split at hu
      · simpa using hu
      · cases hu
    refine ⟨fun i hi => ?_, rfl, hn, hc⟩
    have hi' : i < L.length := by simpa using hi
    obtain ⟨k1, k2, k3, k4⟩ := ownInts_read (hk _ (List.getElem_mem hi'))
    have cell : ∀ r, r < 9 → w.cell? ⟨g, i * 9 + r, none⟩ = (L[i]'hi').cells[r]? := by
      intro r hr
      have h1 := flat_get Cp.cells 9 cp_len L i r hr
      rw [List.getElem?_eq_getElem hi', Option.bind_some] at h1
      have h2 : (L[i]'hi').cells[r]? = some ((L[i]'hi').cells[r]'(by rw [cp_len]; exact hr)) := List.getElem?_eq_getElem _
      rw [cell_of_cells hg, h2]
      exact key _ _ (h1.trans h2)
    refine ⟨g, 0, (L[i]'hi').2.1, (L[i]'hi').1.kids.length, (L[i]'hi').2.2, rfl, ?_⟩
    simp only [List.getElem_map, Nat.zero_add]
    exact ⟨cell 0 (by decide), cell 1 (by decide), cell 2 (by decide), cell 3 (by decide), cell 4 (by decide), cell 5 (by decide), cell 6 (by decide), cell 7 (by decide), cell 8 (by decide), rfl, k3, k4, k1⟩

/-- The copy, so far. -/
def CopyAt (w : World) (ns : List Nd) (k : Nat) (a : Option Addr) (c : Nat) (wr : World) : Prop :=
  ∃ L : List Cp, L.map (·.1) = ns.take k ∧ wr.ownsRow 0 32 9 (.slice a k c) k (nodesCells L) ∧ (∀ p ∈ L, OwnInts wr (.slice p.2.1 p.1.kids.length p.2.2) p.1.kids) ∧ (∀ j, (Value.slice a k c).ownBlock = some j → w.heap.size ≤ j) ∧ Chg [] w wr
def NewNodes (w : World) (ns : List Nd) (e : Ending) (w' : World) : Prop :=
  ∃ a c, e = .returned (.slice a ns.length c) ∧ Nodes w' a ns ∧ ns.length ≤ c ∧ c ≤ maxLen ∧ Chg [] w w'
theorem copyAt_end {w wr : World} {ns : List Nd} {a : Option Addr} {c : Nat} (h : CopyAt w ns ns.length a c wr) : NewNodes w ns (.returned (.slice a ns.length c)) wr := by
  obtain ⟨L, h1, h2, h3, h4, h5⟩ := h
  rw [List.take_length] at h1
  have hl : L.length = ns.length := by rw [← h1]; simp
  rw [← hl] at h2
  obtain ⟨k1, k2, k3, k4⟩ := nodes_row h2 h3
  rw [h1] at k1
  rw [hl] at k3
  exact ⟨a, c, rfl, k1, k3, k4, h5⟩
/-- One node more. -/
theorem copyAt_step {w wr w5 w6 : World} {ns : List Nd} {k : Nat} {a a' ak : Option Addr} {c c' ck : Nat} {x : Nd} (hk : k < ns.length) (hx : x = ns[k]) (h : CopyAt w ns k a c wr) (h5 : Chg [] wr w5) (ho : OwnInts w5 (.slice ak x.kids.length ck) x.kids)
    (L : List Cp) (hL1 : L.map (·.1) = ns.take k) (hLk : ∀ p ∈ L, OwnInts wr (.slice p.2.1 p.1.kids.length p.2.2) p.1.kids) (hLo : ∀ j, (Value.slice a k c).ownBlock = some j → w.heap.size ≤ j) (hLr : wr.ownsRow 0 32 9 (.slice a k c) k (nodesCells L)) (hLc : Chg [] w wr)
    (hr : w6.ownsRow 0 32 9 (.slice a' (k + 1) c') (k + 1) (nodesCells L ++ (x.cells ak x.kids.length ck).toList)) (hg : w5.grownBy w6 (Value.slice a k c).ownBlock)
    (hb : (Value.slice a' (k + 1) c').ownBlock = (Value.slice a k c).ownBlock ∨ (Value.slice a' (k + 1) c').ownBlock = some w5.heap.size) : CopyAt w ns (k + 1) a' c' w6 := by
  have hr5 := h5.row hLr (fun _ _ => by simp)
  have hstep : ∀ {a1 : Option Addr} {n1 c1 : Nat} {zs : List Int}, OwnInts w5 (.slice a1 n1 c1) zs → OwnInts w6 (.slice a1 n1 c1) zs := by
    intro a1 n1 c1 zs h1
    cases hob : (Value.slice a k c).ownBlock with
    | none => exact ((Chg.refl [] w5).grown hg (fun j hj => by rw [hob] at hj; cases hj)).row h1 (fun _ _ => by simp)
    | some g =>
      refine ((Chg.refl [g] w5).grown hg (fun j hj => by rw [hob] at hj; cases hj; exact .inl (by simp))).rowOf h1 (fun j hj => ?_)
      simp only [List.mem_cons, List.not_mem_nil, or_false] at hj
      subst hj
      exact row_notrow hr5 hob (by decide)
  refine ⟨L ++ [(x, ak, ck)], ?_, ?_, ?_, ?_, ?_⟩
  · rw [List.take_succ_eq_append_getElem hk, ← hx]; simp [hL1]
  · have : nodesCells (L ++ [(x, ak, ck)]) = nodesCells L ++ (x.cells ak x.kids.length ck).toList := by
      rw [nodesCells, nodesCells, List.flatMap_append, List.flatMap_singleton]; rfl
    rw [this]; exact hr
  · intro p hp
    rcases List.mem_append.1 hp with hp | hp
    · exact hstep (h5.row (hLk p hp) (fun _ _ => by simp))
    · simp only [List.mem_cons, List.not_mem_nil, or_false] at hp
      subst hp
      exact hstep ho
  · intro j hj
    rcases hb with hb | hb
    · exact hLo j (hb.symm.trans hj)
    · rw [hb] at hj; cases hj; have := hLc.size; have := h5.size; omega
  · exact (hLc.tr0 h5).grown hg (fun j hj => .inr (hLo j hj))

set_option maxRecDepth 100000 in
set_option maxHeartbeats 2000000 in
theorem CopyNodes_any (w : World) (a : Option Addr) (n c : Nat) (ns : List Nd) (hn : n = ns.length) (hs : n ≤ 300) (hr : Nodes w a ns) (hk : ∀ x ∈ ns, x.kids.length ≤ 300) :
    Calls Try.prog 80 #[.slice a n c] w (NewNodes w ns) := by
  obtain ⟨i0, hi, hz0, hz1, hz2⟩ := info_parts Try.infoNode
  have H := Lib.hid (And.intro hn (And.intro hr hk))
  clear hn hr hk
  go_enter Try.func80, Try.ntmps80
  go_wp2_with fail
  go_loopg [4, 3] n (fun d iv ov wr => ∃ (k c' : Nat) (a' : Option Addr), d = n - k ∧ k ≤ n ∧ iv = .int .i64 k ∧ ov = .slice a' k c' ∧ Hid (CopyAt w ns k a' c' wr))
  case atStart => exact ⟨0, 0, none, rfl, Nat.zero_le _, rfl, rfl, Lib.hid ⟨[], rfl, World.ownsRow_nil _ _ _ _, by simp, (by intro j hj; cases hj), Chg.refl _ _⟩⟩
  case round =>
    obtain ⟨k, c', a', rfl, hk, rfl, rfl, hcp⟩ := hrel
    obtain ⟨wq, rfl⟩ : ∃ wq, wq = wr := ⟨_, rfl⟩
    by_cases hlt : k < n
    · have hk' : k < ns.length := by have := H.out.1; omega
      obtain ⟨L, l1, l2, l3, l4, l5⟩ := hcp.out
      have HL := Lib.hid (And.intro l1 (And.intro l2 (And.intro l3 (And.intro l4 l5))))
      obtain ⟨b, o, ak, nk, ck, rfl, hx⟩ := H.out.2.1.keep l5.kp k hk'
      have hkl := H.out.2.2 _ (List.getElem_mem hk')
      clear l1 l2 l3 l4 l5
      obtain ⟨x, hxe⟩ : ∃ x, x = ns[k] := ⟨_, rfl⟩
      rw [← hxe] at hx hkl
      have hbk := World.block_lt_of_cell? _ _ hx.k
      simp only at hbk
      obtain ⟨h0, h1, h2, h3, h4, h5, h6, h7, h8, q1, q2, q3, q4⟩ := hx
      have hcall := CopyNode_any wq x ak nk ck q1 (by omega) q4
      unfold Nd.cells at hcall
      have HR := Lib.hid (And.intro hxe (And.intro hcall hkl))
      clear q1 q2 q3 q4 hcall hkl hxe
      go_wp2_with fail
      refine HR.out.2.1.mono ?_
      rintro e w4 ⟨a4, c4, rfl, ho, hc4⟩
      have hrow4 := hc4.row HL.out.2.1 (fun _ _ => by simp)
      have h1' : ∀ u ∈ (#[.int .i64 x.k, .int .u64 x.c0, .int .u64 x.c1, .int .u64 x.c2, .int .u64 x.c3, .string x.s, .int .i64 x.r, .int .i64 x.l, .slice a4 x.kids.length c4] : Array Value).toList, u.oneCell' = true := by simp [Value.oneCell']
      have h2' : k + 1 ≤ maxLen ∧ (k + 1) * 96 ≤ 140737488355328 := by simp only [maxLen]; omega
      have hnew := cells_at (w := (w4.alloc (.cells #[.int .i64 x.k, .int .u64 x.c0, .int .u64 x.c1, .int .u64 x.c2, .int .u64 x.c3, .string x.s, .int .i64 x.r, .int .i64 x.l, .slice a4 x.kids.length c4] 32)).alloc (.cells #[.int .i64 x.k, .int .u64 x.c0, .int .u64 x.c1, .int .u64 x.c2, .int .u64 x.c3, .string x.s, .int .i64 x.r, .int .i64 x.l, .slice a4 x.kids.length c4] 32)) (heap_alloc_same _ _)
      rw [World.size_alloc] at hnew
      have H4 := Lib.hid (And.intro ho (And.intro hc4 (And.intro hrow4 (And.intro h1' (And.intro h2' hnew)))))
      clear ho hc4 hrow4 h1' h2' hnew
      unfold Nd.cells
      go_wp2_with (at_builtin; refine wpList_append_row rfl _ _ 23 rfl 32 i0 _ 9 96 Try.underlying23 hi hz0 hz1 hz2 rfl (by decide) (.slice a' k c') k (nodesCells L) rfl ((H4.out.2.2.1.alloc _).alloc _) ⟨w4.heap.size + 1, 0, none⟩ 1 1 (#[.int .i64 x.k, .int .u64 x.c0, .int .u64 x.c1, .int .u64 x.c2, .int .u64 x.c3, .string x.s, .int .i64 x.r, .int .i64 x.l, .slice a4 x.kids.length c4] : Array Value).toList rfl rfl H4.out.2.2.2.2.2 H4.out.2.2.2.1 H4.out.2.2.2.2.1.1 H4.out.2.2.2.2.1.2 ?_; intro a6 c6 w6 hr1 hg1 hk1; have HW := Lib.hid (And.intro hr1 (And.intro hg1 hk1)); clear hr1 hg1 hk1)
      go_roundg (n - (k + 1))
      case measure => omega
      case rel =>
        refine ⟨k + 1, c6, a6, rfl, by omega, by go_num, rfl, Lib.hid ?_⟩
        have hc5 := (H4.out.2.1.alloc (.cells #[.int .i64 x.k, .int .u64 x.c0, .int .u64 x.c1, .int .u64 x.c2, .int .u64 x.c3, .string x.s, .int .i64 x.r, .int .i64 x.l, .slice a4 x.kids.length c4] 32)).alloc (.cells #[.int .i64 x.k, .int .u64 x.c0, .int .u64 x.c1, .int .u64 x.c2, .int .u64 x.c3, .string x.s, .int .i64 x.r, .int .i64 x.l, .slice a4 x.kids.length c4] 32)
        have ho5 : OwnInts ((w4.alloc (.cells #[.int .i64 x.k, .int .u64 x.c0, .int .u64 x.c1, .int .u64 x.c2, .int .u64 x.c3, .string x.s, .int .i64 x.r, .int .i64 x.l, .slice a4 x.kids.length c4] 32)).alloc (.cells #[.int .i64 x.k, .int .u64 x.c0, .int .u64 x.c1, .int .u64 x.c2, .int .u64 x.c3, .string x.s, .int .i64 x.r, .int .i64 x.l, .slice a4 x.kids.length c4] 32)) (.slice a4 x.kids.length c4) x.kids := (World.ownsRow.alloc (World.ownsRow.alloc H4.out.1 _) _)
        exact copyAt_step hk' HR.out.1 hcp.out hc5 ho5 L HL.out.1 HL.out.2.2.1 HL.out.2.2.2.1 HL.out.2.1 HL.out.2.2.2.2 HW.out.1 HW.out.2.1 HW.out.2.2
    · obtain rfl : k = n := by omega
      go_wp2
      go_ret
      obtain rfl := H.out.1
      exact copyAt_end hcp.out
end Go.Proofs.Ytibgfgfmljhimaa

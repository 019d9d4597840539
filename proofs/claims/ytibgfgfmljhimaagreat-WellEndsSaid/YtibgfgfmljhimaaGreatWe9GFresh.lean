/-
  gram.Copy: the same grammar in memory of its own.
  Conditions: the grammar reads as data; it is small.
-/
import Derived.Test.YtibgfgfmljhimaaGreatWe9GCol
set_option linter.unusedVariables false
set_option linter.unusedSimpArgs false
namespace Go.Proofs.YtibgfgfmljhimaaGreat
open Go.RowKit Go.MapKept Go.Shelf
attribute [local go_sem] Oper.semAt_some

/-- A grammar of one's own, new. -/
def DupG (w : World) (g : Gr) (e : Ending) (w' : World) : Prop :=
  ∃ b1 d1 b2 d2 L, e = .returned (.agg #[.slice b1 g.rules.length d1, .slice b2 g.nodes.length d2]) ∧ L.map (·.1) = g.nodes ∧ OwnG w.heap.size w' b1 d1 b2 d2 L g.rules ∧ Chg [] w w'

/-- Between two rounds. -/
structure DupI (w : World) (Br Bo Bl : Nat) (vl : Value) (b1 : Option Addr) (d1 : Nat) (g : Gr) (pre : List Cp) (W : World) : Prop where
  own : ∃ a2 c2, W.heap[Bo]? = some (.cells #[.slice b1 g.rules.length d1, .slice a2 pre.length c2] 25 (0, 0)) ∧ OwnG w.heap.size W b1 d1 a2 c2 pre g.rules
  at_ : pre.map (·.1) = g.nodes.take pre.length
  len : pre.length ≤ g.nodes.length
  res : W.heap[Br]? = some (.cells #[.slice none 0 0, .slice none 0 0] 25 (0, 0))
  lst : W.heap[Bl]? = some (.cells #[vl] 23 (0, 0))
  chg : Chg [] w W
theorem DupI.stays {w : World} {Br Bo Bl : Nat} {vl : Value} {b1 : Option Addr} {d1 : Nat} {g : Gr} {pre : List Cp} {B : Nat} (hB : w.heap.size ≤ B) : Stays B (DupI w Br Bo Bl vl b1 d1 g pre) := by
  refine ⟨fun h hc => ?_, fun h ht => ?_⟩
  · obtain ⟨⟨a2, c2, h1, h2⟩, h3, h4, h5, h7, h6⟩ := h
    exact ⟨⟨a2, c2, hc.heap h1 (by simp), h2.chg0 hc⟩, h3, h4, hc.heap h5 (by simp), hc.heap h7 (by simp), h6.tr0 hc⟩
  · obtain ⟨⟨a2, c2, h1, h2⟩, h3, h4, h5, h7, h6⟩ := h
    exact ⟨⟨a2, c2, ht.heap h1 rfl, (OwnG.stays B _ _ _ _ _ _ _).turn h2 ht⟩, h3, h4, ht.heap h5 rfl, ht.heap h7 rfl, (Stays.since B [] w hB).turn h6 ht⟩
theorem CopyX.stays (B n₀ : Nat) (ns : List Nd) (pre : List Cp) (p : Cp) : Stays B (CopyX n₀ ns pre p) :=
  (Stays.pure _).and ((Stays.row B _ _ _ _ _ _).and (Stays.pure _))

set_option maxRecDepth 100000 in
set_option maxHeartbeats 4000000 in
theorem Copy_any (w : World) (a1 : Option Addr) (n1 c1 : Nat) (a2 : Option Addr) (n2 c2 : Nat) (g : Gr) (hg : GramAt w a1 n1 c1 a2 n2 c2 g) (hs1 : n1 ≤ 300) (hs2 : n2 ≤ 300) (hk : ∀ x ∈ g.nodes, x.kids.length ≤ 300) :
    Calls Tryz.prog 111 #[.agg #[.slice a1 n1 c1, .slice a2 n2 c2]] w (DupG w g) := by
  obtain ⟨i0, hin, hz0, hz1, hz2⟩ := info_parts Tryz.infoNode
  have HG := Lib.hid (And.intro hg (And.intro hs1 (And.intro hs2 hk)))
  clear hg hs1 hs2 hk
  refine callsIn_wide (n := 3) |>.1 ?_
  refine callsIn_of_wp_marks Tryz.func111 rfl trivial ?_ rfl
  simp only [Tryz.ntmps111, List.size_toArray, List.length_cons, List.length_nil, Nat.reduceAdd, Nat.reduceSub, Array.replicate_succ, Array.replicate_zero, List.push_toArray, List.append_toArray, List.nil_append, List.cons_append]
  gi_wp2_with fail
  refine ⟨trivial, (callsIn_wide.2 (CloneRules_any _ a1 n1 c1 g.rules HG.out.1.e1 HG.out.2.1 (HG.out.1.rules.keep (((Chg.refl [] w).alloc _).alloc _).kp))).mono ?_⟩
  rintro e w2 ⟨b1, d1, rfl, hR, hc2⟩
  have hb0 := hc2.heap (heap_alloc_lt (heap_alloc_same _ _) _) (by simp)
  have hb1 := hc2.heap (heap_alloc_same _ _) (by simp)
  have hl := hc2.size
  simp only [World.size_alloc] at hb1 hl hR
  have hcw := (((Chg.refl [] w).alloc _).alloc _).tr0 hc2
  have H2 := Lib.hid (And.intro hR (And.intro hcw (And.intro hb0 hb1)))
  obtain ⟨x0, x1⟩ := cells2 (heap_alloc_lt hb0 (.cells #[.slice b1 g.rules.length d1, .slice none 0 0] 25))
  clear hR hcw hb0 hb1 hc2
  gi_wp2_with fail
  refine ⟨trivial, (callsIn_wide.2 (copies_any _ a2 n2 c2)).mono ?_⟩
  rintro e w3 ⟨rfl, rfl⟩
  simp only [World.size_alloc]
  clear x0 x1
  have hc3 := ((H2.out.2.1.alloc (.cells #[.slice b1 g.rules.length d1, .slice none 0 0] 25)).alloc (.cells #[.slice a2 n2 c2] 23))
  have hk3 := ((Chg.refl [] w2).alloc (.cells #[.slice b1 g.rules.length d1, .slice none 0 0] 25)).alloc (.cells #[.slice a2 n2 c2] 23)
  have hO := heap_alloc_lt (heap_alloc_same w2 (.cells #[.slice b1 g.rules.length d1, .slice none 0 0] 25)) (.cells #[.slice a2 n2 c2] 23)
  have hL := heap_alloc_same (w2.alloc (.cells #[.slice b1 g.rules.length d1, .slice none 0 0] 25)) (.cells #[.slice a2 n2 c2] 23)
  rw [World.size_alloc] at hL
  have hsz : ((w2.alloc (.cells #[.slice b1 g.rules.length d1, .slice none 0 0] 25)).alloc (.cells #[.slice a2 n2 c2] 23)).heap.size = w2.heap.size + 2 := by simp
  obtain ⟨w3, e3⟩ : ∃ w3, w3 = (w2.alloc (.cells #[.slice b1 g.rules.length d1, .slice none 0 0] 25)).alloc (.cells #[.slice a2 n2 c2] 23) := ⟨_, rfl⟩
  rw [← e3] at hc3 hk3 hO hL hsz ⊢
  clear e3
  have hres := hk3.heap H2.out.2.2.2 (by simp)
  have hR3 : FreshRules w.heap.size w3 b1 d1 g.rules := row_base (hk3.row H2.out.1 (fun _ _ => by simp)) (by omega)
  have H3 := Lib.hid (And.intro hc3 (And.intro hO (And.intro hL (And.intro hsz (And.intro hres hR3)))))
  have hgives := copies_gives w w3 (w2.heap.size + 1) a2 n2 c2 g.nodes HG.out.1.e2 HG.out.2.2.1 HG.out.2.2.2 HG.out.1.nodes hc3.size (fun k hk => hc3.block k hk (by simp)) hL
  clear hc3 hO hL hres hR3 hk3
  gi_wp2
  have hw3 := H3.out.1.size
  refine range_gives (gf := 182) (lb := #[.pointer (some ⟨w2.heap.size + 1, 0, none⟩)]) rfl (enters_of Tryz.func182 (by kernel_rfl) rfl) hgives (fun pre x => CopyX.stays _ _ _ _ _) ?hK (Chg.refl [] _) (fun _ => rfl)
    (DupI w (w.heap.size + 1) w2.heap.size (w2.heap.size + 1) (.slice a2 n2 c2) b1 d1 g) (fun _ _ _ => False) (fun s => DupI.stays hw3) (fun _ _ => Stays.pure _) ?h0
    (fun x a' W => ∃ Bx, W.heap[Bx]? = some (.cells (x.1.cells x.2.1 x.1.kids.length x.2.2) 53 (0, 0)) ∧ a' = { tmps := #[.agg #[.slice a1 n1 c1, .slice a2 n2 c2], .pointer (some ⟨w.heap.size, 0, none⟩), .pointer (some ⟨w.heap.size + 1, 0, none⟩), .pointer (some ⟨w2.heap.size, 0, none⟩), .pointer (some ⟨Bx, 0, none⟩), .pointer (some ⟨w.heap.size, 0, none⟩), .slice a1 n1 c1, .slice b1 g.rules.length d1, .agg #[.slice b1 g.rules.length d1, .slice none 0 0], .pointer (some ⟨w.heap.size, 1, none⟩), .slice a2 n2 c2, .func (.func 182) #[] #[.pointer (some ⟨w2.heap.size + 1, 0, none⟩)], .agg (x.1.cells x.2.1 x.1.kids.length x.2.2), undef, undef, undef, undef, undef, undef, undef], defers := [] })
    (fun x a' => Stays.ex fun Bx => (Stays.block _ _ _ rfl).and (Stays.pure _)) ?assign ?body ?done ?stop
  case hK =>
    intro pre x A A1 A2 B B' hc ht hk ht2
    exact ((Keeps.of_chg hc (by simp)).trans (.of_turn ht hw3 (by omega))).trans (hk.trans (.of_turn ht2 hw3 (by omega)))
  case h0 =>
    obtain ⟨h1, h2, h3, h4, h5, h6⟩ := H3.out
    exact ⟨⟨none, 0, h2, ⟨h6, World.ownsRow_nil _ _ _ _, by simp, List.Pairwise.nil⟩⟩, by simp, Nat.zero_le _, h5, h3, h1⟩
  case assign =>
    rintro l pre x W K hi hx hK
    simp only [encCp, Nd.cells]
    gi_wp2
    exact hK _ _ ((Chg.refl [] W).alloc _) ⟨W.heap.size, heap_alloc_same _ _, rfl⟩
  case body =>
    rintro l pre x a' W hi hx ⟨Bx, hBx, rfl⟩
    obtain ⟨⟨a4, c4, hO, hown⟩, hat, hlen, hres, hlst, hch⟩ := hi
    obtain ⟨⟨hx1, hx2⟩, hx3, hx4⟩ := hx
    unfold Nd.cells at hBx
    obtain ⟨y0, y1, y2, y3, y4, y5, y6, y7, y8⟩ := cells9 hBx
    obtain ⟨o0, o1⟩ := cells2 hO
    have f1 := free_of_cells hO 1
    have h1' : ∀ u ∈ (#[.int .i64 x.1.k, .int .u64 x.1.c0, .int .u64 x.1.c1, .int .u64 x.1.c2, .int .u64 x.1.c3, .string x.1.s, .int .i64 x.1.r, .int .i64 x.1.l, .slice x.2.1 x.1.kids.length x.2.2] : Array Value).toList, u.oneCell' = true := by simp [Value.oneCell']
    have h2' : pre.length + 1 ≤ maxLen ∧ (pre.length + 1) * 96 ≤ 140737488355328 := by have := HG.out.2.2.1; have := HG.out.1.e2; simp only [maxLen]; omega
    have hnew := cells_at (w := W.alloc (.cells #[.int .i64 x.1.k, .int .u64 x.1.c0, .int .u64 x.1.c1, .int .u64 x.1.c2, .int .u64 x.1.c3, .string x.1.s, .int .i64 x.1.r, .int .i64 x.1.l, .slice x.2.1 x.1.kids.length x.2.2] 53)) (heap_alloc_same _ _)
    have hbase : w.heap.size ≤ (W.alloc (.cells #[.int .i64 x.1.k, .int .u64 x.1.c0, .int .u64 x.1.c1, .int .u64 x.1.c2, .int .u64 x.1.c3, .string x.1.s, .int .i64 x.1.r, .int .i64 x.1.l, .slice x.2.1 x.1.kids.length x.2.2] 53)).heap.size := by have := hch.size; simp; omega
    have HB := Lib.hid (And.intro hown (And.intro h1' (And.intro h2' (And.intro hnew hbase))))
    have HC := Lib.hid (And.intro hO (And.intro hat (And.intro hlen (And.intro hres (And.intro hch (And.intro hx1 (And.intro hx2 (And.intro hx3 (And.intro hx4 hlst)))))))))
    clear hown hO hat hlen hres hch hx1 hx2 hx3 hx4 hlst h1' h2' hnew hbase hBx
    unfold Nd.cells
    gi_wp2_with (gi_at_builtin; refine wpListIn_append_own _ rfl _ _ 23 rfl w.heap.size 53 i0 _ 9 96 Tryz.underlying23 hin hz0 hz1 hz2 rfl (by decide) (.slice a4 pre.length c4) pre.length (nodesCells pre) rfl (World.ownsRow.alloc HB.out.1.nodes _) ⟨W.heap.size, 0, none⟩ 1 1 (#[.int .i64 x.1.k, .int .u64 x.1.c0, .int .u64 x.1.c1, .int .u64 x.1.c2, .int .u64 x.1.c3, .string x.1.s, .int .i64 x.1.r, .int .i64 x.1.l, .slice x.2.1 x.1.kids.length x.2.2] : Array Value).toList rfl rfl HB.out.2.2.2.1 HB.out.2.1 HB.out.2.2.1.1 HB.out.2.2.1.2 HB.out.2.2.2.2 ?_; intro v' w5 hr5 hg5 hn5; obtain ⟨a5, c5, rfl⟩ := ownsRow_slice hr5; have hO5 := grown_heap hg5 (heap_alloc_lt HC.out.1 _) (ownsRow_ne HB.out.1.nodes HC.out.1 (by decide)); have o5 := (cells2 hO5).2; have f5 := free_of_cells hO5 1; have HW := Lib.hid (And.intro hr5 (And.intro hg5 hO5)); clear hr5 hg5 hn5 hO5)
    obtain ⟨hO, hat, hlen, hres, hch, hx1, hx2, hx3, hx4, hlst⟩ := HC.out
    obtain ⟨hr5, hg5, hO5⟩ := HW.out
    have hown := HB.out.1
    clear y0 y1 y2 y3 y4 y5 y6 y7 y8 o0 o1 f1 o5 f5
    have hcA := ((Chg.refl (Value.slice a4 pre.length c4).ownBlock.toList W).alloc _).grown hg5 (fun k hk => .inl (by rw [hk]; simp))
    have hc6 := (hcA.mono (T := w2.heap.size :: (Value.slice a4 pre.length c4).ownBlock.toList) (fun j hj => .inl (by simp [hj]))).setCell (p := ⟨w2.heap.size, 1, none⟩) (.inl (by simp)) (.slice a5 (pre.length + 1) c5)
    have hS : ∀ k ∈ w2.heap.size :: (Value.slice a4 pre.length c4).ownBlock.toList, k = w2.heap.size ∨ (Value.slice a4 pre.length c4).ownBlock = some k := by
      intro k hk
      rcases List.mem_cons.1 hk with h | h
      · exact .inl h
      · exact .inr (by simpa using h)
    have hO6 := heap_setCell_same hO5 1 (.slice a5 (pre.length + 1) c5)
    refine ⟨keepsFrom_of_chg hc6 (fun k hk => .inr ?_), Keeps.of_chg hc6 (fun k hk => ?_), ⟨⟨a5, c5, ?_, ?_⟩, ?_, ?_, ?_, ?_, ?_⟩⟩
    · rcases hS k hk with rfl | h
      · exact ⟨_, _, _, hO⟩
      · obtain ⟨_, _, cur, h3⟩ := row_beyond hown.nodes h
        exact ⟨_, _, _, h3⟩
    · rcases hS k hk with rfl | h
      · omega
      · exact ⟨(row_beyond hown.nodes h).1, fun e => by subst e; exact ownsRow_ne hown.nodes hlst (by decide) h⟩
    · rw [List.length_append]; simpa using hO6
    · have h5 := (hown.chg0 ((Chg.refl [] W).alloc _)).snoc (p := x) (hx3 |> fun h => (((Chg.refl [] W).alloc _).row h (fun _ _ => by simp))) hx4 hr5 hg5
      refine h5.chg ((Chg.refl [w2.heap.size] w5).setCell (p := ⟨w2.heap.size, 1, none⟩) (.inl (by simp)) _) (fun k hk => ?_)
      simp only [List.mem_singleton] at hk
      subst hk
      exact ⟨.of_cells hO5 (by decide), .of_cells hO5 (by decide), .of_cells hO5 (by decide)⟩
    · rw [List.map_append, List.length_append, hat, List.length_singleton, List.take_add_one, hx2]; rfl
    · rw [List.length_append, List.length_singleton]; omega
    · refine hc6.heap hres (fun hm => ?_)
      rcases hS _ hm with h | h
      · omega
      · exact ownsRow_ne hown.nodes hres (by decide) h
    · refine hc6.heap hlst (fun hm => ?_)
      rcases hS _ hm with h | h
      · omega
      · exact ownsRow_ne hown.nodes hlst (by decide) h
    · refine hch.trans hc6 (fun k hk => .inr ?_)
      rcases hS k hk with rfl | h
      · omega
      · exact (row_beyond hown.nodes h).1
  case done =>
    rintro D xs W hD hS ⟨⟨a4, c4, hO, hown⟩, hat, hlen, hres, hlst, hch⟩ hd
    obtain ⟨o0, o1⟩ := cells2 hO
    obtain ⟨r0, r1⟩ := cells2 hres
    have f0 := free_of_cells hres 0
    have f1 := free_of_cells hres 1
    have HD := Lib.hid (And.intro hO (And.intro hown (And.intro hat (And.intro hres (And.intro hch (And.intro hd (And.intro hS hD)))))))
    clear hO hown hat hlen hres hlst hch hd hS hD
    gi_wp2
    clear o0 o1 r0 r1 f0 f1
    obtain ⟨hO, hown, hat, hres, hch, hd, hS, hD⟩ := HD.out
    have hc := ((Chg.refl [w.heap.size + 1] W).setCell (p := ⟨w.heap.size + 1, 0, none⟩) (.inl (by simp)) (.slice b1 g.rules.length d1)).setCell (p := ⟨w.heap.size + 1, 1, none⟩) (.inl (by simp)) (.slice a4 xs.length c4)
    have hz := heap_setCell_same (heap_setCell_same hres 0 (.slice b1 g.rules.length d1)) 1 (.slice a4 xs.length c4)
    have hown6 := hown.chg hc (fun k hk => by simp only [List.mem_singleton] at hk; subst hk; exact ⟨.of_cells hres (by decide), .of_cells hres (by decide), .of_cells hres (by decide)⟩)
    have hch6 := hch.trans hc (fun k hk => by simp at hk; omega)
    have hd6 := hc.heap hd (by simp; omega)
    obtain ⟨w6, e6⟩ : ∃ w6, w6 = (W.setCell ⟨w.heap.size + 1, 0, none⟩ (.slice b1 g.rules.length d1)).setCell ⟨w.heap.size + 1, 1, none⟩ (.slice a4 xs.length c4) := ⟨_, rfl⟩
    rw [← e6] at hz hown6 hch6 hd6 ⊢
    clear e6 hc
    simp at hz
    have ht : Turn w3.heap.size w6 (w6.putObj D (.deferred none)) := ⟨_, _, _, hD, hd6, rfl, rfl, rfl⟩
    have hz7 := ht.heap hz rfl
    have hown7 := (OwnG.stays _ _ _ _ _ _ _ _).turn hown6 ht
    have hch7 := (Stays.since _ [] w hw3).turn hch6 ht
    refine ⟨by simp, .inl ⟨_, _, rfl, run_takeDeferred hd6, ?_⟩⟩
    obtain ⟨w7, e7⟩ : ∃ w7, w7 = w6.putObj D (.deferred none) := ⟨_, rfl⟩
    rw [← e7] at hz7 hown7 hch7 ⊢
    obtain ⟨c0, c1'⟩ := cells2 hz7
    have hTl := lt_of_block hz7
    refine ⟨.agg #[.slice b1 g.rules.length d1, .slice a4 xs.length c4], by simp [results, Tryz.results111, go_sem, c0, c1', hTl], ?_⟩
    rw [hS, List.take_length] at hat
    exact ⟨b1, d1, a4, c4, xs, by rw [hS], hat, hown7, hch7⟩
  case stop =>
    rintro D c pre W hD _ h _
    exact h.elim
end Go.Proofs.YtibgfgfmljhimaaGreat
set_option linter.unusedVariables false
set_option linter.unusedSimpArgs false
namespace Go.Proofs.YtibgfgfmljhimaaGreat
open Go.RowKit Go.MapKept Go.Shelf

set_option maxRecDepth 100000 in
set_option maxHeartbeats 1000000 in
theorem CopyIntsF_any (w : World) (a : Option Addr) (n c : Nat) (zs : List Int) (hn : n = zs.length) (hs : n ≤ 17592186044416) (hz : Ints w a zs) :
    Calls Tryz.prog 169 #[.slice a n c] w (ClonedInts w zs) := by
  obtain ⟨i0, hi, hz0, hz1, hz2⟩ := info_parts Tryz.infoInt
  cases a with
  | none =>
    obtain rfl := ints_none hz
    obtain rfl : n = 0 := by simpa using hn
    clear hz hn
    have hnil : w.ownsRow w.heap.size 3 1 (.slice none 0 0) 0 [] := World.ownsRow_nil _ _ _ _
    have HN := Lib.hid hnil
    clear hnil
    go_enter Tryz.func169, Tryz.ntmps169
    go_wp2_with (at_builtin; refine wpList_append_nil rfl _ _ 48 rfl w.heap.size 3 i0 1 c Tryz.underlying48 hi (.slice none 0 0) 0 [] rfl HN.out rfl ?_)
    go_ret
    exact ⟨none, 0, rfl, HN.out, Chg.refl _ _⟩
  | some b =>
    have hl : (zs.map (Value.int .i64)).length = n * 1 := by simp [hn]
    have h1 : ∀ u ∈ zs.map (Value.int .i64), u.oneCell' = true := by
      intro u hu
      obtain ⟨z, _, rfl⟩ := List.mem_map.1 hu
      rfl
    have h2 : 0 + n ≤ maxLen ∧ (0 + n) * 8 ≤ 140737488355328 := by simp only [maxLen]; omega
    have HN := Lib.hid (And.intro hl (And.intro (ints_some hz) (And.intro h1 (And.intro h2 hn))))
    clear hl h1 h2 hz hn
    go_enter Tryz.func169, Tryz.ntmps169
    go_wp2_with (at_builtin; refine wpList_append_own_at _ rfl _ _ 48 rfl w.heap.size 3 i0 _ 1 8 Tryz.underlying48 hi hz0 hz1 hz2 rfl (by decide) (.slice none 0 0) 0 [] rfl (World.ownsRow_nil _ _ _ _) b n c (zs.map (Value.int .i64)) rfl HN.out.1 HN.out.2.1 HN.out.2.2.1 HN.out.2.2.2.1.1 HN.out.2.2.2.1.2 (Nat.le_refl _) ?_; intro v' w1 hown hgrow hnil hblk; obtain ⟨a', c', rfl⟩ := ownsRow_slice hown; have HW := Lib.hid (And.intro hown hgrow); clear hown hgrow hnil hblk)
    go_ret
    obtain ⟨hl, h3, h1, h2, hn⟩ := HN.out
    obtain ⟨hr, hg⟩ := HW.out
    subst hn
    simp only [Nat.zero_add] at hr ⊢
    exact ⟨a', c', rfl, by simpa [FreshInts] using hr, (Chg.refl _ _).grown hg (fun k hk => by cases hk)⟩

def NewNodeF (w : World) (x : Nd) (e : Ending) (w' : World) : Prop :=
  ∃ a c, e = .returned (.agg (x.cells a x.kids.length c)) ∧ FreshInts w.heap.size w' a c x.kids ∧ Chg [] w w'

set_option maxRecDepth 100000 in
set_option maxHeartbeats 1000000 in
theorem CopyNodeF_any (w : World) (x : Nd) (a : Option Addr) (n c : Nat) (hn : n = x.kids.length) (hs : n ≤ 17592186044416) (hz : Ints w a x.kids) :
    Calls Tryz.prog 145 #[.agg (x.cells a n c)] w (NewNodeF w x) := by
  have HN := Lib.hid (And.intro hn (And.intro hs hz))
  clear hn hs hz
  unfold Nd.cells
  go_enter Tryz.func145, Tryz.ntmps145
  go_wp2_with fail
  refine (CopyIntsF_any _ _ _ _ _ HN.out.1 HN.out.2.1 (HN.out.2.2.keep (((Chg.refl [] w).alloc _).alloc _).kp)).mono ?_
  rintro e w3 ⟨a', c', rfl, h1, h2⟩
  have hb0 := h2.heap (heap_alloc_lt (heap_alloc_same _ _) _) (by simp)
  have hb1 := h2.heap (heap_alloc_same _ _) (by simp)
  have hc := (((Chg.refl [] w).alloc _).alloc _).tr0 h2
  have hl := h2.size
  simp only [World.size_alloc] at hb1 hl h1
  have h1 := row_base h1 (show w.heap.size ≤ w.heap.size + 1 + 1 by omega)
  have H := Lib.hid (And.intro h1 (And.intro hc (And.intro hb0 hb1)))
  clear h1 h2 hc hb0 hb1
  obtain ⟨x0, x1, x2, x3, x4, x5, x6, x7, x8⟩ := cells9 H.out.2.2.1
  have f8 := free_of_cells H.out.2.2.1 8
  obtain ⟨y0, y1, y2, y3, y4, y5, y6, y7, y8⟩ := cells9 H.out.2.2.2
  have g0 := free_of_cells H.out.2.2.2 0
  have g1 := free_of_cells H.out.2.2.2 1
  have g2 := free_of_cells H.out.2.2.2 2
  have g3 := free_of_cells H.out.2.2.2 3
  have g4 := free_of_cells H.out.2.2.2 4
  have g5 := free_of_cells H.out.2.2.2 5
  have g6 := free_of_cells H.out.2.2.2 6
  have g7 := free_of_cells H.out.2.2.2 7
  have g8 := free_of_cells H.out.2.2.2 8
  go_wp2_with fail
  have z0 := heap_set_ne (c := w.heap.size) (i := 8) (u := .slice a' x.kids.length c') H.out.2.2.2 (by omega)
  obtain ⟨w4, e4, z, hch⟩ := nine_set z0 (.int .i64 x.k) (.int .u64 x.c0) (.int .u64 x.c1) (.int .u64 x.c2) (.int .u64 x.c3) (.string x.s) (.int .i64 x.r) (.int .i64 x.l) (.slice a' x.kids.length c')
  rw [← e4]
  clear e4 z0 x0 x1 x2 x3 x4 x5 x6 x7 x8 y0 y1 y2 y3 y4 y5 y6 y7 y8 f8 g0 g1 g2 g3 g4 g5 g6 g7 g8
  have hch := ((Chg.refl [w.heap.size, w.heap.size + 1] w3).setCell (p := ⟨w.heap.size, 8, none⟩) (.inl (by simp)) (.slice a' x.kids.length c')).trans hch (fun j hj => .inl (by simp at hj; simp [hj]))
  obtain ⟨q0, q1, q2, q3, q4, q5, q6, q7, q8⟩ := cells9 z
  have hTl := lt_of_block z
  refine bodyPost_ret (v := .agg #[.int .i64 x.k, .int .u64 x.c0, .int .u64 x.c1, .int .u64 x.c2, .int .u64 x.c3, .string x.s, .int .i64 x.r, .int .i64 x.l, .slice a' x.kids.length c']) (by simp [results, Tryz.results145, go_sem, q0, q1, q2, q3, q4, q5, q6, q7, q8, hTl]) rfl ?_
  refine ⟨a', c', rfl, hch.rowOf H.out.1 ?_, H.out.2.1.trans hch ?_⟩
  · intro k hk
    simp only [List.mem_cons, List.not_mem_nil, or_false] at hk
    rcases hk with rfl | rfl
    · exact NotRow.of_cells H.out.2.2.1 (by decide)
    · exact NotRow.of_cells H.out.2.2.2 (by decide)
  · intro k hk
    simp only [List.mem_cons, List.not_mem_nil, or_false] at hk
    rcases hk with rfl | rfl <;> right <;> omega

/-- Nodes in rows of their own. -/
def NewBody (w : World) (ns : List Nd) (e : Ending) (w' : World) : Prop :=
  ∃ a c L, e = .returned (.slice a ns.length c) ∧ L.map (·.1) = ns ∧ OwnG w.heap.size w' none 0 a c L [] ∧ Chg [] w w'

set_option maxRecDepth 100000 in
set_option maxHeartbeats 2000000 in
theorem CopyNodesF_any (w : World) (a : Option Addr) (n c : Nat) (ns : List Nd) (hn : n = ns.length) (hs : n ≤ 3000) (hr : Nodes w a ns) (hk : ∀ x ∈ ns, x.kids.length ≤ 3000) :
    Calls Tryz.prog 94 #[.slice a n c] w (NewBody w ns) := by
  obtain ⟨i0, hi, hz0, hz1, hz2⟩ := info_parts Tryz.infoNode
  have H := Lib.hid (And.intro hn (And.intro hr hk))
  clear hn hr hk
  go_enter Tryz.func94, Tryz.ntmps94
  go_wp2_with fail
  go_loopg [4, 3] n (fun d iv ov wr => ∃ (k c' : Nat) (a' : Option Addr) (L : List Cp), d = n - k ∧ k ≤ n ∧ iv = .int .i64 k ∧ ov = .slice a' k c' ∧ Hid (L.length = k ∧ L.map (·.1) = ns.take k ∧ OwnG w.heap.size wr none 0 a' c' L [] ∧ Chg [] w wr))
  case atStart => exact ⟨0, 0, none, [], rfl, Nat.zero_le _, rfl, rfl, Lib.hid ⟨rfl, rfl, ⟨World.ownsRow_nil _ _ _ _, World.ownsRow_nil _ _ _ _, by simp, List.Pairwise.nil⟩, Chg.refl _ _⟩⟩
  case round =>
    obtain ⟨k, c', a', L, rfl, hk, rfl, rfl, hcp⟩ := hrel
    obtain ⟨wq, rfl⟩ : ∃ wq, wq = wr := ⟨_, rfl⟩
    by_cases hlt : k < n
    · have hk' : k < ns.length := by have := H.out.1; omega
      obtain ⟨b, o, ak, nk, ck, rfl, hx⟩ := H.out.2.1.keep hcp.out.2.2.2.kp k hk'
      have hkl := H.out.2.2 _ (List.getElem_mem hk')
      obtain ⟨x, hxe⟩ : ∃ x, x = ns[k] := ⟨_, rfl⟩
      rw [← hxe] at hx hkl
      have hbk := World.block_lt_of_cell? _ _ hx.k
      simp only at hbk
      obtain ⟨h0, h1, h2, h3, h4, h5, h6, h7, h8, q1, q2, q3, q4⟩ := hx
      have hcall := CopyNodeF_any wq x ak nk ck q1 (by omega) q4
      unfold Nd.cells at hcall
      have HR := Lib.hid (And.intro hxe (And.intro hcall hkl))
      clear q1 q2 q3 q4 hcall hkl hxe
      go_wp2_with fail
      refine HR.out.2.1.mono ?_
      rintro e w4 ⟨a4, c4, rfl, ho, hc4⟩
      have hc5 := (hc4.alloc (.cells #[.int .i64 x.k, .int .u64 x.c0, .int .u64 x.c1, .int .u64 x.c2, .int .u64 x.c3, .string x.s, .int .i64 x.r, .int .i64 x.l, .slice a4 x.kids.length c4] 53)).alloc (.cells #[.int .i64 x.k, .int .u64 x.c0, .int .u64 x.c1, .int .u64 x.c2, .int .u64 x.c3, .string x.s, .int .i64 x.r, .int .i64 x.l, .slice a4 x.kids.length c4] 53)
      have ho5 : FreshInts wq.heap.size ((w4.alloc (.cells #[.int .i64 x.k, .int .u64 x.c0, .int .u64 x.c1, .int .u64 x.c2, .int .u64 x.c3, .string x.s, .int .i64 x.r, .int .i64 x.l, .slice a4 x.kids.length c4] 53)).alloc (.cells #[.int .i64 x.k, .int .u64 x.c0, .int .u64 x.c1, .int .u64 x.c2, .int .u64 x.c3, .string x.s, .int .i64 x.r, .int .i64 x.l, .slice a4 x.kids.length c4] 53)) a4 c4 x.kids := (World.ownsRow.alloc (World.ownsRow.alloc ho _) _)
      have hown5 := hcp.out.2.2.1.chg0 hc5
      have h1' : ∀ u ∈ (#[.int .i64 x.k, .int .u64 x.c0, .int .u64 x.c1, .int .u64 x.c2, .int .u64 x.c3, .string x.s, .int .i64 x.r, .int .i64 x.l, .slice a4 x.kids.length c4] : Array Value).toList, u.oneCell' = true := by simp [Value.oneCell']
      have h2' : k + 1 ≤ maxLen ∧ (k + 1) * 96 ≤ 140737488355328 := by simp only [maxLen]; omega
      have hnew := cells_at (w := (w4.alloc (.cells #[.int .i64 x.k, .int .u64 x.c0, .int .u64 x.c1, .int .u64 x.c2, .int .u64 x.c3, .string x.s, .int .i64 x.r, .int .i64 x.l, .slice a4 x.kids.length c4] 53)).alloc (.cells #[.int .i64 x.k, .int .u64 x.c0, .int .u64 x.c1, .int .u64 x.c2, .int .u64 x.c3, .string x.s, .int .i64 x.r, .int .i64 x.l, .slice a4 x.kids.length c4] 53)) (heap_alloc_same _ _)
      rw [World.size_alloc] at hnew
      have hnodes5 := hown5.nodes
      rw [hcp.out.1] at hnodes5
      have hcw := hcp.out.2.2.2.tr0 hc5
      have hsz := hcw.size
      have H4 := Lib.hid (And.intro ho5 (And.intro hc5 (And.intro hnodes5 (And.intro h1' (And.intro h2' (And.intro hnew (And.intro hcw (And.intro hsz hown5))))))))
      clear ho hc4 h1' h2' hnew ho5 hc5 hnodes5 hown5 hcw hsz
      unfold Nd.cells
      go_wp2_with (at_builtin; refine wpList_append_own_at _ rfl _ _ 23 rfl w.heap.size 53 i0 _ 9 96 Tryz.underlying23 hi hz0 hz1 hz2 rfl (by decide) (.slice a' k c') k (nodesCells L) rfl H4.out.2.2.1 ⟨w4.heap.size + 1, 0, none⟩ 1 1 (#[.int .i64 x.k, .int .u64 x.c0, .int .u64 x.c1, .int .u64 x.c2, .int .u64 x.c3, .string x.s, .int .i64 x.r, .int .i64 x.l, .slice a4 x.kids.length c4] : Array Value).toList rfl rfl H4.out.2.2.2.2.2.1 H4.out.2.2.2.1 H4.out.2.2.2.2.1.1 H4.out.2.2.2.2.1.2 H4.out.2.2.2.2.2.2.2.1 ?_; intro v' w6 hr1 hg1 hk1 hb1; obtain ⟨a6, c6, rfl⟩ := ownsRow_slice hr1; have HW := Lib.hid (And.intro hr1 (And.intro hg1 hk1)); clear hr1 hg1 hk1 hb1)
      go_roundg (n - (k + 1))
      case measure => omega
      case rel =>
        refine ⟨k + 1, c6, a6, L ++ [(x, a4, c4)], rfl, by omega, by go_num, rfl, Lib.hid ⟨by simp [hcp.out.1], ?_, ?_, ?_⟩⟩
        · rw [List.take_succ_eq_append_getElem hk', ← HR.out.1]; simp [hcp.out.2.1]
        · refine H4.out.2.2.2.2.2.2.2.2.snoc (p := (x, a4, c4)) (row_base H4.out.1 (by have := hcp.out.2.2.2.size; omega)) ?_ ?_ ?_
          · intro q hq i j hi hj
            have h1 := (row_beyond (hcp.out.2.2.1.kids q hq) hi).2.1
            have h2 := (row_beyond H4.out.1 hj).1
            omega
          · have := HW.out.1
            rw [hcp.out.1]
            exact this
          · have := HW.out.2.1
            rw [hcp.out.1]
            exact this
        · have hrow := hcp.out.2.2.1.nodes
          refine H4.out.2.2.2.2.2.2.1.grown HW.out.2.1 (fun j hj => .inr ?_)
          rw [← hcp.out.1] at hj
          exact (row_beyond hrow hj).1
    · obtain rfl : k = n := by omega
      go_wp2
      go_ret
      obtain rfl := H.out.1
      have h1 := hcp.out.2.1
      rw [List.take_length] at h1
      exact ⟨a', c', L, rfl, h1, hcp.out.2.2.1, hcp.out.2.2.2⟩
end Go.Proofs.YtibgfgfmljhimaaGreat

/-
  A grammar in memory of one's own: what it is, what leaves it as it is, how it grows by a node, how a cell of it is written.
  Conditions: none.
-/
import Derived.Test.YtibgfgfmljhimaaGreatWe9GWalk
import Derived.Test.YtibgfgfmljhimaaGreatWe9GRnd
set_option linter.unusedVariables false
set_option linter.unusedSimpArgs false
namespace Go.Proofs.YtibgfgfmljhimaaGreat
open Go.RowKit Go.MapKept Go.Shelf

/-- Rules, nodes and each node's kids in rows of their own, all beyond B. -/
structure OwnG (B : Nat) (w : World) (b1 : Option Addr) (d1 : Nat) (b2 : Option Addr) (d2 : Nat) (L : List Cp) (rs : List Rl) : Prop where
  rules : FreshRules B w b1 d1 rs
  nodes : w.ownsRow B 53 9 (.slice b2 L.length d2) L.length (nodesCells L)
  kids : ∀ p ∈ L, FreshInts B w p.2.1 p.2.2 p.1.kids
  apart : L.Pairwise fun q p => ∀ i j, q.own = some i → p.own = some j → i < j
theorem OwnG.gram {B : Nat} {w : World} {b1 : Option Addr} {d1 : Nat} {b2 : Option Addr} {d2 : Nat} {L : List Cp} {rs : List Rl} (h : OwnG B w b1 d1 b2 d2 L rs) (wf : Gr.Wf ⟨rs, L.map (·.1)⟩) : GramAt w b1 rs.length d1 b2 L.length d2 ⟨rs, L.map (·.1)⟩ := by
  obtain ⟨k1, k2, k3, k4⟩ := rules_row (row_base h.rules (Nat.zero_le _))
  obtain ⟨m1, m2, m3, m4⟩ := nodes_row (row_base h.nodes (Nat.zero_le _)) (fun p hp => (h.kids p hp).own)
  exact ⟨rfl, k3, k4, k1, by simp, m3, m4, m1, wf⟩
/-- What is no row of it is changed. -/
theorem OwnG.chg {B : Nat} {w w' : World} {S : List Nat} {b1 : Option Addr} {d1 : Nat} {b2 : Option Addr} {d2 : Nat} {L : List Cp} {rs : List Rl} (h : OwnG B w b1 d1 b2 d2 L rs) (hc : Chg S w w')
    (hS : ∀ k ∈ S, NotRow w 43 k ∧ NotRow w 53 k ∧ NotRow w 3 k) : OwnG B w' b1 d1 b2 d2 L rs :=
  ⟨hc.rowOf h.rules (fun k hk => (hS k hk).1), hc.rowOf h.nodes (fun k hk => (hS k hk).2.1), fun p hp => hc.rowOf (h.kids p hp) (fun k hk => (hS k hk).2.2), h.apart⟩
theorem OwnG.chg0 {B : Nat} {w w' : World} {b1 : Option Addr} {d1 : Nat} {b2 : Option Addr} {d2 : Nat} {L : List Cp} {rs : List Rl} (h : OwnG B w b1 d1 b2 d2 L rs) (hc : Chg [] w w') : OwnG B w' b1 d1 b2 d2 L rs := h.chg hc (by simp)
theorem OwnG.stays (B0 B : Nat) (b1 : Option Addr) (d1 : Nat) (b2 : Option Addr) (d2 : Nat) (L : List Cp) (rs : List Rl) : Stays B0 fun W => OwnG B W b1 d1 b2 d2 L rs :=
  ⟨fun h hc => h.chg0 hc, fun h ht => ⟨(Stays.row B0 _ _ _ _ _ _).turn h.rules ht, (Stays.row B0 _ _ _ _ _ _).turn h.nodes ht, fun p hp => (Stays.row B0 _ _ _ _ _ _).turn (h.kids p hp) ht, h.apart⟩⟩
/-- It lies apart from what lay below B. -/
theorem OwnG.below {B B' : Nat} {w : World} {b1 : Option Addr} {d1 : Nat} {b2 : Option Addr} {d2 : Nat} {L : List Cp} {rs : List Rl} (h : OwnG B w b1 d1 b2 d2 L rs) (hB : B' ≤ B) : OwnG B' w b1 d1 b2 d2 L rs :=
  ⟨row_base h.rules hB, row_base h.nodes hB, fun p hp => row_base (h.kids p hp) hB, h.apart⟩
/-- Blocks below B are changed. -/
theorem OwnG.under {B : Nat} {w w' : World} {S : List Nat} {b1 : Option Addr} {d1 : Nat} {b2 : Option Addr} {d2 : Nat} {L : List Cp} {rs : List Rl} (h : OwnG B w b1 d1 b2 d2 L rs) (hc : Chg S w w') (hS : ∀ k ∈ S, k < B) : OwnG B w' b1 d1 b2 d2 L rs := by
  have key : ∀ {e size n : Nat} {v : Value} {xs : List Value}, w.ownsRow B e size v n xs → w'.ownsRow B e size v n xs := fun h1 => hc.row h1 (fun k hk hm => by have := (row_beyond h1 hk).1; have := hS k hm; omega)
  exact ⟨key h.rules, key h.nodes, fun p hp => key (h.kids p hp), h.apart⟩
/-- The node's row, behind a node more. -/
theorem OwnG.snoc {B : Nat} {w w1 : World} {b1 : Option Addr} {d1 : Nat} {b2 b2' : Option Addr} {d2 d2' : Nat} {L : List Cp} {rs : List Rl} {p : Cp} (h : OwnG B w b1 d1 b2 d2 L rs) (hp : FreshInts B w p.2.1 p.2.2 p.1.kids) (ha : ∀ q ∈ L, ∀ i j, q.own = some i → p.own = some j → i < j)
    (hr : w1.ownsRow B 53 9 (.slice b2' (L.length + 1) d2') (L.length + 1) (nodesCells L ++ p.cells)) (hg : w.grownBy w1 (Value.slice b2 L.length d2).ownBlock) : OwnG B w1 b1 d1 b2' d2' (L ++ [p]) rs := by
  have hc : Chg (Value.slice b2 L.length d2).ownBlock.toList w w1 := (Chg.refl _ w).grown hg (fun k hk => .inl (by rw [hk]; simp))
  have hS : ∀ e, 53 ≠ e → ∀ k ∈ (Value.slice b2 L.length d2).ownBlock.toList, NotRow w e k := by
    intro e he k hk
    simp only [Option.mem_toList] at hk
    exact row_notrow h.nodes hk he
  refine ⟨hc.rowOf h.rules (hS _ (by decide)), ?_, ?_, ?_⟩
  · have : nodesCells (L ++ [p]) = nodesCells L ++ p.cells := by rw [nodesCells, nodesCells, List.flatMap_append, List.flatMap_singleton]
    rw [this, List.length_append]; exact hr
  · intro q hq
    rcases List.mem_append.1 hq with hq | hq
    · exact hc.rowOf (h.kids q hq) (hS _ (by decide))
    · simp only [List.mem_singleton] at hq
      subst hq
      exact hc.rowOf hp (hS _ (by decide))
  · rw [List.pairwise_append]
    exact ⟨h.apart, List.pairwise_singleton _ _, fun q hq r hr => by simp only [List.mem_singleton] at hr; subst hr; exact ha q hq⟩
theorem keepsFrom_of_chg {B : Nat} {S : List Nat} {A A' : World} (h : Chg S A A') (hS : ∀ k ∈ S, k < B ∨ ∃ cur t m, A.heap[k]? = some (.cells cur t m)) : KeepsFrom B A A' :=
  ⟨h.size, fun k o hB hk ho => h.heap hk (fun hm => by
    rcases hS k hm with h1 | ⟨cur, t, m, h1⟩
    · omega
    · rw [hk] at h1; cases h1; cases ho)⟩
end Go.Proofs.YtibgfgfmljhimaaGreat
set_option linter.unusedVariables false
set_option linter.unusedSimpArgs false
set_option linter.unnecessarySimpa false
namespace Go.Proofs.YtibgfgfmljhimaaGreat
open Go.RowKit Go.MapKept Go.Shelf

section
attribute [local go_sem] Oper.semAt_some
set_option maxRecDepth 100000 in
set_option maxHeartbeats 4000000 in
theorem appendSeq_gives (w : World) (gf : Nat) (lb : Array Value) (eg : ∀ args w, (callFunc gf args).run Tryz.prog w = .ok (.enter gf args) w)
    {Hx : List Int → Int → World → Prop} {Kq : List Int → Int → World → World → Prop} {Sp : List Int → Prop} (L : List Int) (hL : L.length ≤ 100000)
    (hseq : Gives Tryz.prog gf lb (fun x : Int => #[.int .i64 x]) Hx Kq (fun xs => xs = L) Sp w) (hpre : ∀ pre x W, Hx pre x W → pre ++ [x] <+: L) (hH : ∀ B pre x, Stays B (Hx pre x))
    (hK : ∀ B pre x A A1 A2 C C', w.heap.size ≤ B → Chg [] A A1 → Turn B A1 A2 → Kq pre x A2 C → Turn B C C' → Kq pre x A C')
    (hC : ∀ pre x S A A', Chg S A A' → (∀ k ∈ S, w.heap.size ≤ k ∧ ∃ cs ty m, A.heap[k]? = some (.cells cs ty m) ∧ (ty = 48 ∨ ty = 3)) → Kq pre x A A') :
    Calls Tryz.prog 154 #[.slice none 0 0, .func (.func gf) #[] lb] w (ClonedInts w L) := by
  obtain ⟨i0, hin, hz0, hz1, hz2⟩ := info_parts Tryz.infoInt
  have H := Lib.hid (And.intro hseq (And.intro hpre (And.intro hC hL)))
  have HH := Lib.hid (And.intro hH hK)
  clear hseq hpre hC hL hH hK
  refine (callsIn_wide (n := 3)).1 ?_
  refine callsIn_of_wp_marks Tryz.func154 rfl trivial ?_ rfl
  simp only [Tryz.ntmps154, List.size_toArray, List.length_cons, List.length_nil, Nat.reduceAdd, Nat.reduceSub, Array.replicate_succ, Array.replicate_zero, List.push_toArray, List.append_toArray, List.nil_append, List.cons_append]
  refine wpIn_wide.2 ?_
  go_wp2_with fail
  obtain ⟨w1, e1⟩ : ∃ w1, w1 = w.alloc (.cells #[.slice none 0 0] 48) := ⟨_, rfl⟩
  have hb1 : w1.heap[w.heap.size]? = some (.cells #[.slice none 0 0] 48 (0, 0)) := by rw [e1]; exact heap_alloc_same _ _
  have hc1 : Chg [] w w1 := by rw [e1]; exact (Chg.refl _ _).alloc _
  have hs1 : w1.heap.size = w.heap.size + 1 := by rw [e1]; simp
  rw [← e1]
  clear e1
  refine (wpIn_wide (n := 3)).1 ?_
  refine range_gives (n := 3) (gf := gf) (lb := lb) rfl eg H.out.1 (fun pre x => HH.out.1 _ pre x) ?hK hc1 (fun _ => rfl)
    (fun pre W => ∃ a c, W.heap[w.heap.size]? = some (.cells #[.slice a pre.length c] 48 (0, 0)) ∧ W.ownsRow (w.heap.size + 1) 3 1 (.slice a pre.length c) pre.length (pre.map (Value.int .i64)) ∧ Chg [] w W) (fun _ _ _ => False)
    (fun s => Stays.ex fun a => Stays.ex fun c => (Stays.block _ _ _ rfl).and ((Stays.row _ _ _ _ _ _ _).and (Stays.since _ _ _ (by omega)))) (fun _ _ => Stays.pure _) ?h0
    (fun x a' W => a' = { tmps := #[.slice none 0 0, .func (.func gf) #[] lb, .pointer (some ⟨w.heap.size, 0, none⟩), undef, .slice none 0 0, .int .i64 x, .func (.func gf) #[] lb, .int .i64 x, undef, undef, undef, undef, undef], defers := [] }) (fun x a' => Stays.pure _) ?assign ?body ?done ?stop
  case hK =>
    rintro pre x A A1 A2 C C' hc ht k1 ht2
    exact HH.out.2 _ pre x A A1 A2 C C' (by omega) hc ht k1 ht2
  case h0 => exact ⟨none, 0, hb1, World.ownsRow_nil _ _ _ _, hc1⟩
  case assign =>
    rintro l pre x W K hi hx hK
    gi_wp2
    exact hK _ _ (Chg.refl _ _) rfl
  case body =>
    rintro l pre x a' W ⟨a4, c4, hO, hown, hch⟩ hx rfl
    have hlen : pre.length + 1 ≤ L.length := by have := (H.out.2.1 _ _ _ hx).length_le; simpa using this
    have hL := H.out.2.2.2
    have o0 := cells1 hO
    have f1 := free_of_cells hO 0
    have h1' : ∀ u ∈ [Value.int .i64 x], u.oneCell' = true := by simp [Value.oneCell']
    have h2' : pre.length + 1 ≤ maxLen ∧ (pre.length + 1) * 8 ≤ 140737488355328 := by simp only [maxLen]; omega
    have hnew := cells_at (w := W.alloc (.cells #[.int .i64 x] 3)) (heap_alloc_same _ _)
    have hbase : w.heap.size + 1 ≤ (W.alloc (.cells #[.int .i64 x] 3)).heap.size := by have := hch.size; simp; omega
    have HB := Lib.hid (And.intro hown (And.intro h1' (And.intro h2' (And.intro hnew hbase))))
    have HC := Lib.hid (And.intro hO hch)
    clear hown hO hch h1' h2' hnew hbase hlen hL hx
    gi_wp2_with (gi_at_builtin; refine wpListIn_append_own _ rfl _ _ 48 rfl (w.heap.size + 1) 3 i0 _ 1 8 Tryz.underlying48 hin hz0 hz1 hz2 rfl (by decide) (.slice a4 pre.length c4) pre.length (pre.map (Value.int .i64)) rfl (World.ownsRow.alloc HB.out.1 _) ⟨W.heap.size, 0, none⟩ 1 1 [.int .i64 x] rfl rfl HB.out.2.2.2.1 HB.out.2.1 HB.out.2.2.1.1 HB.out.2.2.1.2 HB.out.2.2.2.2 ?_; intro v' w5 hr5 hg5 hn5; obtain ⟨a5, c5, rfl⟩ := ownsRow_slice hr5; have hO5 := grown_heap hg5 (heap_alloc_lt HC.out.1 _) (ownsRow_ne HB.out.1 HC.out.1 (by decide)); have o5 := cells1 hO5; have f5 := free_of_cells hO5 0; have HW := Lib.hid (And.intro hr5 (And.intro hg5 hO5)); clear hr5 hg5 hn5 hO5)
    obtain ⟨hO, hch⟩ := HC.out
    obtain ⟨hr5, hg5, hO5⟩ := HW.out
    have hown := HB.out.1
    clear o0 f1 o5 f5
    have hcA := ((Chg.refl (Value.slice a4 pre.length c4).ownBlock.toList W).alloc _).grown hg5 (fun k hk => .inl (by rw [hk]; simp))
    have hc6 := (hcA.mono (T := w.heap.size :: (Value.slice a4 pre.length c4).ownBlock.toList) (fun j hj => .inl (by simp [hj]))).setCell (p := ⟨w.heap.size, 0, none⟩) (.inl (by simp)) (.slice a5 (pre.length + 1) c5)
    have hS : ∀ k ∈ w.heap.size :: (Value.slice a4 pre.length c4).ownBlock.toList, k = w.heap.size ∨ (Value.slice a4 pre.length c4).ownBlock = some k := by
      intro k hk
      rcases List.mem_cons.1 hk with h | h
      · exact .inl h
      · exact .inr (by simpa using h)
    refine ⟨keepsFrom_of_chg hc6 (fun k hk => .inr ?_), H.out.2.2.1 pre x _ _ _ hc6 (fun k hk => ?_), a5, c5, ?_, ?_, ?_⟩
    · rcases hS k hk with rfl | h
      · exact ⟨_, _, _, hO⟩
      · obtain ⟨_, _, cur, h3⟩ := row_beyond hown h
        exact ⟨_, _, _, h3⟩
    · rcases hS k hk with rfl | h
      · exact ⟨Nat.le_refl _, _, _, _, hO, .inl rfl⟩
      · obtain ⟨h1, _, cur, h3⟩ := row_beyond hown h
        exact ⟨by omega, _, _, _, h3, .inr rfl⟩
    · rw [List.length_append]; simpa using heap_setCell_same hO5 0 (.slice a5 (pre.length + 1) c5)
    · rw [List.length_append, List.map_append]
      refine ((Chg.refl [w.heap.size] w5).setCell (p := ⟨w.heap.size, 0, none⟩) (.inl (by simp)) _).row hr5 (fun k hk => ?_)
      have := (row_beyond hr5 hk).1
      simp; omega
    · refine hch.trans hc6 (fun k hk => .inr ?_)
      rcases hS k hk with rfl | h
      · omega
      · have := (row_beyond hown h).1; omega
  case done =>
    rintro D xs W hD rfl ⟨a4, c4, hO, hown, hch⟩ hd
    have o0 := cells1 hO
    have HD := Lib.hid (And.intro (row_base hown (Nat.le_succ _)) (And.intro hch (And.intro hd hD)))
    clear hO hown hch hd hD
    dsimp only
    go_wp2_with fail
    refine leave_one (v := .slice a4 xs.length c4) (B := w1.heap.size) (I := fun W' => FreshInts w.heap.size W' a4 c4 xs ∧ Chg [] w W') HD.out.2.2.1 HD.out.2.2.2 ((Stays.row _ _ _ _ _ _ _).and (Stays.since _ _ _ (by omega))) ⟨HD.out.1, HD.out.2.1⟩ ?_
    rintro W' ⟨hf, hch⟩
    exact ⟨by simp [results, Tryz.results154, go_sem], a4, c4, rfl, hf, hch⟩
  case stop =>
    rintro D c pre W hD _ h _
    exact h.elim
end

theorem collect_gives (w : World) (gf : Nat) (lb : Array Value) (eg : ∀ args w, (callFunc gf args).run Tryz.prog w = .ok (.enter gf args) w)
    {Hx : List Int → Int → World → Prop} {Kq : List Int → Int → World → World → Prop} {Sp : List Int → Prop} (L : List Int) (hL : L.length ≤ 100000)
    (hseq : Gives Tryz.prog gf lb (fun x : Int => #[.int .i64 x]) Hx Kq (fun xs => xs = L) Sp w) (hpre : ∀ pre x W, Hx pre x W → pre ++ [x] <+: L) (hH : ∀ B pre x, Stays B (Hx pre x))
    (hK : ∀ B pre x A A1 A2 C C', w.heap.size ≤ B → Chg [] A A1 → Turn B A1 A2 → Kq pre x A2 C → Turn B C C' → Kq pre x A C')
    (hC : ∀ pre x S A A', Chg S A A' → (∀ k ∈ S, w.heap.size ≤ k ∧ ∃ cs ty m, A.heap[k]? = some (.cells cs ty m) ∧ (ty = 48 ∨ ty = 3)) → Kq pre x A A') :
    Calls Tryz.prog 112 #[.func (.func gf) #[] lb] w (ClonedInts w L) := by
  have hp := appendSeq_gives w gf lb eg L hL hseq hpre hH hK hC
  have H := Lib.hid hp
  clear hp hseq hpre hH hK hC hL eg
  go_enter Tryz.func112, Tryz.ntmps112
  go_wp2_with fail
  refine H.out.mono ?_
  rintro e w4 ⟨a, c, rfl, hf, hc⟩
  go_wp2_with fail
  go_ret
  exact ⟨a, c, rfl, hf, hc⟩
end Go.Proofs.YtibgfgfmljhimaaGreat

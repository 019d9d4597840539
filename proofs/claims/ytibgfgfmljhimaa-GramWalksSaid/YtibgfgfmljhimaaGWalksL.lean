/-
  GramWalks: what the law computes.
  Conditions: the grammar reads as data, within the reach.
-/
import Derived.Test.YtibgfgfmljhimaaGWalk
import Derived.Test.YtibgfgfmljhimaaGKit2
import Derived.Test.YtibgfgfmljhimaaGBendO
import Derived.Test.YtibgfgfmljhimaaGRnd
import Derived.Test.YtibgfgfmljhimaaGSpoil
import Derived.Test.YtibgfgfmljhimaaGTells
import Derived.Test.YtibgfgfmljhimaaGEq5
import Derived.Test.YtibgfgfmljhimaaGPut
set_option linter.unusedVariables false
set_option linter.unnecessarySimpa false
set_option linter.unusedSimpArgs false
namespace Go.Proofs.Ytibgfgfmljhimaa
open Go.RowKit Go.MapKept Go.Shelf
attribute [local go_sem] Oper.semAt_some

/-- Between two rounds of the first walk. -/
structure WalksI (w : World) (Bg Br Bk Bm : Nat) (a1 : Option Addr) (n1 c1 : Nat) (a2 : Option Addr) (n2 c2 : Nat) (n : Int) (pre : List Wk) (W : World) : Prop where
  g : W.heap[Bg]? = some (.cells #[.slice a1 n1 c1, .slice a2 n2 c2] 25 (0, 0))
  r : W.heap[Br]? = some (.cells #[.bool false] 4 (0, 0))
  k : W.heap[Bk]? = some (.cells #[.int .i64 (n + pre.length)] 3 (0, 0))
  m : W.heap[Bm]? = some (.cells #[.int .i64 pre.length] 3 (0, 0))
  chg : Chg [] w W
theorem WalksI.stays {w : World} {Bg Br Bk Bm : Nat} {a1 : Option Addr} {n1 c1 : Nat} {a2 : Option Addr} {n2 c2 : Nat} {n : Int} {pre : List Wk} {B : Nat} (hB : w.heap.size ≤ B) : Stays B (WalksI w Bg Br Bk Bm a1 n1 c1 a2 n2 c2 n pre) :=
  ⟨fun h hc => ⟨hc.heap h.g (by simp), hc.heap h.r (by simp), hc.heap h.k (by simp), hc.heap h.m (by simp), h.chg.tr0 hc⟩,
   fun h ht => ⟨ht.heap h.g rfl, ht.heap h.r rfl, ht.heap h.k rfl, ht.heap h.m rfl, (Stays.since B [] w hB).turn h.chg ht⟩⟩

/-- Between two rounds of the second walk. -/
structure LeftI (w : World) (Bg Br Bm Bt D : Nat) (a1 : Option Addr) (n1 c1 : Nat) (a2 : Option Addr) (n2 c2 z t : Nat) (W : World) : Prop where
  g : W.heap[Bg]? = some (.cells #[.slice a1 n1 c1, .slice a2 n2 c2] 25 (0, 0))
  r : W.heap[Br]? = some (.cells #[.bool false] 4 (0, 0))
  m : W.heap[Bm]? = some (.cells #[.int .i64 z] 3 (0, 0))
  t : W.heap[Bt]? = some (.cells #[.int .i64 t] 3 (0, 0))
  d : W.heap[D]? = some (.deferred (some []))
  chg : Chg [] w W
theorem LeftI.stays {w : World} {Bg Br Bm Bt D : Nat} {a1 : Option Addr} {n1 c1 : Nat} {a2 : Option Addr} {n2 c2 z t : Nat} {B : Nat} (hB : w.heap.size ≤ B) (hD : D < B) : Stays B (LeftI w Bg Br Bm Bt D a1 n1 c1 a2 n2 c2 z t) :=
  ⟨fun h hc => ⟨hc.heap h.g (by simp), hc.heap h.r (by simp), hc.heap h.m (by simp), hc.heap h.t (by simp), hc.heap h.d (by simp), h.chg.tr0 hc⟩,
   fun h ht => ⟨ht.heap h.g rfl, ht.heap h.r rfl, ht.heap h.m rfl, ht.heap h.t rfl, (Stays.under hD).turn h.d ht, (Stays.since B [] w hB).turn h.chg ht⟩⟩

set_option maxRecDepth 100000 in
set_option maxHeartbeats 40000000 in
theorem gramWalks_any (w : World) (a1 : Option Addr) (n1 c1 : Nat) (a2 : Option Addr) (n2 c2 : Nat) (g : Gr) (hg : GramAt w a1 n1 c1 a2 n2 c2 g) (hr : Reach g) (n stop at_ : Int) (hn : I64 n) (hst : I64 stop) (hat : I64 at_) :
    Calls Try.prog 7 #[.agg #[.slice a1 n1 c1, .slice a2 n2 c2], .int .i64 n, .int .i64 stop, .int .i64 at_] w fun e w' => e = .returned (.bool true) ∧ Chg [] w w' := by
  have H := Lib.hid (And.intro hg (And.intro hr (And.intro hn (And.intro hst hat))))
  clear hg hr hn hst hat
  refine (callsIn_wide (n := 3)).1 ?_
  refine callsIn_of_wp_marks Try.func7 rfl trivial ?_ rfl
  simp only [Try.ntmps7, List.size_toArray, List.length_cons, List.length_nil, Nat.reduceAdd, Nat.reduceSub, Array.replicate_succ, Array.replicate_zero, List.push_toArray, List.append_toArray, List.nil_append, List.cons_append]
  refine wpIn_wide.2 ?_
  go_wp2_with fail
  refine (awake_any _).mono ?_
  rintro e w1 ⟨rfl, hc1⟩
  have hb0 := hc1.heap (heap_alloc_lt (heap_alloc_same _ _) _) (by simp)
  have hb1 := hc1.heap (heap_alloc_same _ _) (by simp)
  have hl1 := hc1.size
  simp only [World.size_alloc] at hb1 hl1
  have H1 := Lib.hid (And.intro hb0 (And.intro hb1 ((((Chg.refl [] w).alloc _).alloc _).tr0 hc1)))
  clear hc1 hb0 hb1
  obtain ⟨x0, x1⟩ := cells2 H1.out.1
  go_wp2_with fail
  refine (size06_any _ a1 n1 c1 a2 n2 c2 g (H.out.1.keep H1.out.2.2.kp) H.out.2.1).mono ?_
  rintro e w2 ⟨m, rfl, hm1, hm2, hc2⟩
  have hl2 := hc2.size
  have H2 := Lib.hid (And.intro hm1 (And.intro hm2 (And.intro (hc2.heap H1.out.1 (by simp)) (And.intro (hc2.heap H1.out.2.1 (by simp)) (H1.out.2.2.tr0 hc2)))))
  clear hm1 hm2 hc2 x0 x1
  have r0 := cells1 H2.out.2.2.2.1
  have f0 := free_of_cells H2.out.2.2.2.1 0
  by_cases hm : (300 : Int) < m
  · go_wp2_with fail
    have hz := heap_setCell_same H2.out.2.2.2.1 0 (.bool true)
    simp at hz
    have c0 := cells1 hz
    exact leave_none (v := .bool true) (by simp [results, Try.results7, go_sem, c0]) ⟨rfl, H2.out.2.2.2.2.trans ((Chg.refl [w.heap.size + 1] w2).setCell (p := ⟨w.heap.size + 1, 0, none⟩) (.inl (by simp)) _) (fun k hk => .inr (by simp at hk; omega))⟩
  · have hsm : smallG g := by
      by_cases hq : smallG g
      · exact hq
      · exact absurd (H2.out.2.1 hq) hm
    obtain ⟨z1, z2, z3⟩ := kids_small hsm
    have HS := Lib.hid (And.intro z1 (And.intro z2 z3))
    have HS2 : Hid (n1 ≤ 300 ∧ n2 ≤ 300) := Lib.hid ⟨by have := H.out.1.e1; omega, by have := H.out.1.e2; omega⟩
    clear hsm z1 z2 z3
    obtain ⟨x0, x1⟩ := cells2 (heap_alloc_lt (heap_alloc_lt H2.out.2.2.1 (.cells #[.int .i64 n] 3)) (.cells #[.int .i64 0] 3))
    go_wp2_with fail
    refine (Walk_any _ a1 n1 c1 a2 n2 c2 n).mono ?_
    rintro e w3 ⟨rfl, rfl⟩
    clear x0 x1
    simp only [World.size_alloc]
    have hk3 := ((((Chg.refl [] w2).alloc (.cells #[.int .i64 n] 3)).alloc (.cells #[.int .i64 0] 3)).alloc (.cells #[.slice a1 n1 c1, .slice a2 n2 c2] 25)).alloc (.cells #[.int .i64 n] 3)
    have e1 := heap_alloc_lt (heap_alloc_lt (heap_alloc_lt (heap_alloc_same w2 (.cells #[.int .i64 n] 3)) (.cells #[.int .i64 0] 3)) (.cells #[.slice a1 n1 c1, .slice a2 n2 c2] 25)) (.cells #[.int .i64 n] 3)
    have e2 := heap_alloc_lt (heap_alloc_lt (heap_alloc_same (w2.alloc (.cells #[.int .i64 n] 3)) (.cells #[.int .i64 0] 3)) (.cells #[.slice a1 n1 c1, .slice a2 n2 c2] 25)) (.cells #[.int .i64 n] 3)
    have e3 := heap_alloc_lt (heap_alloc_same ((w2.alloc (.cells #[.int .i64 n] 3)).alloc (.cells #[.int .i64 0] 3)) (.cells #[.slice a1 n1 c1, .slice a2 n2 c2] 25)) (.cells #[.int .i64 n] 3)
    have e4 := heap_alloc_same (((w2.alloc (.cells #[.int .i64 n] 3)).alloc (.cells #[.int .i64 0] 3)).alloc (.cells #[.slice a1 n1 c1, .slice a2 n2 c2] 25)) (.cells #[.int .i64 n] 3)
    have hsz : ((((w2.alloc (.cells #[.int .i64 n] 3)).alloc (.cells #[.int .i64 0] 3)).alloc (.cells #[.slice a1 n1 c1, .slice a2 n2 c2] 25)).alloc (.cells #[.int .i64 n] 3)).heap.size = w2.heap.size + 4 := by simp
    simp only [World.size_alloc] at e2 e3 e4
    obtain ⟨w3, hw3⟩ : ∃ w3, w3 = (((w2.alloc (.cells #[.int .i64 n] 3)).alloc (.cells #[.int .i64 0] 3)).alloc (.cells #[.slice a1 n1 c1, .slice a2 n2 c2] 25)).alloc (.cells #[.int .i64 n] 3) := ⟨_, rfl⟩
    rw [← hw3] at hk3 e1 e2 e3 e4 hsz ⊢
    clear hw3
    obtain ⟨z, hz, hzn⟩ := sizeG_in g n
    have hcw3 := H2.out.2.2.2.2.tr hk3
    have hgives := Walk_gives w w3 (w2.heap.size + 1 + 1) (w2.heap.size + 1 + 1 + 1) a1 n1 c1 a2 n2 c2 g n z hz (fun h => ⟨(hzn h).1, (hzn h).2.1⟩) H.out.1 (by rw [H.out.1.e2]; exact HS.out.2.1) HS.out.2.2 hcw3.size (fun k hk => hcw3.block k hk (by simp)) e3 e4
    have H3 := Lib.hid (And.intro (hk3.heap H2.out.2.2.1 (by simp)) (And.intro (hk3.heap H2.out.2.2.2.1 (by simp)) (And.intro e1 (And.intro e2 (And.intro hcw3 (And.intro hz (And.intro hzn hsz)))))))
    clear hk3 e1 e2 e3 e4 hcw3 hz hzn r0 f0
    go_wp2_with fail
    have hw3 : w.heap.size ≤ w3.heap.size := H3.out.2.2.2.2.1.size
    have hsz := H3.out.2.2.2.2.2.2.2
    refine (wpIn_wide (n := 3)).1 ?_
    refine range_gives (n := 3) (gf := 99) (lb := #[.pointer (some ⟨w2.heap.size + 1 + 1, 0, none⟩), .pointer (some ⟨w2.heap.size + 1 + 1 + 1, 0, none⟩)]) rfl (enters_of Try.func99 (by kernel_rfl) rfl) hgives (fun pre x => WalkX.stays _ _ _ _ _ _ _) ?hK (Chg.refl [] _) (fun _ => rfl)
      (WalksI w w.heap.size (w.heap.size + 1) w2.heap.size (w2.heap.size + 1) a1 n1 c1 a2 n2 c2 n) (fun _ _ _ => False) (fun s => WalksI.stays hw3) (fun _ _ => Stays.pure _) ?h0
      (fun x a' W => ∃ Bx, W.heap[Bx]? = some (.cells (x.2.1.cells x.2.2.1 x.2.1.kids.length x.2.2.2) 32 (0, 0)) ∧ a' = { tmps := #[.agg #[.slice a1 n1 c1, .slice a2 n2 c2], .int .i64 n, .int .i64 stop, .int .i64 at_, .pointer (some ⟨w.heap.size, 0, none⟩), undef, undef, undef, .pointer (some ⟨w.heap.size + 1, 0, none⟩), .pointer (some ⟨w2.heap.size, 0, none⟩), .pointer (some ⟨w2.heap.size + 1, 0, none⟩), .int .i64 x.1, .pointer (some ⟨Bx, 0, none⟩), undef, undef, undef, .bool true, .bool false, .agg #[.slice a1 n1 c1, .slice a2 n2 c2], .int .i64 m, .bool (decide (300 < m)), .int .i64 n, .agg #[.slice a1 n1 c1, .slice a2 n2 c2], .int .i64 n, .func (.func 99) #[] #[.pointer (some ⟨w2.heap.size + 1 + 1, 0, none⟩), .pointer (some ⟨w2.heap.size + 1 + 1 + 1, 0, none⟩)], .int .i64 x.1, .agg (x.2.1.cells x.2.2.1 x.2.1.kids.length x.2.2.2), undef, undef, undef, undef, undef, undef, undef, undef, undef, undef, undef, undef, undef, undef, undef, undef, undef, undef, undef, undef, undef, undef, undef, undef, undef, undef, undef, undef, undef, undef, undef, undef, undef, undef, undef, undef, undef, undef, undef, undef, undef, undef, undef, undef, undef, undef, undef, undef, undef, undef, undef, undef, undef, undef, undef, undef, undef, undef, undef, undef, undef, undef, undef, undef, undef, undef, undef, undef, undef, undef, undef, undef, undef, undef, undef, undef, undef, undef, undef, undef, undef, undef, undef, undef, undef, undef, undef, undef, undef, undef, undef, undef, undef], defers := [] })
      (fun x a' => Stays.ex fun Bx => (Stays.block _ _ _ rfl).and (Stays.pure _)) ?assign ?body ?done ?stop
    case hK =>
      rintro pre x A A1 A2 B B' hc ht ⟨hk, hk'⟩ ht2
      exact ⟨((Keeps.of_chg hc (by simp)).trans (.of_turn ht hw3 (by omega))).trans (hk.trans (.of_turn ht2 hw3 (by omega))), ((Keeps.of_chg hc (by simp)).trans (.of_turn ht hw3 (by omega))).trans (hk'.trans (.of_turn ht2 hw3 (by omega)))⟩
    case h0 =>
      obtain ⟨h1, h2, h3, h4, h5, _⟩ := H3.out
      exact ⟨h1, h2, by simpa using h3, by simpa using h4, h5⟩
    case assign =>
      rintro l pre x W K hi hx hK
      simp only [encWk, Nd.cells]
      gi_wp2
      exact hK _ _ ((Chg.refl [] W).alloc _) ⟨W.heap.size, heap_alloc_same _ _, rfl⟩
    case body =>
      rintro l pre x a' W hi hx ⟨Bx, hBx, rfl⟩
      obtain ⟨xi, y, ak', ck'⟩ := x
      obtain ⟨⟨hx1, hx2, hx3⟩, hx4⟩ := hx
      simp only at hx2 hx3 hx4 hBx
      have hzn := H3.out.2.2.2.2.2.2.1 (by omega)
      obtain ⟨q, hq⟩ : ∃ q, q = pre.length := ⟨_, rfl⟩
      obtain ⟨i, hiq⟩ : ∃ i : Nat, i = n.toNat + q := ⟨_, rfl⟩
      have hxi : xi = (i : Int) := by omega
      have hnk : n + (pre.length : Int) = (i : Int) := by omega
      have hil : i < g.nodes.length := by omega
      have hnd : g.nodes[i] = y := by
        rw [← hq, ← hiq] at hx3
        exact (List.getElem?_eq_some_iff.1 hx3).2
      have hi300 : i ≤ 300 := by have := HS.out.2.1; omega
      have hq300 : q ≤ 300 := by omega
      have hlen := H.out.1.e2
      have hi2 : i < n2 := by omega
      subst hxi
      have hk0 := hi.k
      have hm0 := hi.m
      rw [hnk] at hk0
      rw [← hq] at hm0
      obtain ⟨b, o, ak, nk, ck, hae, hnode⟩ := H.out.1.nodes.keep hi.chg.kp i hil
      rw [hnd] at hnode
      have kk := cell_rg (cells1 hk0)
      obtain ⟨g0, g1⟩ := cells2 hi.g
      have kg1 := cell_rg g1
      unfold Nd.cells at hBx
      obtain ⟨u0, u1, u2, u3, u4, u5, u6, u7, u8⟩ := cells9 hBx
      have ku0 := cell_rg u0
      have ku1 := cell_rg u1
      have ku2 := cell_rg u2
      have ku3 := cell_rg u3
      have ku4 := cell_rg u4
      have ku5 := cell_rg u5
      have ku6 := cell_rg u6
      have ku7 := cell_rg u7
      have ku8 := cell_rg u8
      have kv0 := cell_rg hnode.k
      have kv1 := cell_rg hnode.c0
      have kv2 := cell_rg hnode.c1
      have kv3 := cell_rg hnode.c2
      have kv4 := cell_rg hnode.c3
      have kv5 := cell_rg hnode.s
      have kv6 := cell_rg hnode.r
      have kv7 := cell_rg hnode.l
      have kv8 := cell_rg hnode.kids
      have hyk : y.kids.length ≤ 300 := by rw [← hnd]; exact HS.out.2.2 _ (List.getElem_mem hil)
      have cA := calls_rgIn (w := W) (fun w1 h1 => kitSameNode_any w1 y y ak' ak y.kids.length ck' nk ck rfl hnode.len (by omega) ((ownInts_read hx4.own).1.keep h1.kp) (hnode.ints.keep h1.kp))
      rw [sameN_refl] at cA
      unfold Nd.cells at cA
      have HB := Lib.hid (And.intro hi (And.intro hq (And.intro hk0 (And.intro hm0 (And.intro hnk hiq)))))
      subst hae
      clear hi hq hk0 hm0 hnk hiq hx1 hx2 hx3 hx4 hzn hnode hnd hyk hlen g0 g1 u0 u1 u2 u3 u4 u5 u6 u7 u8 hBx
      unfold Nd.cells
      gi_wp2_with fail
      refine round_region_quiet (by kernel_rfl) (by kernel_rfl) (by kernel_rfl) ?_
      repeat (gi_big_quiet_step (fail))
      refine BigFrame.wpQuietIn_want (fun _ _ _ _ => trivial) (by rfl) (fun K hK => ?_)
      gi_big_quiet_op
      refine ⟨_, fun _ => cA _ _ _, hK _ ?_⟩
      clear hK K
      repeat (gi_big_quiet_step (fail))
      refine wpQuietIn_nil ?_
      intro w4 hw4
      have hc4 := chg_of_rg hw4
      clear hw4 cA kk kg1 ku0 ku1 ku2 ku3 ku4 ku5 ku6 ku7 ku8 kv0 kv1 kv2 kv3 kv4 kv5 kv6 kv7 kv8
      have hi := HB.out.1
      have hk4 := hc4.heap HB.out.2.2.1 (by simp)
      have hm4 := hc4.heap HB.out.2.2.2.1 (by simp)
      have HD := Lib.hid (And.intro hc4 (And.intro hk4 (And.intro hm4 hi)))
      have k0 := cells1 hk4
      have kf := free_of_cells hk4 0
      have m0 := cells1 hm4
      have mf := free_of_cells hm4 0
      clear hc4 hk4 hm4 hi
      gi_wp2_with fail
      obtain ⟨hc4, hk4, hm4, hi⟩ := HD.out
      obtain ⟨_, hq, _, _, hnk, hiq⟩ := HB.out
      have hc6 := ((hc4.any (S := [w2.heap.size, w2.heap.size + 1])).setCell (p := ⟨w2.heap.size, 0, none⟩) (.inl (by simp)) (.int .i64 (i + 1))).setCell (p := ⟨w2.heap.size + 1, 0, none⟩) (.inl (by simp)) (.int .i64 (q + 1))
      have hz1 := heap_set_ne (c := w2.heap.size + 1) (i := 0) (u := .int .i64 ((q : Int) + 1)) (heap_setCell_same hk4 0 (.int .i64 (i + 1))) (by omega)
      have hz2 := heap_setCell_same (heap_set_ne (c := w2.heap.size) (i := 0) (u := .int .i64 ((i : Int) + 1)) hm4 (by omega)) 0 (.int .i64 (q + 1))
      simp at hz1 hz2
      have hS : ∀ k ∈ [w2.heap.size, w2.heap.size + 1], k = w2.heap.size ∨ k = w2.heap.size + 1 := fun k hk => by simpa using hk
      refine ⟨keepsFrom_of_chg hc6 (fun k hk => .inr ?_), ⟨Keeps.of_chg hc6 (fun k hk => ?_), Keeps.of_chg hc6 (fun k hk => ?_)⟩, ⟨?_, ?_, ?_, ?_, ?_⟩⟩
      · rcases hS k hk with rfl | rfl
        · exact ⟨_, _, _, HB.out.2.2.1⟩
        · exact ⟨_, _, _, HB.out.2.2.2.1⟩
      · rcases hS k hk with rfl | rfl <;> omega
      · rcases hS k hk with rfl | rfl <;> omega
      · exact hc6.heap hi.g (by intro hm; rcases hS _ hm with h | h <;> omega)
      · exact hc6.heap hi.r (by intro hm; rcases hS _ hm with h | h <;> omega)
      · rw [List.length_append, List.length_singleton, show n + ((pre.length + 1 : Nat) : Int) = (i : Int) + 1 by omega]; exact hz1
      · rw [List.length_append, List.length_singleton, show ((pre.length + 1 : Nat) : Int) = (q : Int) + 1 by omega]; exact hz2
      · exact hi.chg.trans hc6 (fun k hk => .inr (by rcases hS k hk with rfl | rfl <;> omega))
    case done =>
      rintro D xs W hD hS hi hd
      have hkm := hi.m
      rw [hS] at hkm
      obtain ⟨g0, g1⟩ := cells2 hi.g
      have m0 := cells1 hkm
      have kg0 := cell_rg g0
      have kg1 := cell_rg g1
      have km0 := cell_rg m0
      have hz300 : z ≤ 300 := by
        by_cases h : 0 < z
        · have := (H3.out.2.2.2.2.2.2.1 h).2.1; have := HS.out.2.1; omega
        · omega
      have hgW := H.out.1.keep hi.chg.kp
      have cA := calls_rg (w := W) (fun w1 h1 => Size_any w1 a1 n1 c1 a2 n2 c2 g n (hgW.keep h1.kp))
      rw [H3.out.2.2.2.2.2.1] at cA
      have HE := Lib.hid (And.intro hi (And.intro hkm (And.intro hd (And.intro hD hgW))))
      clear hi hkm hd hgW g0 g1 m0
      dsimp only
      go_wp2_with fail
      refine wp_region_quiet_below (by kernel_rfl) (by kernel_rfl) ?_
      repeat (go_big_quiet_step (first | (with_reducible exact cA _ _)))
      refine wpQuiet_nil ?_
      intro w5 hw5
      have hc5 := chg_of_rg hw5
      clear hw5 cA kg0 kg1 km0
      have HF := Lib.hid (And.intro hc5 (And.intro (hc5.heap HE.out.2.1 (by simp)) (And.intro (hc5.heap HE.out.1.g (by simp)) (And.intro (hc5.heap HE.out.2.2.1 (by simp)) (And.intro (hc5.heap HE.out.1.r (by simp)) (HE.out.1.chg.tr hc5))))))
      have hl5 := hc5.size
      clear hc5
      have m0 := cells1 HF.out.2.1
      go_wp2_with fail
      obtain ⟨q, hq⟩ : ∃ q : Nat, (q : Int) = stop % (z + 1 : Int) := ⟨(stop % (z + 1 : Int)).toNat, by have := Int.emod_nonneg stop (show ((z : Int) + 1) ≠ 0 by omega); omega⟩
      have hqz : q ≤ z := by have := Int.emod_lt_of_pos stop (show (0 : Int) < z + 1 by omega); omega
      have hpick := fun W => pick6_any stop (z + 1) W (by omega) (by omega) H.out.2.2.2.1.1 H.out.2.2.2.1.2
      rw [← hq] at hpick
      clear hq
      refine (hpick _).mono ?_
      clear hpick
      rintro e w6 ⟨rfl, hc6⟩
      have HG6 := Lib.hid (And.intro (hc6.heap HF.out.2.1 (by simp)) (And.intro (hc6.heap HF.out.2.2.1 (by simp)) (And.intro (hc6.heap HF.out.2.2.2.1 (by simp)) (And.intro (hc6.heap HF.out.2.2.2.2.1 (by simp)) (HF.out.2.2.2.2.2.tr hc6)))))
      have hl6 := hc6.size
      clear hc6 m0
      obtain ⟨x0, x1⟩ := cells2 (heap_alloc_lt HG6.out.2.1 (.cells #[.int .i64 q] 3))
      go_wp2_with fail
      refine (Walk_any _ a1 n1 c1 a2 n2 c2 n).mono ?_
      rintro e w7 ⟨rfl, rfl⟩
      clear x0 x1
      simp only [World.size_alloc]
      have hk7 := (((Chg.refl [] w6).alloc (.cells #[.int .i64 q] 3)).alloc (.cells #[.slice a1 n1 c1, .slice a2 n2 c2] 25)).alloc (.cells #[.int .i64 n] 3)
      have e1 := heap_alloc_lt (heap_alloc_lt (heap_alloc_same w6 (.cells #[.int .i64 q] 3)) (.cells #[.slice a1 n1 c1, .slice a2 n2 c2] 25)) (.cells #[.int .i64 n] 3)
      have e3 := heap_alloc_lt (heap_alloc_same (w6.alloc (.cells #[.int .i64 q] 3)) (.cells #[.slice a1 n1 c1, .slice a2 n2 c2] 25)) (.cells #[.int .i64 n] 3)
      have e4 := heap_alloc_same ((w6.alloc (.cells #[.int .i64 q] 3)).alloc (.cells #[.slice a1 n1 c1, .slice a2 n2 c2] 25)) (.cells #[.int .i64 n] 3)
      have hsz7 : (((w6.alloc (.cells #[.int .i64 q] 3)).alloc (.cells #[.slice a1 n1 c1, .slice a2 n2 c2] 25)).alloc (.cells #[.int .i64 n] 3)).heap.size = w6.heap.size + 3 := by simp
      simp only [World.size_alloc] at e3 e4
      obtain ⟨w7, hw7⟩ : ∃ w7, w7 = ((w6.alloc (.cells #[.int .i64 q] 3)).alloc (.cells #[.slice a1 n1 c1, .slice a2 n2 c2] 25)).alloc (.cells #[.int .i64 n] 3) := ⟨_, rfl⟩
      rw [← hw7] at hk7 e1 e3 e4 hsz7 ⊢
      clear hw7
      have hcw7 := HG6.out.2.2.2.2.tr hk7
      have hgives2 := Walk_gives w w7 (w6.heap.size + 1) (w6.heap.size + 1 + 1) a1 n1 c1 a2 n2 c2 g n z H3.out.2.2.2.2.2.1 (fun h => ⟨(H3.out.2.2.2.2.2.2.1 h).1, (H3.out.2.2.2.2.2.2.1 h).2.1⟩) H.out.1 (by rw [H.out.1.e2]; exact HS.out.2.1) HS.out.2.2 hcw7.size (fun k hk => hcw7.block k hk (by simp)) e3 e4
      have H7 := Lib.hid (And.intro (hk7.heap HG6.out.1 (by simp)) (And.intro (hk7.heap HG6.out.2.1 (by simp)) (And.intro (hk7.heap HG6.out.2.2.1 (by simp)) (And.intro (hk7.heap HG6.out.2.2.2.1 (by simp)) (And.intro hcw7 e1)))))
      clear hk7 e1 e3 e4 hcw7
      go_wp2_with fail
      have hD := HE.out.2.2.2.1
      have hDW := lt_of_block HE.out.2.2.1
      have hw7 : w.heap.size ≤ w7.heap.size := H7.out.2.2.2.2.1.size
      refine (wpIn_wide (n := 3)).1 ?_
      refine range_brk (n := 3) (id := 2) (gf := 99) (lb := #[.pointer (some ⟨w6.heap.size + 1, 0, none⟩), .pointer (some ⟨w6.heap.size + 1 + 1, 0, none⟩)]) rfl (enters_of Try.func99 (by kernel_rfl) rfl) hgives2 (fun pre x => WalkX.stays _ _ _ _ _ _ _) ?hK2 (Chg.refl [] _) (fun _ => rfl)
        (fun pre W => pre.length ≤ q ∧ LeftI w w.heap.size (w.heap.size + 1) (w2.heap.size + 1) w6.heap.size D a1 n1 c1 a2 n2 c2 z (q - pre.length) W)
        (LeftI w w.heap.size (w.heap.size + 1) (w2.heap.size + 1) w6.heap.size D a1 n1 c1 a2 n2 c2 z 0)
        (fun s => (Stays.pure _).and (LeftI.stays hw7 (by omega))) (LeftI.stays hw7 (by omega)) ?h02
        (fun x a' W => a' = { tmps := #[.agg #[.slice a1 n1 c1, .slice a2 n2 c2], .int .i64 n, .int .i64 stop, .int .i64 at_, .pointer (some ⟨w.heap.size, 0, none⟩), undef, undef, undef, .pointer (some ⟨w.heap.size + 1, 0, none⟩), .pointer (some ⟨w2.heap.size, 0, none⟩), .pointer (some ⟨w2.heap.size + 1, 0, none⟩), undef, undef, .pointer (some ⟨w6.heap.size, 0, none⟩), undef, undef, .bool true, .bool false, .agg #[.slice a1 n1 c1, .slice a2 n2 c2], .int .i64 m, .bool (decide (300 < m)), .int .i64 n, .agg #[.slice a1 n1 c1, .slice a2 n2 c2], .int .i64 n, .func (.func 99) #[] #[.pointer (some ⟨w2.heap.size + 1 + 1, 0, none⟩), .pointer (some ⟨w2.heap.size + 1 + 1 + 1, 0, none⟩)], undef, undef, undef, undef, undef, undef, undef, undef, undef, undef, undef, undef, undef, undef, undef, undef, undef, undef, undef, .int .i64 z, .agg #[.slice a1 n1 c1, .slice a2 n2 c2], .int .i64 n, .int .i64 z, .bool false, .int .i64 stop, .int .i64 z, .int .i64 ((z : Int) + 1), .int .i64 q, .agg #[.slice a1 n1 c1, .slice a2 n2 c2], .int .i64 n, .func (.func 99) #[] #[.pointer (some ⟨w6.heap.size + 1, 0, none⟩), .pointer (some ⟨w6.heap.size + 1 + 1, 0, none⟩)], .int .i64 x.1, .agg (x.2.1.cells x.2.2.1 x.2.1.kids.length x.2.2.2), undef, undef, undef, undef, undef, undef, undef, undef, undef, undef, undef, undef, undef, undef, undef, undef, undef, undef, undef, undef, undef, undef, undef, undef, undef, undef, undef, undef, undef, undef, undef, undef, undef, undef, undef, undef, undef, undef, undef, undef, undef, undef, undef, undef, undef, undef, undef, undef, undef, undef, undef, undef, undef, undef, undef, undef, undef, undef, undef, undef, undef, undef], defers := [] }) (fun x a' => Stays.pure _) ?assign2 ?body2 ?end2 (fun _ _ h => h) ?fin2
      case hK2 =>
        rintro pre x A A1 A2 B B' hc ht ⟨hk, hk'⟩ ht2
        exact ⟨((Keeps.of_chg hc (by simp)).trans (.of_turn ht hw7 (by omega))).trans (hk.trans (.of_turn ht2 hw7 (by omega))), ((Keeps.of_chg hc (by simp)).trans (.of_turn ht hw7 (by omega))).trans (hk'.trans (.of_turn ht2 hw7 (by omega)))⟩
      case h02 =>
        obtain ⟨h1, h2, h3, h4, h5, h6⟩ := H7.out
        exact ⟨Nat.zero_le _, ⟨h2, h4, h1, by simpa using h6, h3, h5⟩⟩
      case assign2 =>
        rintro l pre x W K hi hx hK
        simp only [encWk, Nd.cells]
        gi_wp2
        exact hK _ _ (Chg.refl _ _) rfl
      case body2 =>
        rintro l pre x a' W ⟨hi0, hi⟩ hx rfl
        obtain ⟨t, ht⟩ : ∃ t, t = q - pre.length := ⟨_, rfl⟩
        rw [← ht] at hi
        have hq300 : t ≤ 300 := by omega
        have t0 := cells1 hi.t
        have f0 := free_of_cells hi.t 0
        have HB := Lib.hid (And.intro hi (And.intro ht hi0))
        clear hi ht hi0 hx
        by_cases ht0 : t = 0
        · subst ht0
          gi_wp2_with fail
          exact ⟨KeepsFrom.refl _ _, rfl, HB.out.1⟩
        · have htp : 0 < t := by omega
          gi_wp2_with fail
          obtain ⟨hi, ht, hi0⟩ := HB.out
          have hc6 := (Chg.refl [w6.heap.size] W).setCell (p := ⟨w6.heap.size, 0, none⟩) (.inl (by simp)) (.int .i64 ((t : Int) - 1))
          have hz := heap_setCell_same hi.t 0 (.int .i64 ((t : Int) - 1))
          simp at hz
          refine ⟨keepsFrom_of_chg hc6 (fun k hk => .inr ?_), ⟨Keeps.of_chg hc6 (fun k hk => ?_), Keeps.of_chg hc6 (fun k hk => ?_)⟩, ⟨?_, ⟨?_, ?_, ?_, ?_, ?_, ?_⟩⟩⟩
          · simp only [List.mem_singleton] at hk; subst hk; exact ⟨_, _, _, hi.t⟩
          · simp only [List.mem_singleton] at hk; omega
          · simp only [List.mem_singleton] at hk; omega
          · rw [List.length_append, List.length_singleton]; omega
          · exact hc6.heap hi.g (by simp; omega)
          · exact hc6.heap hi.r (by simp; omega)
          · exact hc6.heap hi.m (by simp; omega)
          · rw [List.length_append, List.length_singleton, show ((q - (pre.length + 1) : Nat) : Int) = (t : Int) - 1 by omega]; exact hz
          · exact hc6.heap hi.d (by simp; omega)
          · exact hi.chg.trans hc6 (fun k hk => .inr (by simp at hk; omega))
      case end2 =>
        rintro xs2 W2 hS2 ⟨hi0, hi⟩
        rw [show q - xs2.length = 0 by omega] at hi
        exact hi
      case fin2 =>
        rintro D2 W2 hD2 hi hd2
        dsimp only
        obtain ⟨x0, x1⟩ := cells2 hi.g
        have hgW := H.out.1.keep hi.chg.kp
        have HL := Lib.hid (And.intro hi (And.intro hd2 (And.intro hgW hD2)))
        clear hi hd2 hgW
        go_wp2_with fail
        refine (Right_any _ a1 n1 c1 a2 n2 c2 g HL.out.2.2.1).mono ?_
        rintro e w8 ⟨rfl, hc8⟩
        have HM := Lib.hid (And.intro hc8 (And.intro (hc8.heap HL.out.1.g (by simp)) (And.intro (hc8.heap HL.out.1.r (by simp)) (And.intro (hc8.heap HL.out.1.m (by simp)) (And.intro (hc8.heap HL.out.1.t (by simp)) (And.intro (hc8.heap HL.out.1.d (by simp)) (And.intro (hc8.heap HL.out.2.1 (by simp)) (HL.out.1.chg.tr hc8))))))))
        have hl8 := hc8.size
        clear hc8 x0 x1
        have r0 := cells1 HM.out.2.2.1
        have f0 := free_of_cells HM.out.2.2.1 0
        have m0 := cells1 HM.out.2.2.2.1
        have t0 := cells1 HM.out.2.2.2.2.1
        obtain ⟨x0, x1⟩ := cells2 HM.out.2.1
        cases hrg : rightB g with
        | false =>
          have hz0 : z = 0 := by
            by_cases h : 0 < z
            · have := (H3.out.2.2.2.2.2.2.1 h).2.2; rw [hrg] at this; cases this
            · omega
          subst hz0
          go_wp2_with fail
          obtain ⟨hc8, hg8, hr8, hm8, ht8, hd8, hd28, hch8⟩ := HM.out
          have hz := heap_setCell_same hr8 0 (.bool true)
          simp at hz
          have hcz := (Chg.refl [w.heap.size + 1] w8).setCell (p := ⟨w.heap.size + 1, 0, none⟩) (.inl (by simp)) (.bool true)
          have hDD := lt_of_block HL.out.1.d
          have hlW2 := H7.out.2.2.2.2.1.size
          refine leave_two (v := .bool true) (B := w3.heap.size) (I := fun W' => W'.heap[w.heap.size + 1]? = some (.cells #[.bool true] 4 (0, 0)) ∧ Chg [] w W') (hcz.heap hd8 (by simp; omega)) (hcz.heap hd28 (by simp; omega)) (by omega) hD (by omega) ((Stays.block _ _ _ rfl).and (Stays.since _ _ _ hw3)) ⟨hz, hch8.trans hcz (fun k hk => .inr (by simp at hk; omega))⟩ ?_
          rintro W' ⟨hb, hch⟩
          have c0 := cells1 hb
          exact ⟨by simp [results, Try.results7, go_sem, c0], rfl, hch⟩
        | true =>
          have hpos : 0 < n2 := by rw [H.out.1.e2]; exact right_pos hrg
          have hn2 : n2 ≤ 300 := HS2.out.2
          go_wp2_with fail
          refine (Copy_any w8 a1 n1 c1 a2 n2 c2 g (HL.out.2.2.1.keep HM.out.1.kp) HS2.out.1 HS2.out.2 HS.out.2.2).mono ?_
          rintro e w9 ⟨b1, d1, b2, d2, L, rfl, hLn, hown, hc9⟩
          have hL := congrArg List.length hLn
          rw [List.length_map] at hL
          have HL2 := Lib.hid hL
          have HN := Lib.hid (And.intro hLn (And.intro hown (And.intro hc9 (And.intro (hc9.heap HM.out.2.1 (by simp)) (And.intro (hc9.heap HM.out.2.2.1 (by simp)) (And.intro (hc9.heap HM.out.2.2.2.2.1 (by simp)) (And.intro (hc9.heap HM.out.2.2.2.2.2.1 (by simp)) (And.intro (hc9.heap HM.out.2.2.2.2.2.2.1 (by simp)) (HM.out.2.2.2.2.2.2.2.tr hc9)))))))))
          have hl9 := hc9.size
          clear hLn hown hc9 r0 f0 m0 t0 x0 x1
          obtain ⟨x0, x1⟩ := cells2 (heap_alloc_lt HN.out.2.2.2.1 (.cells #[.slice b1 g.rules.length d1, .slice b2 g.nodes.length d2] 25))
          obtain ⟨mi, hmi⟩ : ∃ mi : Nat, (mi : Int) = at_ % (n2 : Int) := ⟨(at_ % (n2 : Int)).toNat, by have := Int.emod_nonneg at_ (show (n2 : Int) ≠ 0 by omega); omega⟩
          have hml : mi < n2 := by have := Int.emod_lt_of_pos at_ (show (0 : Int) < n2 by omega); omega
          have hpick := fun W => pick6_any at_ n2 W (by omega) (by omega) H.out.2.2.2.2.1 H.out.2.2.2.2.2
          rw [← hmi] at hpick
          clear hmi
          go_wp2_with fail
          refine (hpick _).mono ?_
          clear hpick x0 x1
          rintro e w10 ⟨rfl, hc10a⟩
          have hb10 := hc10a.heap (heap_alloc_same w9 _) (by simp)
          have hc10 := ((Chg.refl [] w9).alloc _).tr0 hc10a
          clear hc10a
          have hown10 := HN.out.2.1.chg0 hc10
          have hlen2 := H.out.1.e2
          have hst := SpoilI.start (rowsOf b1 g.rules.length d1 b2 L.length d2 L) hown10
          obtain ⟨G, hG, hkid, _, _, _⟩ := (⟨hst.chg, hst.r1, hst.r2, hst.kids, fun j hj _ => hst.rest j hj (Nat.zero_le _)⟩ : SpoilI w10 (rowsOf b1 g.rules.length d1 b2 L.length d2 L) b1 g.rules.length d1 b2 d2 L mi w10).nodeAt (show mi < L.length by omega)
          subst hG
          have hil : mi < L.length := by omega
          have hNd : L[mi].1 = g.nodes[mi] := by
            have h1 : (L.map (·.1))[mi]? = g.nodes[mi]? := by rw [HN.out.1]
            rw [List.getElem?_map, List.getElem?_eq_getElem hil, List.getElem?_eq_getElem (by omega)] at h1
            simpa using h1
          have HNd : Hid (∃ (h : mi < L.length) (h' : mi < g.nodes.length), L[mi].1 = g.nodes[mi]) := Lib.hid ⟨hil, by omega, hNd⟩
          have hgb : GramAt w10 b1 g.rules.length d1 (some ⟨G, 0, none⟩) g.nodes.length d2 g := by
            have h1 := hown10.gram (by rw [HN.out.1]; exact H.out.1.wf)
            rw [HN.out.1, hL] at h1
            exact h1
          have hlt10 := lt_of_block hb10
          have hc10' := HN.out.2.2.2.2.2.2.2.2.tr0 hc10
          have HP := Lib.hid (And.intro hown10 (And.intro hb10 (And.intro (hc10.heap HN.out.2.2.2.1 (by simp)) (And.intro (hc10.heap HN.out.2.2.2.2.1 (by simp)) (And.intro (hc10.heap HN.out.2.2.2.2.2.1 (by simp)) (And.intro (hc10.heap HN.out.2.2.2.2.2.2.1 (by simp)) (And.intro (hc10.heap HN.out.2.2.2.2.2.2.2.1 (by simp)) (And.intro hc10' hgb))))))))
          have hl10 := hc10.size
          clear hb10 hc10 hown10 hst hgb hNd hc10'
          obtain ⟨nk, hnk⟩ : ∃ nk, nk = L[mi].1.kids.length := ⟨_, rfl⟩
          obtain ⟨ak, hak⟩ : ∃ q, q = L[mi].2.1 := ⟨_, rfl⟩
          obtain ⟨ck, hck⟩ : ∃ q, q = L[mi].2.2 := ⟨_, rfl⟩
          rw [← hak, ← hnk, ← hck] at hkid
          have HQ : Hid (∃ (h : mi < L.length), nk = L[mi].1.kids.length ∧ ak = L[mi].2.1 ∧ ck = L[mi].2.2) := Lib.hid ⟨hil, hnk, hak, hck⟩
          clear hnk hak hck
          obtain ⟨x0, x1⟩ := cells2 HP.out.2.1
          have hmn : mi < g.nodes.length := by omega
          clear hlen2 hL hil
          by_cases hk0 : nk = 0
          · subst hk0
            obtain ⟨g0, g1⟩ := cells2 HP.out.2.2.1
            go_wp2_with fail
            refine (gramSame_any _ _ _ _ _ _ _ g a1 n1 c1 a2 n2 c2 g HP.out.2.2.2.2.2.2.2.2 (H.out.1.keep HP.out.2.2.2.2.2.2.2.1.kp)).mono ?_
            rw [sameG_refl]
            rintro e w11 ⟨rfl, hc11⟩
            have hr11 := hc11.heap HP.out.2.2.2.1 (by simp)
            have ht11 := hc11.heap HP.out.2.2.2.2.1 (by simp)
            have HR := Lib.hid (And.intro hr11 (And.intro (hc11.heap HP.out.2.2.2.2.2.1 (by simp)) (And.intro (hc11.heap HP.out.2.2.2.2.2.2.1 (by simp)) (HP.out.2.2.2.2.2.2.2.1.tr0 hc11))))
            have r0 := cells1 hr11
            have f0 := free_of_cells hr11 0
            have t0 := cells1 ht11
            clear hc11 hr11 ht11 x0 x1 g0 g1 hkid
            go_wp2_with fail
            obtain ⟨hr8, hd8, hd28, hch8⟩ := HR.out
            have hz := heap_setCell_same hr8 0 (.bool true)
            simp at hz
            have hcz := (Chg.refl [w.heap.size + 1] w11).setCell (p := ⟨w.heap.size + 1, 0, none⟩) (.inl (by simp)) (.bool true)
            have hDD := lt_of_block HL.out.1.d
            have hlW2 := H7.out.2.2.2.2.1.size
            refine leave_two (v := .bool true) (B := w3.heap.size) (I := fun W' => W'.heap[w.heap.size + 1]? = some (.cells #[.bool true] 4 (0, 0)) ∧ Chg [] w W') (hcz.heap hd8 (by simp; omega)) (hcz.heap hd28 (by simp; omega)) (by omega) hD (by omega) ((Stays.block _ _ _ rfl).and (Stays.since _ _ _ hw3)) ⟨hz, hch8.trans hcz (fun k hk => .inr (by simp at hk; omega))⟩ ?_
            rintro W' ⟨hb, hch⟩
            have c0 := cells1 hb
            exact ⟨by simp [results, Try.results7, go_sem, c0], rfl, hch⟩
          · have hkp : 0 < nk := by omega
            obtain ⟨nl, rfl⟩ : ∃ nl, nk = nl + 1 := ⟨nk - 1, by omega⟩
            obtain ⟨hil, hnk, hak, hck⟩ := HQ.out
            obtain ⟨_, hmn', hNd⟩ := HNd.out
            obtain ⟨K, hK, hBK, hcell, hfz, hput⟩ := HP.out.1.ownN.kidPut hil (k := nl) (by omega)
            obtain ⟨v, hv⟩ : ∃ v, v = L[mi].1.kids[nl]'(by omega) := ⟨_, rfl⟩
            rw [← hv] at hcell
            have hlast : g.nodes[mi].kids.getLast? = some v := by
              rw [← hNd, List.getLast?_eq_getElem?, ← hnk, hv]
              simp
            have hnl3 : nl ≤ 300 := by
              have := HS.out.2.2 _ (List.getElem_mem hmn')
              rw [← hNd, ← hnk] at this
              omega
            have hvb := right_kids hrg hmn' v (List.mem_of_getLast? hlast)
            have hv3 : 0 ≤ v ∧ v ≤ 300 := by have := HS.out.2.1; omega
            have hK2 : ak = some ⟨K, 0, none⟩ := hak.trans hK
            subst hK2
            have hkn := HP.out.1.bendAt hil (by intro h; rw [h] at hnk; simp at hnk) hK (v + 1)
            rw [← hnk] at hkn
            simp only [Nat.add_sub_cancel] at hkn
            obtain ⟨hbend, hcb⟩ := hkn
            have hnodes : (L.set mi (L[mi].bend (v + 1))).map (·.1) = (g.bend mi (v + 1)).nodes := by
              rw [List.map_set, HN.out.1]
              simp only [Gr.bend, List.getElem?_eq_getElem hmn', Cp.bend, hNd]
            have hgw : (g.bend mi (v + 1)).Wf := by
              refine ⟨fun x hx => ?_, H.out.1.wf.names, H.out.1.wf.bodies⟩
              simp only [Gr.bend, List.getElem?_eq_getElem hmn'] at hx
              rcases List.mem_or_eq_of_mem_set hx with hx | rfl
              · exact H.out.1.wf.nodes x hx
              · have h0 := H.out.1.wf.nodes _ (List.getElem_mem hmn')
                refine ⟨h0.k, h0.r, h0.l, fun z hz => ?_, h0.s⟩
                simp only [Nd.bend, List.mem_append, List.mem_singleton] at hz
                rcases hz with hz | rfl
                · exact h0.kids z (List.dropLast_subset _ hz)
                · constructor <;> omega
            have hgb := hbend.gram (by rw [hnodes]; exact hgw)
            rw [hnodes, List.length_set, HL2.out] at hgb
            have hgb : GramAt (w10.setCell ⟨K, nl, none⟩ (.int .i64 (v + 1))) b1 g.rules.length d1 (some ⟨G, 0, none⟩) g.nodes.length d2 (g.bend mi (v + 1)) := hgb
            have hKl := World.block_lt_of_cell? _ _ hcell
            simp only at hKl
            have hne9 : w9.heap.size ≠ K := by
              intro e
              rw [← e] at hcell
              rw [cell_of_cells HP.out.2.1] at hcell
              rcases nl with _ | _ | nl
              · simp at hcell
              · simp at hcell
              · simp at hcell
            have hneG : G ≠ K := by
              obtain ⟨G', hG', _, ⟨cur, hcur⟩, _⟩ := HP.out.1.ownN.at hil
              have hG'' : G = G' := by simpa using hG'
              have hko : (Value.slice L[mi].2.1 L[mi].1.kids.length L[mi].2.2).ownBlock = some K := by rw [hK]; rfl
              obtain ⟨_, _, cur2, hcur2⟩ := row_beyond (HP.out.1.kids _ (List.getElem_mem hil)) hko
              intro e
              rw [← hG'', e, hcur2] at hcur
              simp at hcur
            have HGK : Hid (G ≠ K) := Lib.hid hneG
            have hwrong := bend_wrong hrg hmn' hlast (show v + 1 ≠ v by omega)
            have hunlike := bend_unlike hmn' hlast (show v + 1 ≠ v by omega)
            have hbox := hcb.heap HP.out.2.1 (by simpa using hne9)
            have y1 := lt_of_block HL.out.1.g
            have y2 := lt_of_block HL.out.1.r
            have y3 := lt_of_block HL.out.1.t
            have y4 := lt_of_block HL.out.1.d
            have y5 := lt_of_block HL.out.2.1
            have HT := Lib.hid (And.intro hgb (And.intro hwrong (And.intro hunlike (And.intro hbox (And.intro (hcb.heap HP.out.2.2.1 (by simp; omega)) (And.intro (hcb.heap HP.out.2.2.2.1 (by simp; omega)) (And.intro (hcb.heap HP.out.2.2.2.2.1 (by simp; omega)) (And.intro (hcb.heap HP.out.2.2.2.2.2.1 (by simp; omega)) (And.intro (hcb.heap HP.out.2.2.2.2.2.2.1 (by simp; omega)) (HP.out.2.2.2.2.2.2.2.1.trans hcb (fun j hj => .inr (by simp at hj; omega))))))))))))
            clear hput y1 y2 y3 y4 y5 hgb hwrong hunlike hbox hcb hbend hnodes hgw hKl hneG hvb hlast hv hNd hmn' hak hck hK hnk
            clear hil
            go_wp2_with fail
            have hnl1 : (nl : Int) < (nl : Int) + 1 := by omega
            have hneG : G ≠ K := by
              exact HGK.out
            have hw1 : IntKind.i64.wrap (nl : Int) = nl := by rw [IntKind.wrap_i64]; omega
            have hw2 : IntKind.i64.wrap (v + 1) = v + 1 := by rw [IntKind.wrap_i64]; omega
            refine wp_region_inv (by kernel_rfl) (by kernel_rfl) (fun l a' w' => ∃ u89 u90 u91 u92 u93 u94 u95 u96 u97 u98 u99 u100 u101 u102 u103 u104 u105 u106, (l 18 = false → w' = w10.drew) ∧ (l 18 = true → w' = (w10.drew.setCell ⟨K, nl, none⟩ (.int .i64 (v + 1)))) ∧ (l 16 = true → l 15 = true) ∧ (l 18 = true → l 15 = true) ∧ (l 0 = true → u89 = .pointer (some ⟨w9.heap.size, 1, none⟩)) ∧ (l 1 = true → u90 = .slice (some ⟨G, 0, none⟩) g.nodes.length d2) ∧ (l 2 = true → u91 = .int .i64 mi) ∧ (l 3 = true → u92 = .pointer (some ⟨G, mi * 9, none⟩)) ∧ (l 4 = true → u93 = .pointer (some ⟨G, mi * 9 + 8, none⟩)) ∧ (l 5 = true → u94 = .slice (some ⟨K, 0, none⟩) (nl + 1) ck) ∧ (l 6 = true → u95 = .pointer (some ⟨w9.heap.size, 1, none⟩)) ∧ (l 7 = true → u96 = .slice (some ⟨G, 0, none⟩) g.nodes.length d2) ∧ (l 8 = true → u97 = .int .i64 mi) ∧ (l 9 = true → u98 = .pointer (some ⟨G, mi * 9, none⟩)) ∧ (l 10 = true → u99 = .pointer (some ⟨G, mi * 9 + 8, none⟩)) ∧ (l 11 = true → u100 = .slice (some ⟨K, 0, none⟩) (nl + 1) ck) ∧ (l 12 = true → u101 = .int .i64 ((nl : Int) + 1)) ∧ (l 13 = true → u102 = .int .i64 nl) ∧ (l 14 = true → u103 = .pointer (some ⟨K, nl, none⟩)) ∧ (l 15 = true → u104 = .int .i64 v) ∧ (l 16 = true → u105 = .int .i64 (v + 1)) ∧ (l 17 = true → u106 = .pointer (some ⟨K, nl, none⟩)) ∧ a' = { tmps := #[.agg #[.slice a1 n1 c1, .slice a2 n2 c2], .int .i64 n, .int .i64 stop, .int .i64 at_, .pointer (some ⟨w.heap.size, 0, none⟩), undef, undef, undef, .pointer (some ⟨w.heap.size + 1, 0, none⟩), .pointer (some ⟨w2.heap.size, 0, none⟩), .pointer (some ⟨w2.heap.size + 1, 0, none⟩), undef, undef, .pointer (some ⟨w6.heap.size, 0, none⟩), .pointer (some ⟨w9.heap.size, 0, none⟩), .int .i64 mi, .bool true, .bool false, .agg #[.slice a1 n1 c1, .slice a2 n2 c2], .int .i64 m, .bool (decide (300 < m)), .int .i64 n, .agg #[.slice a1 n1 c1, .slice a2 n2 c2], .int .i64 n, .func (.func 99) #[] #[.pointer (some ⟨w2.heap.size + 1 + 1, 0, none⟩), .pointer (some ⟨w2.heap.size + 1 + 1 + 1, 0, none⟩)], undef, undef, undef, undef, undef, undef, undef, undef, undef, undef, undef, undef, undef, undef, undef, undef, undef, undef, undef, .int .i64 z, .agg #[.slice a1 n1 c1, .slice a2 n2 c2], .int .i64 n, .int .i64 z, .bool false, .int .i64 stop, .int .i64 z, .int .i64 ((z : Int) + 1), .int .i64 q, .agg #[.slice a1 n1 c1, .slice a2 n2 c2], .int .i64 n, .func (.func 99) #[] #[.pointer (some ⟨w6.heap.size + 1, 0, none⟩), .pointer (some ⟨w6.heap.size + 1 + 1, 0, none⟩)], undef, undef, undef, undef, undef, undef, .agg #[.slice a1 n1 c1, .slice a2 n2 c2], .bool true, .bool false, undef, undef, .agg #[.slice a1 n1 c1, .slice a2 n2 c2], .agg #[.slice b1 g.rules.length d1, .slice (some ⟨G, 0, none⟩) g.nodes.length d2], .int .i64 at_, .pointer (some ⟨w.heap.size, 1, none⟩), .slice a2 n2 c2, .int .i64 n2, .int .i64 mi, .pointer (some ⟨w9.heap.size, 1, none⟩), .slice (some ⟨G, 0, none⟩) g.nodes.length d2, .int .i64 mi, .pointer (some ⟨G, mi * 9, none⟩), .pointer (some ⟨G, mi * 9 + 8, none⟩), .slice (some ⟨K, 0, none⟩) (nl + 1) ck, .int .i64 ((nl : Int) + 1), .bool ((nl : Int) + 1 == 0), undef, undef, undef, undef, undef, undef, undef, u89, u90, u91, u92, u93, u94, u95, u96, u97, u98, u99, u100, u101, u102, u103, u104, u105, u106, undef, undef, undef, undef, undef, undef, undef, undef, undef, undef, undef, undef, undef], defers := [{ target := .collected D2, args := #[] }, { target := .collected D, args := #[] }] }) ?h0 ?hstep ?hdone
            case h0 => exact ⟨undef, undef, undef, undef, undef, undef, undef, undef, undef, undef, undef, undef, undef, undef, undef, undef, undef, undef, fun _ => rfl, (fun h => by cases h), (fun h => by cases h), (fun h => by cases h), (fun h => by cases h), (fun h => by cases h), (fun h => by cases h), (fun h => by cases h), (fun h => by cases h), (fun h => by cases h), (fun h => by cases h), (fun h => by cases h), (fun h => by cases h), (fun h => by cases h), (fun h => by cases h), (fun h => by cases h), (fun h => by cases h), (fun h => by cases h), (fun h => by cases h), (fun h => by cases h), (fun h => by cases h), (fun h => by cases h), rfl⟩
            case hstep =>
              rintro l a' w' ⟨u89, u90, u91, u92, u93, u94, u95, u96, u97, u98, u99, u100, u101, u102, u103, u104, u105, u106, f0, f1, e1, e2, q0, q1, q2, q3, q4, q5, q6, q7, q8, q9, q10, q11, q12, q13, q14, q15, q16, q17, rfl⟩ j hj hlj hdep
              have hj19 : j < 19 := hj
              have hww : w' = w10.drew ∨ w' = (w10.drew.setCell ⟨K, nl, none⟩ (.int .i64 (v + 1))) := by cases h : l 18 with | false => exact .inl (f0 h) | true => exact .inr (f1 h)
              have hcB : w'.cell? ⟨w9.heap.size, 1, none⟩ = some (.slice (some ⟨G, 0, none⟩) g.nodes.length d2) := by rcases hww with rfl | rfl; exact x1; exact ((Chg.refl [K] w10.drew).setCell (p := ⟨K, nl, none⟩) (.inl (by simp)) _).cell x1 (by simpa using hne9)
              have hcG : w'.cell? ⟨G, mi * 9 + 8, none⟩ = some (.slice (some ⟨K, 0, none⟩) (nl + 1) ck) := by rcases hww with rfl | rfl; exact hkid; exact ((Chg.refl [K] w10.drew).setCell (p := ⟨K, nl, none⟩) (.inl (by simp)) _).cell hkid (by simpa using hneG)
              rcases (show j = 0 ∨ j = 1 ∨ j = 2 ∨ j = 3 ∨ j = 4 ∨ j = 5 ∨ j = 6 ∨ j = 7 ∨ j = 8 ∨ j = 9 ∨ j = 10 ∨ j = 11 ∨ j = 12 ∨ j = 13 ∨ j = 14 ∨ j = 15 ∨ j = 16 ∨ j = 17 ∨ j = 18 by omega) with rfl | rfl | rfl | rfl | rfl | rfl | rfl | rfl | rfl | rfl | rfl | rfl | rfl | rfl | rfl | rfl | rfl | rfl | rfl
              · refine wpOp_atK rfl rfl fun Kk hK => ?_
                go_simp
                exact hK _ _ ⟨_, _, _, _, _, _, _, _, _, _, _, _, _, _, _, _, _, _, by simpa using f0, by simpa using f1, by simpa using e1, by simpa using e2, fun _ => rfl, by simpa using q1, by simpa using q2, by simpa using q3, by simpa using q4, by simpa using q5, by simpa using q6, by simpa using q7, by simpa using q8, by simpa using q9, by simpa using q10, by simpa using q11, by simpa using q12, by simpa using q13, by simpa using q14, by simpa using q15, by simpa using q16, by simpa using q17, rfl⟩
              · have l0 := hdep _ rfl { on := 0, ground := .data } (by simp) (by kernel_rfl)
                obtain rfl := q0 l0
                refine wpOp_atK rfl rfl fun Kk hK => ?_
                go_simp
                exact hK _ _ ⟨_, _, _, _, _, _, _, _, _, _, _, _, _, _, _, _, _, _, by simpa using f0, by simpa using f1, by simpa using e1, by simpa using e2, fun _ => rfl, fun _ => rfl, by simpa using q2, by simpa using q3, by simpa using q4, by simpa using q5, by simpa using q6, by simpa using q7, by simpa using q8, by simpa using q9, by simpa using q10, by simpa using q11, by simpa using q12, by simpa using q13, by simpa using q14, by simpa using q15, by simpa using q16, by simpa using q17, rfl⟩
              · refine wpOp_atK rfl rfl fun Kk hK => ?_
                go_simp
                exact hK _ _ ⟨_, _, _, _, _, _, _, _, _, _, _, _, _, _, _, _, _, _, by simpa using f0, by simpa using f1, by simpa using e1, by simpa using e2, by simpa using q0, by simpa using q1, fun _ => rfl, by simpa using q3, by simpa using q4, by simpa using q5, by simpa using q6, by simpa using q7, by simpa using q8, by simpa using q9, by simpa using q10, by simpa using q11, by simpa using q12, by simpa using q13, by simpa using q14, by simpa using q15, by simpa using q16, by simpa using q17, rfl⟩
              · have l1 := hdep _ rfl { on := 1, ground := .data } (by simp) (by kernel_rfl)
                obtain rfl := q1 l1
                have l2 := hdep _ rfl { on := 2, ground := .data } (by simp) (by kernel_rfl)
                obtain rfl := q2 l2
                refine wpOp_atK rfl rfl fun Kk hK => ?_
                go_simp
                exact hK _ _ ⟨_, _, _, _, _, _, _, _, _, _, _, _, _, _, _, _, _, _, by simpa using f0, by simpa using f1, by simpa using e1, by simpa using e2, by simpa using q0, fun _ => rfl, fun _ => rfl, fun _ => rfl, by simpa using q4, by simpa using q5, by simpa using q6, by simpa using q7, by simpa using q8, by simpa using q9, by simpa using q10, by simpa using q11, by simpa using q12, by simpa using q13, by simpa using q14, by simpa using q15, by simpa using q16, by simpa using q17, rfl⟩
              · have l3 := hdep _ rfl { on := 3, ground := .data } (by simp) (by kernel_rfl)
                obtain rfl := q3 l3
                refine wpOp_atK rfl rfl fun Kk hK => ?_
                go_simp
                exact hK _ _ ⟨_, _, _, _, _, _, _, _, _, _, _, _, _, _, _, _, _, _, by simpa using f0, by simpa using f1, by simpa using e1, by simpa using e2, by simpa using q0, by simpa using q1, by simpa using q2, fun _ => rfl, fun _ => rfl, by simpa using q5, by simpa using q6, by simpa using q7, by simpa using q8, by simpa using q9, by simpa using q10, by simpa using q11, by simpa using q12, by simpa using q13, by simpa using q14, by simpa using q15, by simpa using q16, by simpa using q17, rfl⟩
              · have l4 := hdep _ rfl { on := 4, ground := .data } (by simp) (by kernel_rfl)
                obtain rfl := q4 l4
                refine wpOp_atK rfl rfl fun Kk hK => ?_
                go_simp
                exact hK _ _ ⟨_, _, _, _, _, _, _, _, _, _, _, _, _, _, _, _, _, _, by simpa using f0, by simpa using f1, by simpa using e1, by simpa using e2, by simpa using q0, by simpa using q1, by simpa using q2, by simpa using q3, fun _ => rfl, fun _ => rfl, by simpa using q6, by simpa using q7, by simpa using q8, by simpa using q9, by simpa using q10, by simpa using q11, by simpa using q12, by simpa using q13, by simpa using q14, by simpa using q15, by simpa using q16, by simpa using q17, rfl⟩
              · refine wpOp_atK rfl rfl fun Kk hK => ?_
                go_simp
                exact hK _ _ ⟨_, _, _, _, _, _, _, _, _, _, _, _, _, _, _, _, _, _, by simpa using f0, by simpa using f1, by simpa using e1, by simpa using e2, by simpa using q0, by simpa using q1, by simpa using q2, by simpa using q3, by simpa using q4, by simpa using q5, fun _ => rfl, by simpa using q7, by simpa using q8, by simpa using q9, by simpa using q10, by simpa using q11, by simpa using q12, by simpa using q13, by simpa using q14, by simpa using q15, by simpa using q16, by simpa using q17, rfl⟩
              · have l6 := hdep _ rfl { on := 6, ground := .data } (by simp) (by kernel_rfl)
                obtain rfl := q6 l6
                refine wpOp_atK rfl rfl fun Kk hK => ?_
                go_simp
                exact hK _ _ ⟨_, _, _, _, _, _, _, _, _, _, _, _, _, _, _, _, _, _, by simpa using f0, by simpa using f1, by simpa using e1, by simpa using e2, by simpa using q0, by simpa using q1, by simpa using q2, by simpa using q3, by simpa using q4, by simpa using q5, fun _ => rfl, fun _ => rfl, by simpa using q8, by simpa using q9, by simpa using q10, by simpa using q11, by simpa using q12, by simpa using q13, by simpa using q14, by simpa using q15, by simpa using q16, by simpa using q17, rfl⟩
              · refine wpOp_atK rfl rfl fun Kk hK => ?_
                go_simp
                exact hK _ _ ⟨_, _, _, _, _, _, _, _, _, _, _, _, _, _, _, _, _, _, by simpa using f0, by simpa using f1, by simpa using e1, by simpa using e2, by simpa using q0, by simpa using q1, by simpa using q2, by simpa using q3, by simpa using q4, by simpa using q5, by simpa using q6, by simpa using q7, fun _ => rfl, by simpa using q9, by simpa using q10, by simpa using q11, by simpa using q12, by simpa using q13, by simpa using q14, by simpa using q15, by simpa using q16, by simpa using q17, rfl⟩
              · have l7 := hdep _ rfl { on := 7, ground := .data } (by simp) (by kernel_rfl)
                obtain rfl := q7 l7
                have l8 := hdep _ rfl { on := 8, ground := .data } (by simp) (by kernel_rfl)
                obtain rfl := q8 l8
                refine wpOp_atK rfl rfl fun Kk hK => ?_
                go_simp
                exact hK _ _ ⟨_, _, _, _, _, _, _, _, _, _, _, _, _, _, _, _, _, _, by simpa using f0, by simpa using f1, by simpa using e1, by simpa using e2, by simpa using q0, by simpa using q1, by simpa using q2, by simpa using q3, by simpa using q4, by simpa using q5, by simpa using q6, fun _ => rfl, fun _ => rfl, fun _ => rfl, by simpa using q10, by simpa using q11, by simpa using q12, by simpa using q13, by simpa using q14, by simpa using q15, by simpa using q16, by simpa using q17, rfl⟩
              · have l9 := hdep _ rfl { on := 9, ground := .data } (by simp) (by kernel_rfl)
                obtain rfl := q9 l9
                refine wpOp_atK rfl rfl fun Kk hK => ?_
                go_simp
                exact hK _ _ ⟨_, _, _, _, _, _, _, _, _, _, _, _, _, _, _, _, _, _, by simpa using f0, by simpa using f1, by simpa using e1, by simpa using e2, by simpa using q0, by simpa using q1, by simpa using q2, by simpa using q3, by simpa using q4, by simpa using q5, by simpa using q6, by simpa using q7, by simpa using q8, fun _ => rfl, fun _ => rfl, by simpa using q11, by simpa using q12, by simpa using q13, by simpa using q14, by simpa using q15, by simpa using q16, by simpa using q17, rfl⟩
              · have l10 := hdep _ rfl { on := 10, ground := .data } (by simp) (by kernel_rfl)
                obtain rfl := q10 l10
                refine wpOp_atK rfl rfl fun Kk hK => ?_
                go_simp
                exact hK _ _ ⟨_, _, _, _, _, _, _, _, _, _, _, _, _, _, _, _, _, _, by simpa using f0, by simpa using f1, by simpa using e1, by simpa using e2, by simpa using q0, by simpa using q1, by simpa using q2, by simpa using q3, by simpa using q4, by simpa using q5, by simpa using q6, by simpa using q7, by simpa using q8, by simpa using q9, fun _ => rfl, fun _ => rfl, by simpa using q12, by simpa using q13, by simpa using q14, by simpa using q15, by simpa using q16, by simpa using q17, rfl⟩
              · have l11 := hdep _ rfl { on := 11, ground := .data } (by simp) (by kernel_rfl)
                obtain rfl := q11 l11
                refine wpOp_atK rfl rfl fun Kk hK => ?_
                go_simp
                exact hK _ _ ⟨_, _, _, _, _, _, _, _, _, _, _, _, _, _, _, _, _, _, by simpa using f0, by simpa using f1, by simpa using e1, by simpa using e2, by simpa using q0, by simpa using q1, by simpa using q2, by simpa using q3, by simpa using q4, by simpa using q5, by simpa using q6, by simpa using q7, by simpa using q8, by simpa using q9, by simpa using q10, fun _ => rfl, fun _ => rfl, by simpa using q13, by simpa using q14, by simpa using q15, by simpa using q16, by simpa using q17, rfl⟩
              · have l12 := hdep _ rfl { on := 12, ground := .data } (by simp) (by kernel_rfl)
                obtain rfl := q12 l12
                refine wpOp_atK rfl rfl fun Kk hK => ?_
                go_simp
                try rw [hw1]
                exact hK _ _ ⟨_, _, _, _, _, _, _, _, _, _, _, _, _, _, _, _, _, _, by simpa using f0, by simpa using f1, by simpa using e1, by simpa using e2, by simpa using q0, by simpa using q1, by simpa using q2, by simpa using q3, by simpa using q4, by simpa using q5, by simpa using q6, by simpa using q7, by simpa using q8, by simpa using q9, by simpa using q10, by simpa using q11, fun _ => rfl, fun _ => rfl, by simpa using q14, by simpa using q15, by simpa using q16, by simpa using q17, rfl⟩
              · have l5 := hdep _ rfl { on := 5, ground := .data } (by simp) (by kernel_rfl)
                obtain rfl := q5 l5
                have l13 := hdep _ rfl { on := 13, ground := .data } (by simp) (by kernel_rfl)
                obtain rfl := q13 l13
                refine wpOp_atK rfl rfl fun Kk hK => ?_
                go_simp
                exact hK _ _ ⟨_, _, _, _, _, _, _, _, _, _, _, _, _, _, _, _, _, _, by simpa using f0, by simpa using f1, by simpa using e1, by simpa using e2, by simpa using q0, by simpa using q1, by simpa using q2, by simpa using q3, by simpa using q4, fun _ => rfl, by simpa using q6, by simpa using q7, by simpa using q8, by simpa using q9, by simpa using q10, by simpa using q11, by simpa using q12, fun _ => rfl, fun _ => rfl, by simpa using q15, by simpa using q16, by simpa using q17, rfl⟩
              · have l14 := hdep _ rfl { on := 14, ground := .data } (by simp) (by kernel_rfl)
                obtain rfl := q14 l14
                have h18 : l 18 = false := by cases h : l 18 with | false => rfl | true => (rw [e2 h] at hlj; cases hlj)
                obtain rfl := f0 h18
                refine wpOp_atK rfl rfl fun Kk hK => ?_
                go_simp
                exact hK _ _ ⟨_, _, _, _, _, _, _, _, _, _, _, _, _, _, _, _, _, _, fun _ => rfl, by simpa using f1, fun _ => by simp, fun _ => by simp, by simpa using q0, by simpa using q1, by simpa using q2, by simpa using q3, by simpa using q4, by simpa using q5, by simpa using q6, by simpa using q7, by simpa using q8, by simpa using q9, by simpa using q10, by simpa using q11, by simpa using q12, by simpa using q13, fun _ => rfl, fun _ => rfl, by simpa using q16, by simpa using q17, rfl⟩
              · have l15 := hdep _ rfl { on := 15, ground := .data } (by simp) (by kernel_rfl)
                obtain rfl := q15 l15
                refine wpOp_atK rfl rfl fun Kk hK => ?_
                go_simp
                try rw [hw2]
                exact hK _ _ ⟨_, _, _, _, _, _, _, _, _, _, _, _, _, _, _, _, _, _, by simpa using f0, by simpa using f1, fun _ => by simpa using l15, by simpa using e2, by simpa using q0, by simpa using q1, by simpa using q2, by simpa using q3, by simpa using q4, by simpa using q5, by simpa using q6, by simpa using q7, by simpa using q8, by simpa using q9, by simpa using q10, by simpa using q11, by simpa using q12, by simpa using q13, by simpa using q14, fun _ => rfl, fun _ => rfl, by simpa using q17, rfl⟩
              · have l5 := hdep _ rfl { on := 5, ground := .data } (by simp) (by kernel_rfl)
                obtain rfl := q5 l5
                have l13 := hdep _ rfl { on := 13, ground := .data } (by simp) (by kernel_rfl)
                obtain rfl := q13 l13
                refine wpOp_atK rfl rfl fun Kk hK => ?_
                go_simp
                exact hK _ _ ⟨_, _, _, _, _, _, _, _, _, _, _, _, _, _, _, _, _, _, by simpa using f0, by simpa using f1, by simpa using e1, by simpa using e2, by simpa using q0, by simpa using q1, by simpa using q2, by simpa using q3, by simpa using q4, fun _ => rfl, by simpa using q6, by simpa using q7, by simpa using q8, by simpa using q9, by simpa using q10, by simpa using q11, by simpa using q12, fun _ => rfl, by simpa using q14, by simpa using q15, by simpa using q16, fun _ => rfl, rfl⟩
              · have l17 := hdep _ rfl { on := 17, ground := .data } (by simp) (by kernel_rfl)
                obtain rfl := q17 l17
                have l16 := hdep _ rfl { on := 16, ground := .data } (by simp) (by kernel_rfl)
                obtain rfl := q16 l16
                obtain rfl := f0 hlj
                refine wpOp_atK rfl rfl fun Kk hK => ?_
                go_simp
                exact hK _ _ ⟨_, _, _, _, _, _, _, _, _, _, _, _, _, _, _, _, _, _, (fun h => by simp at h), fun _ => rfl, by simpa using e1, fun _ => by simpa using e1 l16, by simpa using q0, by simpa using q1, by simpa using q2, by simpa using q3, by simpa using q4, by simpa using q5, by simpa using q6, by simpa using q7, by simpa using q8, by simpa using q9, by simpa using q10, by simpa using q11, by simpa using q12, by simpa using q13, by simpa using q14, by simpa using q15, fun _ => rfl, fun _ => rfl, rfl⟩
            case hdone =>
              rintro l a' w' ⟨u89, u90, u91, u92, u93, u94, u95, u96, u97, u98, u99, u100, u101, u102, u103, u104, u105, u106, f0, f1, e1, e2, q0, q1, q2, q3, q4, q5, q6, q7, q8, q9, q10, q11, q12, q13, q14, q15, q16, q17, rfl⟩ hall
              obtain rfl := f1 (hall 18 (by decide))
              clear f0 f1 e1 e2 q0 q1 q2 q3 q4 q5 q6 q7 q8 q9 q10 q11 q12 q13 q14 q15 q16 q17 hall
              dsimp only
              obtain ⟨hgb, hwrong, hunlike, hbox, hgg, hrr, htt, hdd, hdd2, hch⟩ := HT.out
              obtain ⟨w11, e11⟩ : ∃ w11, w11 = w10.drew.setCell ⟨K, nl, none⟩ (.int .i64 (v + 1)) := ⟨_, rfl⟩
              have hd : Chg [] (w10.setCell ⟨K, nl, none⟩ (.int .i64 (v + 1))) w11 := by
                rw [e11]
                exact (Chg.refl [] (w10.setCell ⟨K, nl, none⟩ (.int .i64 (v + 1)))).drew
              rw [← e11]
              have HU := Lib.hid (And.intro (hgb.keep hd.kp) (And.intro hwrong (And.intro hunlike (And.intro (hd.heap hbox (by simp)) (And.intro (hd.heap hgg (by simp)) (And.intro (hd.heap hrr (by simp)) (And.intro (hd.heap htt (by simp)) (And.intro (hd.heap hdd (by simp)) (And.intro (hd.heap hdd2 (by simp)) (hch.tr hd))))))))))
              clear hgb hwrong hunlike hbox hgg hrr htt hdd hdd2 hch hd e11 x0 x1 hcell hkid hfz hw1 hw2 hnl1 hneG hne9
              obtain ⟨x0, x1⟩ := cells2 HU.out.2.2.2.1
              go_wp2_with fail
              have hp := Right_any w11 b1 _ d1 _ _ d2 _ HU.out.1
              rw [HU.out.2.1] at hp
              refine hp.mono ?_
              clear hp
              rintro e w12 ⟨rfl, hc12⟩
              have HV := Lib.hid (And.intro hc12 (And.intro (HU.out.1.keep hc12.kp) (And.intro (hc12.heap HU.out.2.2.2.1 (by simp)) (And.intro (hc12.heap HU.out.2.2.2.2.1 (by simp)) (HU.out.2.2.2.2.2.2.2.2.2.tr hc12)))))
              clear hc12 x0 x1
              obtain ⟨x0, x1⟩ := cells2 HV.out.2.2.1
              obtain ⟨g0, g1⟩ := cells2 HV.out.2.2.2.1
              go_wp2_with fail
              have hp := gramSame_any w12 b1 _ d1 _ _ d2 _ a1 n1 c1 a2 n2 c2 g HV.out.2.1 (H.out.1.keep HV.out.2.2.2.2.kp)
              rw [HU.out.2.2.1] at hp
              refine hp.mono ?_
              clear hp
              rintro e w13 ⟨rfl, hc13⟩
              have hr13 := hc13.heap (HV.out.1.heap HU.out.2.2.2.2.2.1 (by simp)) (by simp)
              have ht13 := hc13.heap (HV.out.1.heap HU.out.2.2.2.2.2.2.1 (by simp)) (by simp)
              have HW := Lib.hid (And.intro hr13 (And.intro (hc13.heap (HV.out.1.heap HU.out.2.2.2.2.2.2.2.1 (by simp)) (by simp)) (And.intro (hc13.heap (HV.out.1.heap HU.out.2.2.2.2.2.2.2.2.1 (by simp)) (by simp)) (HV.out.2.2.2.2.tr hc13))))
              have r0 := cells1 hr13
              have f0 := free_of_cells hr13 0
              have t0 := cells1 ht13
              clear hc13 hr13 ht13 x0 x1 g0 g1
              go_wp2_with fail
              obtain ⟨hr8, hd8, hd28, hch8⟩ := HW.out
              have hz := heap_setCell_same hr8 0 (.bool true)
              simp at hz
              have hcz := (Chg.refl [w.heap.size + 1] w13).setCell (p := ⟨w.heap.size + 1, 0, none⟩) (.inl (by simp)) (.bool true)
              have hDD := lt_of_block HL.out.1.d
              have hlW2 := H7.out.2.2.2.2.1.size
              refine leave_two (v := .bool true) (B := w3.heap.size) (I := fun W' => W'.heap[w.heap.size + 1]? = some (.cells #[.bool true] 4 (0, 0)) ∧ Chg [] w W') (hcz.heap hd8 (by simp; omega)) (hcz.heap hd28 (by simp; omega)) (by omega) hD (by omega) ((Stays.block _ _ _ rfl).and (Stays.since _ _ _ hw3)) ⟨hz, hch8.trans hcz (fun k hk => .inr (by simp at hk; omega))⟩ ?_
              rintro W' ⟨hb, hch⟩
              have c0 := cells1 hb
              exact ⟨by simp [results, Try.results7, go_sem, c0], rfl, hch⟩
    case stop =>
      rintro D c pre W hD _ h _
      exact h.elim
end Go.Proofs.Ytibgfgfmljhimaa

/-
  slices.Collect, slices.AppendSeq over numbers: all that an iterator hands, in a row of its own.
  Conditions: the iterator promises a list of so many numbers, and lets the rounds write what they made.
-/
import Derived.Test.YtibgfgfmljhimaaGreatLeGRnd
import Derived.Test.YtibgfgfmljhimaaGreatLeGFresh
import Derived.Test.YtibgfgfmljhimaaGreatLeLf4
set_option linter.unusedVariables false
set_option linter.unusedSimpArgs false
set_option linter.unnecessarySimpa false
namespace Go.Proofs.YtibgfgfmljhimaaGreat
open Go.RowKit Go.MapKept Go.Shelf

section
attribute [local go_sem] Oper.semAt_some
set_option maxRecDepth 100000 in
set_option maxHeartbeats 4000000 in
theorem appendSeq_gives (w : World) (gf : Nat) (lb : Array Value) (eg : ∀ args w, (callFunc gf args).run Tryz.prog w = .ok (.enter gf args) w)
    {Hx : List Int → Int → World → Prop} {Kq : List Int → Int → World → World → Prop} {Sp : List Int → Prop} (L : List Int) (hL : L.length ≤ 100000)
    (hseq : Gives Tryz.prog gf lb (fun x : Int => #[.int .i64 x]) Hx Kq (fun xs => xs = L) Sp w) (hpre : ∀ pre x W, Hx pre x W → pre ++ [x] <+: L) (hH : ∀ B pre x, Stays B (Hx pre x))
    (hK : ∀ B pre x A A1 A2 C C', w.heap.size ≤ B → Chg [] A A1 → Turn B A1 A2 → Kq pre x A2 C → Turn B C C' → Kq pre x A C')
    (hC : ∀ pre x S A A', Chg S A A' → (∀ k ∈ S, w.heap.size ≤ k ∧ ∃ cs ty m, A.heap[k]? = some (.cells cs ty m) ∧ (ty = 48 ∨ ty = 3)) → Kq pre x A A') :
    Calls Tryz.prog 154 #[.slice none 0 0, .func (.func gf) #[] lb] w (ClonedInts w L) := by
  obtain ⟨i0, hin, hz0, hz1, hz2⟩ := info_parts Tryz.infoInt
  have H := Lib.hid (And.intro hseq (And.intro hpre (And.intro hC hL)))
  have HH := Lib.hid (And.intro hH hK)
  clear hseq hpre hC hL hH hK
  refine (callsIn_wide (n := 3)).1 ?_
  refine callsIn_of_wp_marks Tryz.func154 rfl trivial ?_ rfl
  simp only [Tryz.ntmps154, List.size_toArray, List.length_cons, List.length_nil, Nat.reduceAdd, Nat.reduceSub, Array.replicate_succ, Array.replicate_zero, List.push_toArray, List.append_toArray, List.nil_append, List.cons_append]
  refine wpIn_wide.2 ?_
  go_wp2_with fail
  obtain ⟨w1, e1⟩ : ∃ w1, w1 = w.alloc (.cells #[.slice none 0 0] 48) := ⟨_, rfl⟩
  have hb1 : w1.heap[w.heap.size]? = some (.cells #[.slice none 0 0] 48 (0, 0)) := by rw [e1]; exact heap_alloc_same _ _
  have hc1 : Chg [] w w1 := by rw [e1]; exact (Chg.refl _ _).alloc _
  have hs1 : w1.heap.size = w.heap.size + 1 := by rw [e1]; simp
  rw [← e1]
  clear e1
  refine (wpIn_wide (n := 3)).1 ?_
  refine range_gives (n := 3) (gf := gf) (lb := lb) rfl eg H.out.1 (fun pre x => HH.out.1 _ pre x) ?hK hc1 (fun _ => rfl)
    (fun pre W => ∃ a c, W.heap[w.heap.size]? = some (.cells #[.slice a pre.length c] 48 (0, 0)) ∧ W.ownsRow (w.heap.size + 1) 3 1 (.slice a pre.length c) pre.length (pre.map (Value.int .i64)) ∧ Chg [] w W) (fun _ _ _ => False)
    (fun s => Stays.ex fun a => Stays.ex fun c => (Stays.block _ _ _ rfl).and ((Stays.row _ _ _ _ _ _ _).and (Stays.since _ _ _ (by omega)))) (fun _ _ => Stays.pure _) ?h0
    (fun x a' W => a' = { tmps := #[.slice none 0 0, .func (.func gf) #[] lb, .pointer (some ⟨w.heap.size, 0, none⟩), undef, .slice none 0 0, .int .i64 x, .func (.func gf) #[] lb, .int .i64 x, undef, undef, undef, undef, undef], defers := [] }) (fun x a' => Stays.pure _) ?assign ?body ?done ?stop
  case hK =>
    rintro pre x A A1 A2 C C' hc ht k1 ht2
    exact HH.out.2 _ pre x A A1 A2 C C' (by omega) hc ht k1 ht2
  case h0 => exact ⟨none, 0, hb1, World.ownsRow_nil _ _ _ _, hc1⟩
  case assign =>
    rintro l pre x W K hi hx hK
    gi_wp2
    exact hK _ _ (Chg.refl _ _) rfl
  case body =>
    rintro l pre x a' W ⟨a4, c4, hO, hown, hch⟩ hx rfl
    have hlen : pre.length + 1 ≤ L.length := by have := (H.out.2.1 _ _ _ hx).length_le; simpa using this
    have hL := H.out.2.2.2
    have o0 := cells1 hO
    have f1 := free_of_cells hO 0
    have h1' : ∀ u ∈ [Value.int .i64 x], u.oneCell' = true := by simp [Value.oneCell']
    have h2' : pre.length + 1 ≤ maxLen ∧ (pre.length + 1) * 8 ≤ 140737488355328 := by simp only [maxLen]; omega
    have hnew := cells_at (w := W.alloc (.cells #[.int .i64 x] 3)) (heap_alloc_same _ _)
    have hbase : w.heap.size + 1 ≤ (W.alloc (.cells #[.int .i64 x] 3)).heap.size := by have := hch.size; simp; omega
    have HB := Lib.hid (And.intro hown (And.intro h1' (And.intro h2' (And.intro hnew hbase))))
    have HC := Lib.hid (And.intro hO hch)
    clear hown hO hch h1' h2' hnew hbase hlen hL hx
    gi_wp2_with (gi_at_builtin; refine wpListIn_append_own _ rfl _ _ 48 rfl (w.heap.size + 1) 3 i0 _ 1 8 Tryz.underlying48 hin hz0 hz1 hz2 rfl (by decide) (.slice a4 pre.length c4) pre.length (pre.map (Value.int .i64)) rfl (World.ownsRow.alloc HB.out.1 _) ⟨W.heap.size, 0, none⟩ 1 1 [.int .i64 x] rfl rfl HB.out.2.2.2.1 HB.out.2.1 HB.out.2.2.1.1 HB.out.2.2.1.2 HB.out.2.2.2.2 ?_; intro v' w5 hr5 hg5 hn5; obtain ⟨a5, c5, rfl⟩ := ownsRow_slice hr5; have hO5 := grown_heap hg5 (heap_alloc_lt HC.out.1 _) (ownsRow_ne HB.out.1 HC.out.1 (by decide)); have o5 := cells1 hO5; have f5 := free_of_cells hO5 0; have HW := Lib.hid (And.intro hr5 (And.intro hg5 hO5)); clear hr5 hg5 hn5 hO5)
    obtain ⟨hO, hch⟩ := HC.out
    obtain ⟨hr5, hg5, hO5⟩ := HW.out
    have hown := HB.out.1
    clear o0 f1 o5 f5
    have hcA := ((Chg.refl (Value.slice a4 pre.length c4).ownBlock.toList W).alloc _).grown hg5 (fun k hk => .inl (by rw [hk]; simp))
    have hc6 := (hcA.mono (T := w.heap.size :: (Value.slice a4 pre.length c4).ownBlock.toList) (fun j hj => .inl (by simp [hj]))).setCell (p := ⟨w.heap.size, 0, none⟩) (.inl (by simp)) (.slice a5 (pre.length + 1) c5)
    have hS : ∀ k ∈ w.heap.size :: (Value.slice a4 pre.length c4).ownBlock.toList, k = w.heap.size ∨ (Value.slice a4 pre.length c4).ownBlock = some k := by
      intro k hk
      rcases List.mem_cons.1 hk with h | h
      · exact .inl h
      · exact .inr (by simpa using h)
    refine ⟨keepsFrom_of_chg hc6 (fun k hk => .inr ?_), H.out.2.2.1 pre x _ _ _ hc6 (fun k hk => ?_), a5, c5, ?_, ?_, ?_⟩
    · rcases hS k hk with rfl | h
      · exact ⟨_, _, _, hO⟩
      · obtain ⟨_, _, cur, h3⟩ := row_beyond hown h
        exact ⟨_, _, _, h3⟩
    · rcases hS k hk with rfl | h
      · exact ⟨Nat.le_refl _, _, _, _, hO, .inl rfl⟩
      · obtain ⟨h1, _, cur, h3⟩ := row_beyond hown h
        exact ⟨by omega, _, _, _, h3, .inr rfl⟩
    · rw [List.length_append]; simpa using heap_setCell_same hO5 0 (.slice a5 (pre.length + 1) c5)
    · rw [List.length_append, List.map_append]
      refine ((Chg.refl [w.heap.size] w5).setCell (p := ⟨w.heap.size, 0, none⟩) (.inl (by simp)) _).row hr5 (fun k hk => ?_)
      have := (row_beyond hr5 hk).1
      simp; omega
    · refine hch.trans hc6 (fun k hk => .inr ?_)
      rcases hS k hk with rfl | h
      · omega
      · have := (row_beyond hown h).1; omega
  case done =>
    rintro D xs W hD rfl ⟨a4, c4, hO, hown, hch⟩ hd
    have o0 := cells1 hO
    have HD := Lib.hid (And.intro (row_base hown (Nat.le_succ _)) (And.intro hch (And.intro hd hD)))
    clear hO hown hch hd hD
    dsimp only
    go_wp2_with fail
    refine leave_one (v := .slice a4 xs.length c4) (B := w1.heap.size) (I := fun W' => FreshInts w.heap.size W' a4 c4 xs ∧ Chg [] w W') HD.out.2.2.1 HD.out.2.2.2 ((Stays.row _ _ _ _ _ _ _).and (Stays.since _ _ _ (by omega))) ⟨HD.out.1, HD.out.2.1⟩ ?_
    rintro W' ⟨hf, hch⟩
    exact ⟨by simp [results, Tryz.results154, go_sem], a4, c4, rfl, hf, hch⟩
  case stop =>
    rintro D c pre W hD _ h _
    exact h.elim
end

theorem collect_gives (w : World) (gf : Nat) (lb : Array Value) (eg : ∀ args w, (callFunc gf args).run Tryz.prog w = .ok (.enter gf args) w)
    {Hx : List Int → Int → World → Prop} {Kq : List Int → Int → World → World → Prop} {Sp : List Int → Prop} (L : List Int) (hL : L.length ≤ 100000)
    (hseq : Gives Tryz.prog gf lb (fun x : Int => #[.int .i64 x]) Hx Kq (fun xs => xs = L) Sp w) (hpre : ∀ pre x W, Hx pre x W → pre ++ [x] <+: L) (hH : ∀ B pre x, Stays B (Hx pre x))
    (hK : ∀ B pre x A A1 A2 C C', w.heap.size ≤ B → Chg [] A A1 → Turn B A1 A2 → Kq pre x A2 C → Turn B C C' → Kq pre x A C')
    (hC : ∀ pre x S A A', Chg S A A' → (∀ k ∈ S, w.heap.size ≤ k ∧ ∃ cs ty m, A.heap[k]? = some (.cells cs ty m) ∧ (ty = 48 ∨ ty = 3)) → Kq pre x A A') :
    Calls Tryz.prog 112 #[.func (.func gf) #[] lb] w (ClonedInts w L) := by
  have hp := appendSeq_gives w gf lb eg L hL hseq hpre hH hK hC
  have H := Lib.hid hp
  clear hp hseq hpre hH hK hC hL eg
  go_enter Tryz.func112, Tryz.ntmps112
  go_wp2_with fail
  refine H.out.mono ?_
  rintro e w4 ⟨a, c, rfl, hf, hc⟩
  go_wp2_with fail
  go_ret
  exact ⟨a, c, rfl, hf, hc⟩
end Go.Proofs.YtibgfgfmljhimaaGreat
set_option linter.unusedVariables false
set_option linter.unusedSimpArgs false
set_option linter.unnecessarySimpa false
namespace Go.Proofs.YtibgfgfmljhimaaGreat
open Go.RowKit Go.MapKept Go.Shelf

theorem ownG_len {g : Gr} (hr : rightB g = true) {n : Nat} (hn : n < g.nodes.length) : (ownG g n).length ≤ g.nodes.length := by
  have h := ownN_pick (right_tree hr) (mayG g) hn
  rw [ownG, h]
  exact pickL_le _ _

set_option maxRecDepth 100000 in
set_option maxHeartbeats 4000000 in
theorem nodesLeft_any (w : World) (B R : Nat) (a1 : Option Addr) (n1 c1 : Nat) (a2 : Option Addr) (n2 c2 : Nat) (g : Gr) (hw : LWork w B R a1 n1 c1 a2 n2 c2 g) (n : Nat) (hn : n < g.nodes.length) :
    Calls Tryz.prog 107 #[.pointer (some ⟨B, 0, none⟩), .int .i64 n] w (ClonedInts w (ownG g n)) := by
  have hlen : (ownG g n).length ≤ 100000 := by have := ownG_len hw.right hn; have := (right_sizes hw.right).2.2; omega
  have H := Lib.hid (And.intro hw (And.intro hn hlen))
  clear hw hn hlen
  go_enter Tryz.func107, Tryz.ntmps107
  go_wp2_with fail
  refine (ownLeft_any _ _ _).mono ?_
  rintro e w4 ⟨rfl, rfl⟩
  obtain ⟨w4, e4⟩ : ∃ w4, w4 = (w.alloc (.cells #[.pointer (some ⟨B, 0, none⟩)] 105)).alloc (.cells #[.int .i64 n] 3) := ⟨_, rfl⟩
  have hc4 : Chg [] w w4 := by rw [e4]; exact ((Chg.refl _ w).alloc _).alloc _
  have hb2 : w4.heap[w.heap.size]? = some (.cells #[.pointer (some ⟨B, 0, none⟩)] 105 (0, 0)) := by
    rw [e4]; exact heap_alloc_lt (heap_alloc_same _ _) _
  have hb3 : w4.heap[w.heap.size + 1]? = some (.cells #[.int .i64 n] 3 (0, 0)) := by
    rw [e4]
    have := heap_alloc_same (w.alloc (.cells #[.pointer (some ⟨B, 0, none⟩)] 105)) (.cells #[.int .i64 n] 3)
    simp only [World.size_alloc] at this
    exact this
  rw [← e4]
  have hgives := Own_gives w w4 B R a1 n1 c1 a2 n2 c2 g H.out.1 (.of_chg0 hc4) n H.out.2.1 w.heap.size (w.heap.size + 1) hb2 hb3
  have hcol := collect_gives w4 170 #[.pointer (some ⟨w.heap.size, 0, none⟩), .pointer (some ⟨w.heap.size + 1, 0, none⟩)] (enters_of Tryz.func170 (by kernel_rfl) rfl) (ownG g n) H.out.2.2 hgives (fun _ _ _ h => h) (fun _ _ _ => Stays.pure _)
    (fun B' pre x A A1 A2 C C' hB hc ht k1 ht2 => (((KeepL.of_chg0 hc).trans (.of_turn ht (by have := hc4.size; omega))).trans k1).trans (.of_turn ht2 (by have := hc4.size; omega)))
    (fun pre x S A A' hc hS => .of_chg hc (fun k hk => by
      obtain ⟨h1, cs, ty, m, h2, h3⟩ := hS k hk
      refine ⟨by have := hc4.size; omega, fun cs' h => ?_⟩
      rw [h2] at h
      cases h
      rcases h3 with h3 | h3 <;> cases h3))
  have HC := Lib.hid (And.intro hcol hc4)
  clear e4 hc4 hb2 hb3 hgives hcol
  go_wp2_with fail
  refine HC.out.1.mono ?_
  rintro e w5 ⟨al, cl, rfl, hf, hc5⟩
  have H5 := Lib.hid (And.intro (row_base hf HC.out.2.size) (HC.out.2.tr hc5))
  clear hf hc5
  go_wp2_with fail
  go_ret
  exact ⟨al, cl, rfl, H5.out.1, H5.out.2⟩

/-- What is told of a node. -/
def toldL (g : Gr) (A : Int → List Int) (n : Int) : List Int := if rightB g = true ∧ 0 ≤ n ∧ n < g.nodes.length then A n else []

set_option maxRecDepth 100000 in
set_option maxHeartbeats 4000000 in
theorem toldNodes_any (w : World) (a1 : Option Addr) (n1 c1 : Nat) (a2 : Option Addr) (n2 c2 : Nat) (g : Gr) (hg : GramAt w a1 n1 c1 a2 n2 c2 g) (hre : Reach g) (n : Int) :
    Calls Tryz.prog 106 #[.agg #[.slice a1 n1 c1, .slice a2 n2 c2], .int .i64 n, .func (.func 107) #[] #[]] w (ClonedInts w (toldL g (ownG g) n)) := by
  obtain ⟨A, hA⟩ : ∃ A, A = toldL g (ownG g) n := ⟨_, rfl⟩
  rw [← hA]
  have H := Lib.hid (And.intro hg (And.intro hre (And.intro hg.e2 hA)))
  clear hg hre hA
  go_enter Tryz.func106, Tryz.ntmps106
  obtain ⟨x0, x1⟩ := cells2 (heap_alloc_same w (.cells #[.slice a1 n1 c1, .slice a2 n2 c2] 25))
  go_wp2_with fail
  refine (ofLeft_any _ a1 n1 c1 a2 n2 c2 g (H.out.1.keep ((Chg.refl [] w).alloc _).kp) H.out.2.1).mono ?_
  rintro e w2 ⟨hc2, hif⟩
  have hg2 := hc2.heap (heap_alloc_same w (.cells #[.slice a1 n1 c1, .slice a2 n2 c2] 25)) (by simp)
  have hcw := ((Chg.refl [] w).alloc _).tr0 hc2
  clear x0 x1 hc2
  obtain ⟨x0, x1⟩ := cells2 hg2
  cases hr : rightB g with
  | false =>
    rw [hr] at hif
    obtain rfl : e = _ := hif
    have HC := Lib.hid (And.intro hcw hr)
    clear hcw hr hg2
    go_wp2_with fail
    go_ret
    obtain rfl : A = [] := by rw [H.out.2.2.2, toldL, if_neg (fun h => by have h1 := h.1; rw [HC.out.2] at h1; cases h1)]
    exact ⟨none, 0, rfl, World.ownsRow_nil _ _ _ _, HC.out.1⟩
  | true =>
    rw [hr, if_pos rfl] at hif
    obtain ⟨B, R, hB, hR, rfl, hw⟩ := hif
    have hn2 : n2 ≤ 2048 := by have := (right_sizes hr).2.2; have := H.out.2.2.1; omega
    have HC := Lib.hid (And.intro hcw (And.intro hw (And.intro hr hB)))
    clear hcw hr hg2 hB hR hw
    by_cases h0 : n < 0
    · have hd0 : decide (n < 0) = true := by simpa using h0
      go_wp2_with fail
      go_ret
      obtain rfl : A = [] := by rw [H.out.2.2.2, toldL, if_neg (fun h => by omega)]
      exact ⟨none, 0, rfl, World.ownsRow_nil _ _ _ _, HC.out.1⟩
    · obtain ⟨q, rfl⟩ : ∃ q : Nat, n = q := ⟨n.toNat, by omega⟩
      have hd0 : decide ((q : Int) < 0) = false := by simpa using h0
      by_cases h1 : q < n2
      · go_wp2_with fail
        have hq : q < g.nodes.length := by have := H.out.2.2.1; omega
        have hAe : A = ownG g q := by rw [H.out.2.2.2, toldL, if_pos ⟨HC.out.2.2.1, by omega, by omega⟩]
        refine (nodesLeft_any w2 B R a1 n1 c1 a2 n2 c2 g HC.out.2.1 q hq).mono ?_
        rintro e w5 ⟨al, cl, rfl, hf, hc5⟩
        rw [← hAe] at hf ⊢
        have H5 := Lib.hid (And.intro (row_base hf HC.out.1.size) (HC.out.1.tr hc5))
        clear hf hc5 hq hAe x0 x1
        go_wp2_with fail
        go_ret
        exact ⟨al, cl, rfl, H5.out.1, H5.out.2⟩
      · go_wp2_with fail
        go_ret
        obtain rfl : A = [] := by rw [H.out.2.2.2, toldL, if_neg (fun h => by have := H.out.2.2.1; omega)]
        exact ⟨none, 0, rfl, World.ownsRow_nil _ _ _ _, HC.out.1⟩

set_option maxRecDepth 100000 in
theorem leftNodes_any (w : World) (a1 : Option Addr) (n1 c1 : Nat) (a2 : Option Addr) (n2 c2 : Nat) (g : Gr) (hg : GramAt w a1 n1 c1 a2 n2 c2 g) (hre : Reach g) (n : Int) :
    Calls Tryz.prog 64 #[.agg #[.slice a1 n1 c1, .slice a2 n2 c2], .int .i64 n] w (ClonedInts w (toldL g (ownG g) n)) := by
  obtain ⟨A, hA⟩ : ∃ A, A = toldL g (ownG g) n := ⟨_, rfl⟩
  have hp := toldNodes_any (w.alloc (.cells #[.slice a1 n1 c1, .slice a2 n2 c2] 25)) a1 n1 c1 a2 n2 c2 g (hg.keep ((Chg.refl [] w).alloc _).kp) hre n
  rw [← hA] at hp ⊢
  have H := Lib.hid hp
  clear hp hg hre hA
  go_enter Tryz.func64, Tryz.ntmps64
  obtain ⟨x0, x1⟩ := cells2 (heap_alloc_same w (.cells #[.slice a1 n1 c1, .slice a2 n2 c2] 25))
  go_wp2_with fail
  refine H.out.mono ?_
  rintro e w5 ⟨al, cl, rfl, hf, hc5⟩
  have hcw := ((Chg.refl [] w).alloc _).tr0 hc5
  have H5 := Lib.hid (And.intro (row_base hf ((Chg.refl [] w).alloc _).size) hcw)
  clear hf hc5 hcw x0 x1
  go_wp2_with fail
  go_ret
  exact ⟨al, cl, rfl, H5.out.1, H5.out.2⟩

set_option maxRecDepth 100000 in
set_option maxHeartbeats 4000000 in
theorem toldCalls_any (w : World) (a1 : Option Addr) (n1 c1 : Nat) (a2 : Option Addr) (n2 c2 : Nat) (g : Gr) (hg : GramAt w a1 n1 c1 a2 n2 c2 g) (hre : Reach g) (n : Int) :
    Calls Tryz.prog 106 #[.agg #[.slice a1 n1 c1, .slice a2 n2 c2], .int .i64 n, .func (.func 96) #[] #[]] w (ClonedInts w (toldL g (callsG g) n)) := by
  obtain ⟨A, hA⟩ : ∃ A, A = toldL g (callsG g) n := ⟨_, rfl⟩
  rw [← hA]
  have H := Lib.hid (And.intro hg (And.intro hre (And.intro hg.e2 hA)))
  clear hg hre hA
  go_enter Tryz.func106, Tryz.ntmps106
  obtain ⟨x0, x1⟩ := cells2 (heap_alloc_same w (.cells #[.slice a1 n1 c1, .slice a2 n2 c2] 25))
  go_wp2_with fail
  refine (ofLeft_any _ a1 n1 c1 a2 n2 c2 g (H.out.1.keep ((Chg.refl [] w).alloc _).kp) H.out.2.1).mono ?_
  rintro e w2 ⟨hc2, hif⟩
  have hg2 := hc2.heap (heap_alloc_same w (.cells #[.slice a1 n1 c1, .slice a2 n2 c2] 25)) (by simp)
  have hcw := ((Chg.refl [] w).alloc _).tr0 hc2
  clear x0 x1 hc2
  obtain ⟨x0, x1⟩ := cells2 hg2
  cases hr : rightB g with
  | false =>
    rw [hr] at hif
    obtain rfl : e = _ := hif
    have HC := Lib.hid (And.intro hcw hr)
    clear hcw hr hg2
    go_wp2_with fail
    go_ret
    obtain rfl : A = [] := by rw [H.out.2.2.2, toldL, if_neg (fun h => by have h1 := h.1; rw [HC.out.2] at h1; cases h1)]
    exact ⟨none, 0, rfl, World.ownsRow_nil _ _ _ _, HC.out.1⟩
  | true =>
    rw [hr, if_pos rfl] at hif
    obtain ⟨B, R, hB, hR, rfl, hw⟩ := hif
    have hn2 : n2 ≤ 2048 := by have := (right_sizes hr).2.2; have := H.out.2.2.1; omega
    have HC := Lib.hid (And.intro hcw (And.intro hw (And.intro hr hB)))
    clear hcw hr hg2 hB hR hw
    by_cases h0 : n < 0
    · have hd0 : decide (n < 0) = true := by simpa using h0
      go_wp2_with fail
      go_ret
      obtain rfl : A = [] := by rw [H.out.2.2.2, toldL, if_neg (fun h => by omega)]
      exact ⟨none, 0, rfl, World.ownsRow_nil _ _ _ _, HC.out.1⟩
    · obtain ⟨q, rfl⟩ : ∃ q : Nat, n = q := ⟨n.toNat, by omega⟩
      have hd0 : decide ((q : Int) < 0) = false := by simpa using h0
      by_cases h1 : q < n2
      · go_wp2_with fail
        have hq : q < g.nodes.length := by have := H.out.2.2.1; omega
        have hAe : A = callsG g q := by rw [H.out.2.2.2, toldL, if_pos ⟨HC.out.2.2.1, by omega, by omega⟩]
        refine (calls_any w2 B R a1 n1 c1 a2 n2 c2 g HC.out.2.1 q hq).mono ?_
        rintro e w5 ⟨al, cl, rfl, hf, hc5⟩
        rw [← hAe] at hf ⊢
        have H5 := Lib.hid (And.intro (row_base hf HC.out.1.size) (HC.out.1.tr hc5))
        clear hf hc5 hq hAe x0 x1
        go_wp2_with fail
        go_ret
        exact ⟨al, cl, rfl, H5.out.1, H5.out.2⟩
      · go_wp2_with fail
        go_ret
        obtain rfl : A = [] := by rw [H.out.2.2.2, toldL, if_neg (fun h => by have := H.out.2.2.1; omega)]
        exact ⟨none, 0, rfl, World.ownsRow_nil _ _ _ _, HC.out.1⟩

set_option maxRecDepth 100000 in
theorem leftCalls_any (w : World) (a1 : Option Addr) (n1 c1 : Nat) (a2 : Option Addr) (n2 c2 : Nat) (g : Gr) (hg : GramAt w a1 n1 c1 a2 n2 c2 g) (hre : Reach g) (n : Int) :
    Calls Tryz.prog 65 #[.agg #[.slice a1 n1 c1, .slice a2 n2 c2], .int .i64 n] w (ClonedInts w (toldL g (callsG g) n)) := by
  obtain ⟨A, hA⟩ : ∃ A, A = toldL g (callsG g) n := ⟨_, rfl⟩
  have hp := toldCalls_any (w.alloc (.cells #[.slice a1 n1 c1, .slice a2 n2 c2] 25)) a1 n1 c1 a2 n2 c2 g (hg.keep ((Chg.refl [] w).alloc _).kp) hre n
  rw [← hA] at hp ⊢
  have H := Lib.hid hp
  clear hp hg hre hA
  go_enter Tryz.func65, Tryz.ntmps65
  obtain ⟨x0, x1⟩ := cells2 (heap_alloc_same w (.cells #[.slice a1 n1 c1, .slice a2 n2 c2] 25))
  go_wp2_with fail
  refine H.out.mono ?_
  rintro e w5 ⟨al, cl, rfl, hf, hc5⟩
  have hcw := ((Chg.refl [] w).alloc _).tr0 hc5
  have H5 := Lib.hid (And.intro (row_base hf ((Chg.refl [] w).alloc _).size) hcw)
  clear hf hc5 hcw x0 x1
  go_wp2_with fail
  go_ret
  exact ⟨al, cl, rfl, H5.out.1, H5.out.2⟩
end Go.Proofs.YtibgfgfmljhimaaGreat

/-
  left.walked: the walk from a rule, gone to its end.
  Conditions: the grammar reads as data, within the reach.
-/
import Derived.Test.YtlklmpjakeedcaaGreatDoorSOrLfE
import Derived.Test.YtlklmpjakeedcaaGreatDoorSOrGRule
set_option linter.unusedVariables false
set_option linter.unusedSimpArgs false
set_option linter.unnecessarySimpa false
namespace Go.Proofs.YtlklmpjakeedcaaGreatDoor
open Go.RowKit Go.MapKept Go.Shelf

def Walked (w : World) (g : Gr) (i : Int) (e : Ending) (w' : World) : Prop :=
  Chg [] w w' ∧ if 0 ≤ i ∧ i < g.rules.length ∧ rightB g = true then ∃ B ga gn gc VS sa sl sc, w.heap.size ≤ B ∧ e = .returned (.tuple #[.pointer (some ⟨B, 0, none⟩), .bool true]) ∧ WalkM w.heap.size w.heap.size w' B ga gn gc VS sa sl sc (walkL (graphG g) i.toNat) ∧ VS.map (·.2.2) = graphG g
  else e = .returned (.tuple #[.pointer none, .bool false])
theorem start_cells (ga : Option Addr) (gn gc : Nat) : walkCells (.slice ga gn gc) start0.1 (.slice none 0 0) = #[.slice ga gn gc, .bool false, .bool false, .bool false, .bool false, .bool false, .bool false, .bool false, .bool false, .bool false, .bool false, .bool false, .bool false, .bool false, .bool false, .bool false, .bool false, .bool false, .bool false, .bool false, .bool false, .bool false, .bool false, .bool false, .bool false, .bool false, .bool false, .bool false, .bool false, .bool false, .bool false, .bool false, .bool false, .slice none 0 0] := rfl
theorem WalkM.touched {n₀ n₁ : Nat} {W : World} {B : Nat} {ga : Option Addr} {gn gc : Nat} {VS : List Is} {sa : Option Addr} {sl sc : Nat} {st : Bst} (h : WalkM n₀ n₁ W B ga gn gc VS sa sl sc st) (hB : n₁ ≤ B) : ∀ k ∈ touchS B sa sl sc, n₁ ≤ k := by
  intro k hk
  rcases List.mem_cons.1 hk with rfl | hk
  · exact hB
  · simp only [Option.mem_toList] at hk
    rw [h.sl] at hk
    exact (row_beyond h.steps hk).1
theorem WalkM.step {n₀ n₁ : Nat} {W : World} {B : Nat} {ga : Option Addr} {gn gc : Nat} {VS : List Is} {sa : Option Addr} {sl sc : Nat} {st : Bst} (h : WalkM n₀ n₁ W B ga gn gc VS sa sl sc st) {k : Nat} (hk : k < st.2.length) :
    ∃ b, sa = some ⟨b, 0, none⟩ ∧ W.cell? ⟨b, k * 2, none⟩ = some (.int .i64 st.2[k].1) ∧ W.cell? ⟨b, k * 2 + 1, none⟩ = some (.int .i64 st.2[k].2) := by
  rcases h.steps.2 with ⟨h0, h1⟩ | ⟨g, cap, cur, h0, hb, hg, hn, hc, hs, ht⟩
  · omega
  · cases h0
    obtain ⟨s1, s2⟩ := stepCells_at st.2 k hk
    have key : ∀ j u, (stepCells st.2)[j]? = some u → W.cell? ⟨g, j, none⟩ = some u := by
      intro j u hu
      rw [cell_of_cells hg]
      rw [← ht, List.getElem?_take] at hu
      split at hu
      · simpa using hu
      · cases hu
    exact ⟨g, rfl, key _ _ s1, key _ _ s2⟩
theorem graphG_len {g : Gr} (hr : rightB g = true) : (graphG g).length = g.rules.length := by simp [graphG, hr]

set_option maxRecDepth 100000 in
set_option maxHeartbeats 8000000 in
theorem walked_any (w : World) (a1 : Option Addr) (n1 c1 : Nat) (a2 : Option Addr) (n2 c2 : Nat) (g : Gr) (hg : GramAt w a1 n1 c1 a2 n2 c2 g) (hre : Reach g) (i : Int) :
    Calls Tryz.prog 63 #[.agg #[.slice a1 n1 c1, .slice a2 n2 c2], .int .i64 i] w (Walked w g i) := by
  have H := Lib.hid (And.intro hg (And.intro hre (And.intro hg.e1 hg.e2)))
  clear hg hre
  go_enter Tryz.func63, Tryz.ntmps63
  obtain ⟨x0, x1⟩ := cells2 (heap_alloc_same w (.cells #[.slice a1 n1 c1, .slice a2 n2 c2] 31))
  go_wp2_with fail
  refine (Graph_any _ a1 n1 c1 a2 n2 c2 g (H.out.1.keep ((Chg.refl [] w).alloc _).kp) H.out.2.1).mono ?_
  rintro e w2 ⟨ga, gc, VS, rfl, hVS, hO, hc2⟩
  have hcw := ((Chg.refl [] w).alloc _).tr0 hc2
  obtain ⟨gn, hgn⟩ : ∃ gn, gn = (graphG g).length := ⟨_, rfl⟩
  rw [← hgn]
  have hgn32 : gn ≤ 32 := by
    rw [hgn]
    cases hr : rightB g with
    | false => simp [graphG, hr]
    | true => have := (graph_ok hr).few; rw [graphG_len hr]; exact this
  have H2 := Lib.hid (And.intro hgn (And.intro hVS (And.intro (hO.base (B' := w.heap.size) (by rw [World.size_alloc]; omega)) hcw)))
  have hl2 := hcw.size
  clear x0 x1 hc2 hgn hVS hO hcw
  by_cases hi0 : i < 0
  · go_wp2_with fail
    refine bodyPost_ret (v := .tuple #[.pointer none, .bool false]) (by simp [results, Tryz.results63, go_sem]) rfl ?_
    exact ⟨H2.out.2.2.2.alloc _, by rw [if_neg (by omega)]⟩
  · by_cases hi1 : (gn : Int) ≤ i
    · go_wp2_with fail
      refine bodyPost_ret (v := .tuple #[.pointer none, .bool false]) (by simp [results, Tryz.results63, go_sem]) rfl ?_
      refine ⟨H2.out.2.2.2.alloc _, ?_⟩
      rw [if_neg]
      rintro ⟨_, h1, h2⟩
      have := H2.out.1
      rw [graphG_len h2] at this
      omega
    · obtain ⟨r, rfl⟩ : ∃ r : Nat, i = r := ⟨i.toNat, by omega⟩
      have hrn : r < gn := by omega
      go_wp2_with fail
      have hrb : rightB g = true := by
        cases hr : rightB g with
        | true => rfl
        | false => exfalso; have := H2.out.1; simp [graphG, hr] at this; omega
      have hG := graph_ok hrb
      have hVl : VS.length = gn := by rw [H2.out.1, ← H2.out.2.1]; simp
      have hgr : gn = g.rules.length := by rw [H2.out.1, graphG_len hrb]
      obtain ⟨w3, e3⟩ : ∃ w3, w3 = w2.alloc (.cells (walkCells (.slice ga gn gc) start0.1 (.slice none 0 0)) 98) := ⟨_, rfl⟩
      have hc3 : Chg [] w2 w3 := by rw [e3]; exact (Chg.refl _ _).alloc _
      have hw3 : WalkM w.heap.size w.heap.size w3 w2.heap.size ga gn gc VS none 0 0 start0 :=
        ⟨by rw [e3]; exact heap_alloc_same _ _, hVl.symm, H2.out.2.2.1.chg0 hc3, rfl, World.ownsRow_nil _ _ _ _, rfl⟩
      rw [start_cells] at e3
      rw [← e3]
      have hrow : ∀ k (hk : k < VS.length), VS[k].2.2 = (graphG g).getD k [] := by
        intro k hk
        have h1 : (VS.map (·.2.2))[k]? = some VS[k].2.2 := by simp [hk]
        rw [H2.out.2.1] at h1
        rw [List.getD, h1]; rfl
      have hrows : ∀ k, (graphG g).getD k [] ≠ [] → ((graphG g).getD k []).length ≤ 32 := by
        intro k hk
        by_cases hkl : k < (graphG g).length
        · rw [List.getD, List.getElem?_eq_getElem hkl]
          exact hG.rows _ (List.getElem_mem hkl)
        · rw [List.getD, List.getElem?_eq_none (by omega)] at hk
          exact absurd rfl hk
      have hrowl : ∀ k, ((graphG g).getD k []).length ≤ 32 := fun k => by
        by_cases he : (graphG g).getD k [] = []
        · rw [he]; simp
        · exact hrows k he
      have hat : ∀ k, ∀ z ∈ (graphG g).getD k [], 0 ≤ z ∧ z < 32 := fun k z hz => by
        have := hG.at k z hz
        have := hG.few
        omega
      have H3 := Lib.hid (And.intro hG (And.intro hVl (And.intro hrow (And.intro hrowl (And.intro hat (And.intro (H2.out.2.2.2.tr hc3) (And.intro hgr (And.intro hrb hw3))))))))
      have hon := on_any w3 w.heap.size w.heap.size w2.heap.size ga gn gc VS none 0 0 start0 hw3 (Nat.le_trans hl2 hc3.size) hgn32 (-1) r (by omega) _ (hrow r (by omega)) (hat r) (hrowl r) (by omega)
      clear hrb hG hVl hgr e3 hc3 hw3 hrow hrows hrowl hat hi1 hi0
      refine hon.mono ?_
      clear hon
      rintro e w4 ⟨⟨v, rfl⟩, sa, sl, sc, hW, hC, -⟩
      have hW4 := Lib.hid (And.intro hW (H3.out.2.2.2.2.2.1.trans hC (fun k hk => .inr (by rcases List.mem_cons.1 hk with rfl | hk; exact hl2; simp [Value.ownBlock] at hk))))
      clear hW hC
      generalize decide ((r : Int) < 0) = q1
      generalize decide (gn ≤ r) = q2
      go_wp2_with fail
      go_loopg [7] 33 (fun d iv wr => ∃ (k : Nat), d = 33 - k ∧ k ≤ 32 ∧ iv = .int .i64 k ∧ Hid (∃ sa sl sc cur, WalkM w.heap.size w.heap.size wr w2.heap.size ga gn gc VS sa sl sc cur ∧ BstOk gn cur ∧ walkF (graphG g) 33 k cur = walkL (graphG g) r ∧ Chg [] w wr))
      case atStart =>
        refine ⟨0, rfl, by omega, rfl, Lib.hid ⟨sa, sl, sc, _, hW4.out.1, ?_, rfl, hW4.out.2⟩⟩
        rw [H3.out.2.2.2.2.2.2.1]
        exact onL_ok _ _ (bst_start H3.out.1.few) (H3.out.1.at _)
      case round =>
        obtain ⟨k, rfl, hk, rfl, hin⟩ := hrel
        obtain ⟨wq, rfl⟩ : ∃ wz, wz = wr := ⟨_, rfl⟩
        obtain ⟨sa', sl', sc', cur, h1, h2, h3, h4⟩ := hin.out
        have x33 := walk_s h1.box h1.len
        have hsl := h1.sl
        have hfs := h2.few_steps
        by_cases hlt : k < sl'
        · obtain ⟨bs, rfl, s1, -⟩ := h1.step (k := k) (by omega)
          have hkl : k < cur.2.length := by omega
          obtain ⟨z, hz⟩ : ∃ z, z = cur.2[k].1 := ⟨_, rfl⟩
          have hzr := h2.rules _ (List.getElem_mem hkl)
          rw [← hz] at s1 hzr
          obtain ⟨q, rfl⟩ : ∃ q : Nat, z = q := ⟨z.toNat, by omega⟩
          have hqn : q < VS.length := by have := H3.out.2.1; omega
          have hnx := walkF_next H3.out.1 (by rw [← H3.out.2.2.2.2.2.2.1]; exact h2) hkl
          rw [← hz, Int.toNat_natCast, h3] at hnx
          have hon := on_any wq w.heap.size w.heap.size w2.heap.size ga gn gc VS (some ⟨bs, 0, none⟩) sl' sc' cur h1 h4.size hgn32 k q hqn _ (H3.out.2.2.1 q hqn) (H3.out.2.2.2.2.1 q) (H3.out.2.2.2.1 q) (by omega)
          have HC := Lib.hid (And.intro h1 (And.intro h2 (And.intro hnx h4)))
          clear h1 h2 h3 h4 hsl hfs hz hzr hqn hnx hkl
          go_wp2_with fail
          refine hon.mono ?_
          clear hon x33 s1
          rintro e w5 ⟨⟨v, rfl⟩, sa2, sl2, sc2, hW, hC, -⟩
          have H5 := Lib.hid (And.intro hW hC)
          clear hW hC
          go_wp2_with fail
          go_roundg (33 - (k + 1))
          case measure => omega
          case rel =>
            obtain ⟨h1, h2, hnx, h4⟩ := HC.out
            obtain ⟨hW, hC⟩ := H5.out
            have hgn := H3.out.2.2.2.2.2.2.1
            have := h2.few_steps
            have := h1.sl
            refine ⟨k + 1, rfl, by omega, by go_num, Lib.hid ⟨sa2, sl2, sc2, _, hW, ?_, hnx.symm, h4.trans hC (fun j hj => .inr (h1.touched (by exact hl2) j hj))⟩⟩
            rw [hgn] at h2 ⊢
            exact onL_ok _ _ h2 (H3.out.1.at _)
        · have HC := Lib.hid (And.intro h1 (And.intro h3 h4))
          have hle : cur.2.length ≤ k := by omega
          clear h1 h2 h3 h4 hsl hfs
          go_wp2_with fail
          refine bodyPost_ret (v := .tuple #[.pointer (some ⟨w2.heap.size, 0, none⟩), .bool true]) (by simp [results, Tryz.results63, go_sem]) rfl ?_
          obtain ⟨h1, h3, h4⟩ := HC.out
          rw [walkF_end hle] at h3
          refine ⟨h4, ?_⟩
          have hgn := H3.out.2.2.2.2.2.2.1
          rw [if_pos ⟨by omega, by omega, H3.out.2.2.2.2.2.2.2.1⟩, Int.toNat_natCast, ← h3]
          exact ⟨_, _, _, _, _, _, _, _, hl2, rfl, h1, H2.out.2.1⟩
end Go.Proofs.YtlklmpjakeedcaaGreatDoor
set_option linter.unusedVariables false
set_option linter.unusedSimpArgs false
set_option linter.unnecessarySimpa false
namespace Go.Proofs.YtlklmpjakeedcaaGreatDoor
open Go.RowKit Go.MapKept Go.Shelf

def inR (g : Gr) (i : Int) : Prop := 0 ≤ i ∧ i < g.rules.length ∧ rightB g = true
instance (g : Gr) (i : Int) : Decidable (inR g i) := inferInstanceAs (Decidable (_ ∧ _ ∧ _))
def toL (g : Gr) (i : Int) : List Int := if inR g i then pickB (walkL (graphG g) i.toNat).1 else []
def goesB (g : Gr) (i : Int) : Bool := decide (inR g i) && (walkL (graphG g) i.toNat).1.getD i.toNat false

set_option maxRecDepth 100000 in
set_option maxHeartbeats 2000000 in
theorem To_any (w : World) (a1 : Option Addr) (n1 c1 : Nat) (a2 : Option Addr) (n2 c2 : Nat) (g : Gr) (hg : GramAt w a1 n1 c1 a2 n2 c2 g) (hre : Reach g) (i : Int) :
    Calls Tryz.prog 35 #[.agg #[.slice a1 n1 c1, .slice a2 n2 c2], .int .i64 i] w (ClonedInts w (toL g i)) := by
  obtain ⟨A, hA⟩ : ∃ A, A = toL g i := ⟨_, rfl⟩
  rw [← hA]
  have H := Lib.hid (And.intro hg hre)
  clear hg hre
  go_enter Tryz.func35, Tryz.ntmps35
  obtain ⟨x0, x1⟩ := cells2 (heap_alloc_same w (.cells #[.slice a1 n1 c1, .slice a2 n2 c2] 31))
  go_wp2_with fail
  refine (walked_any _ a1 n1 c1 a2 n2 c2 g (H.out.1.keep ((Chg.refl [] w).alloc _).kp) H.out.2 i).mono ?_
  rintro e w2 ⟨hc2, hif⟩
  have hcw := ((Chg.refl [] w).alloc _).tr0 hc2
  clear x0 x1 hc2
  by_cases hin : 0 ≤ i ∧ i < g.rules.length ∧ rightB g = true
  · rw [if_pos hin] at hif
    obtain ⟨B, ga, gn, gc, VS, sa, sl, sc, hB, rfl, hW, -⟩ := hif
    have e0 : A = pickB (walkL (graphG g) i.toNat).1 := by rw [hA, toL, if_pos (show inR g i from hin)]
    have hl := list_any w2 B 1 (walkL (graphG g) i.toNat).1 hW.len (fun k x hx => walk_met hW.box hx)
    rw [← e0] at hl
    have H2 := Lib.hid hcw
    clear hin e0 hW hB hcw hA
    go_wp2_with fail
    refine hl.mono ?_
    rintro e w3 ⟨al, cl, rfl, hf, hc3⟩
    have H3 := Lib.hid (And.intro (row_base hf H2.out.size) (H2.out.tr hc3))
    clear hf hc3 hl
    go_wp2_with fail
    go_ret
    exact ⟨al, cl, rfl, H3.out.1, H3.out.2⟩
  · rw [if_neg hin] at hif
    subst hif
    have e0 : A = [] := by rw [hA, toL, if_neg (show ¬ inR g i from hin)]
    clear hA
    subst e0
    have H2 := Lib.hid hcw
    clear hin hcw
    go_wp2_with fail
    go_ret
    exact ⟨none, 0, rfl, World.ownsRow_nil _ _ _ _, H2.out⟩

set_option maxRecDepth 100000 in
set_option maxHeartbeats 2000000 in
theorem Goes_any (w : World) (a1 : Option Addr) (n1 c1 : Nat) (a2 : Option Addr) (n2 c2 : Nat) (g : Gr) (hg : GramAt w a1 n1 c1 a2 n2 c2 g) (hre : Reach g) (i : Int) :
    Calls Tryz.prog 34 #[.agg #[.slice a1 n1 c1, .slice a2 n2 c2], .int .i64 i] w fun e w' => e = .returned (.bool (goesB g i)) ∧ Chg [] w w' := by
  obtain ⟨A, hA⟩ : ∃ A, A = goesB g i := ⟨_, rfl⟩
  rw [← hA]
  have H := Lib.hid (And.intro hg hre)
  clear hg hre
  go_enter Tryz.func34, Tryz.ntmps34
  obtain ⟨x0, x1⟩ := cells2 (heap_alloc_same w (.cells #[.slice a1 n1 c1, .slice a2 n2 c2] 31))
  go_wp2_with fail
  refine (walked_any _ a1 n1 c1 a2 n2 c2 g (H.out.1.keep ((Chg.refl [] w).alloc _).kp) H.out.2 i).mono ?_
  rintro e w2 ⟨hc2, hif⟩
  have hcw := ((Chg.refl [] w).alloc _).tr0 hc2
  clear x0 x1 hc2
  by_cases hin : 0 ≤ i ∧ i < g.rules.length ∧ rightB g = true
  · rw [if_pos hin] at hif
    obtain ⟨B, ga, gn, gc, VS, sa, sl, sc, hB, rfl, hW, -⟩ := hif
    obtain ⟨r, rfl⟩ : ∃ r : Nat, i = r := ⟨i.toNat, by omega⟩
    have hr32 : r < 32 := by have := (right_sizes hin.2.2).2.1; omega
    obtain ⟨u, hu⟩ : ∃ u, (walkL (graphG g) r).1[r]? = some u := ⟨_, List.getElem?_eq_getElem (by have := hW.len; rw [Int.toNat_natCast] at this; omega)⟩
    rw [Int.toNat_natCast] at hW
    have hm := walk_met hW.box hu
    have e0 : A = u := by
      rw [hA]
      unfold goesB
      rw [decide_eq_true (show inR g r from hin), Bool.true_and, Int.toNat_natCast, List.getD, hu]
      rfl
    clear hA
    subst e0
    have H2 := Lib.hid hcw
    clear hin hW hB hcw hu
    go_wp2_with fail
    go_ret
    exact ⟨rfl, H2.out⟩
  · rw [if_neg hin] at hif
    subst hif
    have e0 : A = false := by rw [hA]; unfold goesB; rw [decide_eq_false (show ¬ inR g i from hin)]; rfl
    clear hA
    subst e0
    have H2 := Lib.hid hcw
    clear hin hcw
    go_wp2_with fail
    go_ret
    exact ⟨rfl, H2.out⟩
end Go.Proofs.YtlklmpjakeedcaaGreatDoor
set_option linter.unusedVariables false
set_option linter.unusedSimpArgs false
set_option linter.unnecessarySimpa false
namespace Go.Proofs.YtlklmpjakeedcaaGreatDoor
open Go.RowKit Go.MapKept Go.Shelf

theorem freshInts_set {B : Nat} {w : World} {g c : Nat} {zs : List Int} (h : FreshInts B w (some ⟨g, 0, none⟩) c zs) {i : Nat} (hi : i < zs.length) (z : Int) : FreshInts B (w.setCell ⟨g, i, none⟩ (.int .i64 z)) (some ⟨g, 0, none⟩) c (zs.set i z) := by
  obtain ⟨h1, h2⟩ := h
  rcases h2 with ⟨h0, _⟩ | ⟨g', cap, cur, h0, hb, hg, hn, hc, hs, ht⟩
  · simp at h0
  · simp at h0
    obtain ⟨rfl, rfl⟩ := h0
    refine ⟨by simpa using h1, .inr ⟨g, c, cur.setIfInBounds i (.int .i64 z), by simp, hb, heap_setCell_same hg i (.int .i64 z), by simpa using hn, hc, by simpa using hs, ?_⟩⟩
    rw [Array.toList_setIfInBounds, List.length_set, List.take_set, ht, List.map_set]
theorem freshInts_at {B : Nat} {w : World} {g c : Nat} {zs : List Int} (h : FreshInts B w (some ⟨g, 0, none⟩) c zs) {i : Nat} {z : Int} (hi : zs[i]? = some z) : w.cell? ⟨g, i, none⟩ = some (.int .i64 z) ∧ w.frozen? ⟨g, i, none⟩ = false := by
  obtain ⟨h1, h2⟩ := h
  rcases h2 with ⟨h0, _⟩ | ⟨g', cap, cur, h0, hb, hg, hn, hc, hs, ht⟩
  · simp at h0
  · simp at h0
    obtain ⟨rfl, rfl⟩ := h0
    refine ⟨?_, free_of_cells hg i⟩
    rw [cell_of_cells hg]
    have h3 : (zs.map (Value.int .i64))[i]? = some (.int .i64 z) := by simp [hi]
    rw [← ht, List.getElem?_take] at h3
    split at h3
    · simpa using h3
    · cases h3
/-- After i swaps. -/
def swapL (zs : List Int) (i : Nat) : List Int := (List.range zs.length).map fun k => if k < i ∨ zs.length ≤ k + i then zs.getD (zs.length - 1 - k) 0 else zs.getD k 0
theorem swapL_len (zs : List Int) (i : Nat) : (swapL zs i).length = zs.length := by simp [swapL]
theorem swapL_zero (zs : List Int) : swapL zs 0 = zs := by
  refine List.ext_getElem (swapL_len _ _) (fun k h1 h2 => ?_)
  have h3 : k < zs.length := h2
  simp only [swapL, List.getElem_map, List.getElem_range]
  rw [if_neg (by omega), List.getD, List.getElem?_eq_getElem h3]; rfl
theorem swapL_end {zs : List Int} {i : Nat} (h : zs.length ≤ 2 * i + 1) : swapL zs i = zs.reverse := by
  refine List.ext_getElem (by simp [swapL]) (fun k h1 h2 => ?_)
  have h3 : k < zs.length := by simpa [swapL] using h1
  simp only [swapL, List.getElem_map, List.getElem_range, List.getElem_reverse]
  by_cases hc : k < i ∨ zs.length ≤ k + i
  · rw [if_pos hc, List.getD, List.getElem?_eq_getElem (by omega)]; rfl
  · rw [if_neg hc, List.getD, List.getElem?_eq_getElem h3]
    have : zs.length - 1 - k = k := by omega
    simp [this]
theorem swapL_at {zs : List Int} {i : Nat} (h : 2 * i + 1 < zs.length) : (swapL zs i)[i]? = some (zs.getD i 0) ∧ (swapL zs i)[zs.length - 1 - i]? = some (zs.getD (zs.length - 1 - i) 0) := by
  constructor
  · rw [List.getElem?_eq_getElem (by rw [swapL_len]; omega)]
    simp only [swapL, List.getElem_map, List.getElem_range]
    rw [if_neg (by omega)]
  · rw [List.getElem?_eq_getElem (by rw [swapL_len]; omega)]
    simp only [swapL, List.getElem_map, List.getElem_range]
    rw [if_neg (by omega)]
theorem swapL_step {zs : List Int} {i : Nat} (h : 2 * i + 1 < zs.length) : ((swapL zs i).set i (zs.getD (zs.length - 1 - i) 0)).set (zs.length - 1 - i) (zs.getD i 0) = swapL zs (i + 1) := by
  refine List.ext_getElem (by simp [swapL]) (fun k h1 h2 => ?_)
  have h3 : k < zs.length := by simpa [swapL] using h2
  rw [List.getElem_set, List.getElem_set]
  simp only [swapL, List.getElem_map, List.getElem_range]
  by_cases e1 : zs.length - 1 - i = k
  · rw [if_pos e1, if_pos (by omega), ← e1]
    congr 1
    omega
  · rw [if_neg e1]
    by_cases e2 : i = k
    · rw [if_pos e2, if_pos (by omega), e2]
    · rw [if_neg e2]
      by_cases hc : k < i ∨ zs.length ≤ k + i
      · rw [if_pos hc, if_pos (by omega)]
      · rw [if_neg hc, if_neg (by omega)]

/-! ### The first step to a rule -/
def Steps (w : World) (a : Option Addr) (ss : List Stp) : Prop :=
  ∀ i (h : i < ss.length), ∃ b o, a = some ⟨b, o, none⟩ ∧ w.cell? ⟨b, o + i * 2, none⟩ = some (.int .i64 ss[i].1) ∧ w.cell? ⟨b, o + i * 2 + 1, none⟩ = some (.int .i64 ss[i].2)
theorem Steps.keep {w w' : World} {a : Option Addr} {ss : List Stp} (h : Steps w a ss) (k : Kp w w') : Steps w' a ss := fun i hi => by
  obtain ⟨b, o, h1, h2, h3⟩ := h i hi
  exact ⟨b, o, h1, k.2 _ _ h2, k.2 _ _ h3⟩
end Go.Proofs.YtlklmpjakeedcaaGreatDoor
set_option linter.unusedVariables false
set_option linter.unusedSimpArgs false
set_option linter.unnecessarySimpa false
namespace Go.Proofs.YtlklmpjakeedcaaGreatDoor
open Go.RowKit Go.MapKept Go.Shelf

/-! ### Back from a step -/
def BackOk (ss : List Stp) : Prop := ∀ k (h : k < ss.length), -1 ≤ ss[k].2 ∧ ss[k].2 < k
def backF (ss : List Stp) : Nat → Int → List Int
  | 0, _ => []
  | f + 1, a => if a < 0 then [] else match ss[a.toNat]? with | none => [] | some s => s.1 :: backF ss f s.2
def backL (ss : List Stp) (a : Int) : List Int := backF ss (ss.length + 1) a
theorem backF_fuel {ss : List Stp} (hb : BackOk ss) : ∀ (d : Nat) (a : Int) (f g : Nat), a + 1 ≤ d → a + 1 ≤ f → a + 1 ≤ g → backF ss f a = backF ss g a := by
  intro d
  induction d with
  | zero =>
    intro a f g h1 h2 h3
    have key : ∀ f, backF ss f a = [] := fun f => by
      cases f with
      | zero => rfl
      | succ f => rw [backF, if_pos (by omega)]
    rw [key, key]
  | succ d ih =>
    intro a f g h1 h2 h3
    by_cases ha : a < 0
    · have key : ∀ f, backF ss f a = [] := fun f => by
        cases f with
        | zero => rfl
        | succ f => rw [backF, if_pos ha]
      rw [key, key]
    · cases f with
      | zero => omega
      | succ f =>
        cases g with
        | zero => omega
        | succ g =>
          rw [backF, backF, if_neg ha, if_neg ha]
          cases hs : ss[a.toNat]? with
          | none => rfl
          | some s =>
            obtain ⟨hl, he⟩ := List.getElem?_eq_some_iff.1 hs
            have := hb _ hl
            rw [he] at this
            show s.1 :: backF ss f s.2 = s.1 :: backF ss g s.2
            rw [ih s.2 f g (by omega) (by omega) (by omega)]
theorem backL_at {ss : List Stp} (hb : BackOk ss) {k : Nat} (h : k < ss.length) : backL ss k = ss[k].1 :: backL ss ss[k].2 := by
  have := hb k h
  unfold backL
  rw [backF, if_neg (by omega), Int.toNat_natCast, List.getElem?_eq_getElem h]
  show ss[k].1 :: backF ss ss.length ss[k].2 = _
  rw [backF_fuel hb ss.length ss[k].2 ss.length (ss.length + 1) (by omega) (by omega) (by omega)]
theorem backL_neg {ss : List Stp} {a : Int} (h : a < 0) : backL ss a = [] := by
  unfold backL
  rw [backF, if_pos h]
theorem backL_len {ss : List Stp} (hb : BackOk ss) : ∀ (d : Nat) (a : Int), a + 1 ≤ d → a < ss.length → (backL ss a).length ≤ d := by
  intro d
  induction d with
  | zero => intro a h1 h2; rw [backL_neg (by omega)]; simp
  | succ d ih =>
    intro a h1 h2
    by_cases ha : a < 0
    · rw [backL_neg ha]; simp
    · obtain ⟨k, rfl⟩ : ∃ k : Nat, a = k := ⟨a.toNat, by omega⟩
      have hk : k < ss.length := by omega
      have := hb k hk
      rw [backL_at hb hk]
      have := ih ss[k].2 (by omega) (by omega)
      simp only [List.length_cons]
      omega
theorem on1_back {fr z : Int} {st : Bst} (h : BackOk st.2) (h1 : -1 ≤ fr) (h2 : fr < st.2.length) : BackOk (on1 fr z st).2 ∧ st.2.length ≤ (on1 fr z st).2.length := by
  unfold on1
  split
  · exact ⟨h, Nat.le_refl _⟩
  · refine ⟨fun k hk => ?_, by simp⟩
    simp only at hk ⊢
    by_cases hl : k < st.2.length
    · rw [List.getElem_append_left hl]; exact h k hl
    · have e : k = st.2.length := by simp at hk; omega
      subst e
      rw [List.getElem_append_right (Nat.le_refl _)]
      simp only [Nat.sub_self, List.getElem_cons_zero]
      exact ⟨h1, h2⟩
theorem onL_back {fr : Int} (h1 : -1 ≤ fr) : ∀ (zs : List Int) {st : Bst}, BackOk st.2 → fr < st.2.length → BackOk (onL fr zs st).2 := by
  intro zs
  induction zs with
  | nil => intro st h _; exact h
  | cons z zs ih =>
    intro st h h2
    obtain ⟨h3, h4⟩ := on1_back (z := z) h h1 h2
    exact ih h3 (by omega)
theorem walkF_back {G : List (List Int)} : ∀ (f k : Nat) {st : Bst}, BackOk st.2 → BackOk (walkF G f k st).2 := by
  intro f
  induction f with
  | zero => intro k st h; exact h
  | succ f ih =>
    intro k st h
    simp only [walkF]
    split
    · exact h
    · rename_i s hs
      have hk := (List.getElem?_eq_some_iff.1 hs).1
      exact ih _ (onL_back (by omega) _ h (by omega))
theorem walkL_back (G : List (List Int)) (i : Nat) : BackOk (walkL G i).2 := walkF_back _ _ (onL_back (by omega) _ (fun k h => by simp [start0] at h) (by simp [start0]))
def wayAt (ss : List Stp) (i k : Int) : List Int := if idxI ss (fun s => s.1 == k) < 0 then [] else (backL ss (idxI ss (fun s => s.1 == k)) ++ [i]).reverse
def wayL (g : Gr) (i k : Int) : List Int := if inR g i then wayAt (walkL (graphG g) i.toNat).2 i k else []
theorem idxI_lt {α : Type} (l : List α) (p : α → Bool) : -1 ≤ idxI l p ∧ idxI l p < l.length := by
  unfold idxI
  split <;> omega

end Go.Proofs.YtlklmpjakeedcaaGreatDoor

/-
  left.on, left.walked: the walk from a rule.
  Conditions: rows of rules; the grammar reads as data.
-/
import Derived.Test.YtibgfgfmljhimaaGreatLeLfD
import Derived.Test.YtibgfgfmljhimaaGreatLeLf0
set_option linter.unusedVariables false
set_option linter.unusedSimpArgs false
set_option linter.unnecessarySimpa false
namespace Go.Proofs.YtibgfgfmljhimaaGreat
open Go.RowKit Go.MapKept Go.Shelf

theorem Tryz.infoStep : (Tryz.prog.info? 120).map (fun i => (i.zero, i.size, i.bytes)) = some (some (.agg #[.int .i64 0, .int .i64 0]), 2, 16) := by kernel_rfl
def stepCells (ss : List Stp) : List Value := ss.flatMap fun s => [.int .i64 s.1, .int .i64 s.2]
theorem stepCells_snoc (ss : List Stp) (s : Stp) : stepCells (ss ++ [s]) = stepCells ss ++ [.int .i64 s.1, .int .i64 s.2] := by simp [stepCells]
theorem stepCells_at : ∀ (ss : List Stp) (k : Nat) (h : k < ss.length), (stepCells ss)[k * 2]? = some (.int .i64 ss[k].1) ∧ (stepCells ss)[k * 2 + 1]? = some (.int .i64 ss[k].2) := by
  intro ss
  induction ss with
  | nil => intro k h; cases h
  | cons s ss ih =>
    intro k h
    cases k with
    | zero => exact ⟨rfl, rfl⟩
    | succ k =>
      obtain ⟨h1, h2⟩ := ih k (by simpa using h)
      have e : stepCells (s :: ss) = .int .i64 s.1 :: .int .i64 s.2 :: stepCells ss := rfl
      rw [e, show (k + 1) * 2 = k * 2 + 1 + 1 by omega]
      exact ⟨by simpa using h1, by simpa using h2⟩
/-- The walk's own block. -/
def walkCells (gv : Value) (bs : List Bool) (sv : Value) : Array Value := (gv :: (bs.map Value.bool ++ [sv])).toArray
theorem walk_g {w : World} {B : Nat} {gv sv : Value} {bs : List Bool} (h : w.heap[B]? = some (.cells (walkCells gv bs sv) 116 (0, 0))) : w.cell? ⟨B, 0, none⟩ = some gv := by
  rw [cell_of_cells h]; simp [walkCells]
theorem walk_met {w : World} {B : Nat} {gv sv : Value} {bs : List Bool} (h : w.heap[B]? = some (.cells (walkCells gv bs sv) 116 (0, 0))) {i : Nat} {x : Bool} (hx : bs[i]? = some x) : w.cell? ⟨B, 1 + i, none⟩ = some (.bool x) := by
  have hi := (List.getElem?_eq_some_iff.1 hx).1
  rw [cell_of_cells h, Nat.add_comm]
  simp only [walkCells, List.getElem?_toArray, List.getElem?_cons_succ]
  rw [List.getElem?_append_left (by simpa using hi)]
  simp [hx]
theorem walk_s {w : World} {B : Nat} {gv sv : Value} {bs : List Bool} (h : w.heap[B]? = some (.cells (walkCells gv bs sv) 116 (0, 0))) (hl : bs.length = 32) : w.cell? ⟨B, 33, none⟩ = some sv := by
  rw [cell_of_cells h]
  simp only [walkCells, List.getElem?_toArray, List.getElem?_cons_succ]
  rw [List.getElem?_append_right (by simp [hl])]
  simp [hl]
theorem walk_put {w : World} {B : Nat} {gv sv : Value} {bs : List Bool} (h : w.heap[B]? = some (.cells (walkCells gv bs sv) 116 (0, 0))) {i : Nat} (hi : i < bs.length) (x : Bool) : (w.setCell ⟨B, 1 + i, none⟩ (.bool x)).heap[B]? = some (.cells (walkCells gv (bs.set i x) sv) 116 (0, 0)) := by
  rw [heap_setCell_same h, Nat.add_comm]
  simp only [walkCells, List.setIfInBounds_toArray, List.set_cons_succ]
  rw [List.set_append_left _ _ (by simpa using hi), List.map_set]
theorem walk_puts {w : World} {B : Nat} {gv sv : Value} {bs : List Bool} (h : w.heap[B]? = some (.cells (walkCells gv bs sv) 116 (0, 0))) (hl : bs.length = 32) (v : Value) : (w.setCell ⟨B, 33, none⟩ v).heap[B]? = some (.cells (walkCells gv bs v) 116 (0, 0)) := by
  rw [heap_setCell_same h]
  simp only [walkCells, List.setIfInBounds_toArray, List.set_cons_succ]
  rw [List.set_append_right _ _ (by simp [hl])]
  simp [hl]
/-- A walk in memory. -/
structure WalkM (n₀ n₁ : Nat) (W : World) (B : Nat) (ga : Option Addr) (gn gc : Nat) (VS : List Is) (sa : Option Addr) (sl sc : Nat) (st : Bst) : Prop where
  box : W.heap[B]? = some (.cells (walkCells (.slice ga gn gc) st.1 (.slice sa sl sc)) 116 (0, 0))
  gn : gn = VS.length
  graph : OwnIs n₀ W ga gc VS
  sl : sl = st.2.length
  steps : W.ownsRow n₁ 120 2 (.slice sa st.2.length sc) st.2.length (stepCells st.2)
  len : st.1.length = 32
theorem OwnIs.chgS {B : Nat} {w w' : World} {S : List Nat} {a : Option Addr} {c : Nat} {VS : List Is} (h : OwnIs B w a c VS) (hc : Chg S w w') (hS : ∀ k ∈ S, NotRow w 48 k ∧ NotRow w 3 k) : OwnIs B w' a c VS :=
  ⟨hc.row h.row (fun k hk hm => (hS k hm).1 _ _ _ _ _ h.row hk), fun p hp => hc.row (h.each p hp) (fun k hk hm => (hS k hm).2 _ _ _ _ _ (h.each p hp) hk), h.apart⟩
/-- What a step touches: the walk's block and the steps' row. -/
def touchS (B : Nat) (sa : Option Addr) (sl sc : Nat) : List Nat := B :: (Value.slice sa sl sc).ownBlock.toList
theorem WalkM.notrow {n₀ n₁ : Nat} {W : World} {B : Nat} {ga : Option Addr} {gn gc : Nat} {VS : List Is} {sa : Option Addr} {sl sc : Nat} {st : Bst} (h : WalkM n₀ n₁ W B ga gn gc VS sa sl sc st) : ∀ k ∈ touchS B sa sl sc, NotRow W 48 k ∧ NotRow W 3 k := by
  intro k hk
  rcases List.mem_cons.1 hk with rfl | hk
  · exact ⟨.of_cells h.box (by decide), .of_cells h.box (by decide)⟩
  · simp only [Option.mem_toList] at hk
    rw [h.sl] at hk
    exact ⟨row_notrow h.steps hk (by decide), row_notrow h.steps hk (by decide)⟩

set_option maxRecDepth 100000 in
set_option maxHeartbeats 8000000 in
theorem on_any (w : World) (n₀ n₁ B : Nat) (ga : Option Addr) (gn gc : Nat) (VS : List Is) (sa : Option Addr) (sl sc : Nat) (st : Bst) (hw : WalkM n₀ n₁ w B ga gn gc VS sa sl sc st) (hn : n₁ ≤ w.heap.size) (hgl : gn ≤ 32) (fr : Int) (r : Nat) (hr : r < VS.length)
    (zs : List Int) (hzs : VS[r].2.2 = zs) (hz : ∀ z ∈ zs, 0 ≤ z ∧ z < 32) (hzl : zs.length ≤ 32) (hsl : sl ≤ 1000) :
    Calls Tryz.prog 147 #[.pointer (some ⟨B, 0, none⟩), .int .i64 fr, .int .i64 r] w fun e w' => (∃ v, e = .returned v) ∧ ∃ sa' sl' sc', WalkM n₀ n₁ w' B ga gn gc VS sa' sl' sc' (onL fr zs st) ∧ Chg (touchS B sa sl sc) w w' ∧ (∀ k, (Value.slice sa' sl' sc').ownBlock = some k → k ∈ touchS B sa sl sc ∨ w.heap.size ≤ k) := by
  obtain ⟨i0, hi0, hz0, hz1, hz2⟩ := info_parts Tryz.infoStep
  obtain ⟨bg, rfl, hbg, hcell⟩ := hw.graph.at hr
  have hints := hw.graph.ints hr
  rw [hzs] at hints
  have hgn := hw.gn
  have hrn : r < gn := by omega
  simp only [Is.cell, hzs] at hcell
  obtain ⟨zl, hzle⟩ : ∃ zl, zl = zs.length := ⟨_, rfl⟩
  obtain ⟨za, hza⟩ : ∃ za, za = VS[r].1 := ⟨_, rfl⟩
  obtain ⟨zc, hzc⟩ : ∃ zc, zc = VS[r].2.1 := ⟨_, rfl⟩
  have HV : Hid (∃ h : r < VS.length, VS[r].2.2 = zs ∧ VS[r].1 = za) := Lib.hid ⟨hr, hzs, hza.symm⟩
  rw [← hzle, ← hza, ← hzc] at hcell
  rw [← hza] at hints
  have x0 := walk_g hw.box
  have H := Lib.hid (And.intro hw (And.intro hz (And.intro hints (And.intro hn hzle))))
  have hzl' : zl ≤ 32 := by omega
  clear hw hz hzs hints hn hgn hzle hza hzc hr hbg
  go_enter Tryz.func147, Tryz.ntmps147
  go_wp2_with fail
  clear x0 hcell
  go_loopg [16] zl (fun d iv wr => ∃ (i : Nat), d = zl - i ∧ i ≤ zl ∧ iv = .int .i64 i ∧ Hid (∃ sa' sl' sc' cur, onL fr (zs.drop i) cur = onL fr zs st ∧ WalkM n₀ n₁ wr B (some ⟨bg, 0, none⟩) gn gc VS sa' sl' sc' cur ∧ sl' ≤ sl + i ∧ Chg (touchS B sa sl sc) w wr ∧ (∀ k, (Value.slice sa' sl' sc').ownBlock = some k → k ∈ touchS B sa sl sc ∨ w.heap.size ≤ k)))
  case atStart => exact ⟨0, rfl, Nat.zero_le _, rfl, Lib.hid ⟨sa, sl, sc, st, rfl, H.out.1, Nat.le_refl _, Chg.refl _ _, fun k hk => .inl (by simp [touchS, hk])⟩⟩
  case round =>
    obtain ⟨i, rfl, hi, rfl, hin⟩ := hrel
    obtain ⟨wq, rfl⟩ : ∃ wz, wz = wr := ⟨_, rfl⟩
    by_cases hlt : i < zl
    · obtain ⟨sa', sl', sc', cur, h1, h2, h3, h4, h5⟩ := hin.out
      have hik : i < zs.length := by have := H.out.2.2.2.2; omega
      have hgw : OwnIs n₀ wq (some ⟨bg, 0, none⟩) gc VS := h2.graph
      obtain ⟨z, hz⟩ : ∃ z, z = zs[i] := ⟨_, rfl⟩
      have hzm := H.out.2.1 z (by rw [hz]; exact List.getElem_mem hik)
      obtain ⟨q, rfl⟩ : ∃ q : Nat, z = q := ⟨z.toNat, by omega⟩
      have hq32 : q < 32 := by omega
      obtain ⟨u, hu⟩ : ∃ u, cur.1[q]? = some u := ⟨_, List.getElem?_eq_getElem (by rw [h2.len]; exact hq32)⟩
      have hm := walk_met h2.box hu
      have hd : zs.drop i = (q : Int) :: zs.drop (i + 1) := by rw [hz]; exact List.drop_eq_getElem_cons hik
      rw [hd] at h1
      simp only [onL] at h1
      have hcur : cur.1.getD q false = u := by rw [List.getD, hu]; rfl
      obtain ⟨hr, e1, e2⟩ := HV.out
      have hints := hgw.ints hr
      rw [e1, e2] at hints
      obtain ⟨bz, oz, rfl, hcz⟩ := hints i hik
      rw [← hz] at hcz
      have HC := Lib.hid (And.intro h1 (And.intro h2 (And.intro h3 (And.intro h4 (And.intro h5 hcur)))))
      clear h1 h3 h4 h5 hcur hd hz hzm hu hgw hints e1 e2 hr hik
      cases u with
      | true =>
        clear h2
        go_wp2_with fail
        go_roundg (zl - (i + 1))
        case measure => omega
        case rel =>
          obtain ⟨h1, h2, h3, h4, h5, hcur⟩ := HC.out
          refine ⟨i + 1, rfl, by omega, by go_num, Lib.hid ⟨sa', sl', sc', cur, ?_, h2, by omega, h4, h5⟩⟩
          have e : on1 fr (q : Int) cur = cur := by unfold on1; rw [Int.toNat_natCast, hcur]; rfl
          rw [e] at h1
          exact h1
      | false =>
        have hf := free_of_cells h2.box (1 + q)
        have hq := walk_put h2.box (i := q) (by rw [h2.len]; exact hq32) true
        have x33 := walk_s hq (by simp [h2.len])
        have hst := h2.steps
        have hsle := h2.sl
        rw [← hsle] at hst
        have hne : (Value.slice sa' sl' sc').ownBlock ≠ some B := ownsRow_ne hst h2.box (by decide)
        have hcm := (Chg.refl [B] wq).setCell (p := ⟨B, 1 + q, none⟩) (.inl (by simp)) (.bool true)
        have hcA := hcm.alloc (.cells #[.int .i64 q, .int .i64 fr] 120)
        have hrow := hcA.row hst (fun k hk hm => by simp only [List.mem_singleton] at hm; exact hne (hm ▸ hk))
        have hnew := cells_at (w := (wq.setCell ⟨B, 1 + q, none⟩ (.bool true)).alloc (.cells #[.int .i64 q, .int .i64 fr] 120)) (heap_alloc_same _ _)
        rw [World.size_setCell] at hnew
        have h1' : ∀ u ∈ [Value.int .i64 (q : Int), Value.int .i64 fr], u.oneCell' = true := by simp [Value.oneCell']
        have h2' : sl' + 1 ≤ maxLen ∧ (sl' + 1) * 16 ≤ 140737488355328 := by have := HC.out.2.2.1; simp only [maxLen]; omega
        have hb' : n₁ ≤ ((wq.setCell ⟨B, 1 + q, none⟩ (.bool true)).alloc (.cells #[.int .i64 q, .int .i64 fr] 120)).heap.size := Nat.le_trans H.out.2.2.2.1 (Nat.le_trans HC.out.2.2.2.1.size hcA.size)
        have hbx := heap_alloc_lt hq (.cells #[.int .i64 q, .int .i64 fr] 120)
        have H4 := Lib.hid (And.intro hrow (And.intro hnew (And.intro h1' (And.intro h2' (And.intro hb' (And.intro hbx (And.intro hcA hsle)))))))
        clear hrow hnew h1' h2' hb' hbx hcA hcm hne hst hsle hq h2
        go_wp2_with (at_builtin; refine wpList_append_own_at _ rfl _ _ 114 rfl n₁ 120 i0 _ 2 16 Tryz.underlying114 hi0 hz0 hz1 hz2 rfl (by decide) (.slice sa' sl' sc') sl' (stepCells cur.2) rfl H4.out.1 ⟨wq.heap.size, 0, none⟩ 1 1 [.int .i64 q, .int .i64 fr] rfl rfl H4.out.2.1 H4.out.2.2.1 H4.out.2.2.2.1.1 H4.out.2.2.2.1.2 H4.out.2.2.2.2.1 ?_; intro v' w7 hr7 hg7 hn7 hb7; obtain ⟨a7, c7, rfl⟩ := ownsRow_slice hr7; have hO7 := grown_heap hg7 H4.out.2.2.2.2.2.1 (ownsRow_ne H4.out.1 H4.out.2.2.2.2.2.1 (by decide)); have z33 := walk_s hO7 (by rw [List.length_set]; exact HC.out.2.1.len); have f33 := free_of_cells hO7 33; have HW := Lib.hid (And.intro hr7 (And.intro hg7 (And.intro hO7 hb7))); clear hr7 hg7 hn7 hb7 hO7)
        go_roundg (zl - (i + 1))
        case measure => omega
        case rel =>
          obtain ⟨h1, h2, h3, h4, h5, hcur⟩ := HC.out
          obtain ⟨hrow, hnew, h1', h2', hb', hbx, hcA, hsle⟩ := H4.out
          obtain ⟨hr7, hg7, hO7, hb7⟩ := HW.out
          have hputs := walk_puts hO7 (by rw [List.length_set]; exact h2.len) (.slice a7 (sl' + 1) c7)
          have ho1 : on1 fr (q : Int) cur = (cur.1.set q true, cur.2 ++ [((q : Int), fr)]) := by unfold on1; rw [Int.toNat_natCast, hcur]; rfl
          have hsets : ∀ k ∈ touchS B sa' sl' sc', NotRow wq 48 k ∧ NotRow wq 3 k := h2.notrow
          have hc9 : Chg (touchS B sa' sl' sc') wq (w7.setCell ⟨B, 33, none⟩ (.slice a7 (sl' + 1) c7)) :=
            (((hcA.mono (by simp [touchS])).grown hg7 (fun k hk => .inl (by simp [touchS, hk])))).setCell (p := ⟨B, 33, none⟩) (.inl (by simp [touchS])) _
          have hne7 : (Value.slice a7 (sl' + 1) c7).ownBlock ≠ some B := ownsRow_ne hr7 hO7 (by decide)
          refine ⟨i + 1, rfl, by omega, by go_num, Lib.hid ⟨a7, sl' + 1, c7, on1 fr (q : Int) cur, h1, ?_, by omega, h4.trans hc9 ?_, ?_⟩⟩
          · rw [ho1]
            refine ⟨hputs, h2.gn, h2.graph.chgS hc9 hsets, by simp [h2.sl], ?_, by simp [h2.len]⟩
            rw [stepCells_snoc, List.length_append, ← h2.sl]
            exact ((Chg.refl [B] w7).setCell (p := ⟨B, 33, none⟩) (.inl (by simp)) (.slice a7 (sl' + 1) c7)).row hr7 (fun k hk hm => by simp only [List.mem_singleton] at hm; exact hne7 (hm ▸ hk))
          · intro k hk
            rcases List.mem_cons.1 hk with rfl | hk
            · exact .inl (by simp [touchS])
            · simp only [Option.mem_toList] at hk
              exact h5 k hk
          · intro k hk
            rcases hb7 with hb | hb
            · rw [hb] at hk
              exact h5 k hk
            · rw [hb] at hk
              cases hk
              exact .inr (Nat.le_trans h4.size hcA.size)
    · obtain rfl : i = zl := by omega
      go_wp2_with fail
      go_end0
      obtain ⟨sa', sl', sc', cur, h1, h2, h3, h4, h5⟩ := hin.out
      rw [List.drop_eq_nil_of_le (by have := H.out.2.2.2.2; omega)] at h1
      simp only [onL] at h1
      rw [← h1]
      exact ⟨⟨_, rfl⟩, sa', sl', sc', h2, h4, h5⟩
end Go.Proofs.YtibgfgfmljhimaaGreat
set_option linter.unusedVariables false
set_option linter.unusedSimpArgs false
set_option linter.unnecessarySimpa false
namespace Go.Proofs.YtibgfgfmljhimaaGreat
open Go.RowKit Go.MapKept Go.Shelf

def Walked (w : World) (g : Gr) (i : Int) (e : Ending) (w' : World) : Prop :=
  Chg [] w w' ∧ if 0 ≤ i ∧ i < g.rules.length ∧ rightB g = true then ∃ B ga gn gc VS sa sl sc, w.heap.size ≤ B ∧ e = .returned (.tuple #[.pointer (some ⟨B, 0, none⟩), .bool true]) ∧ WalkM w.heap.size w.heap.size w' B ga gn gc VS sa sl sc (walkL (graphG g) i.toNat) ∧ VS.map (·.2.2) = graphG g
  else e = .returned (.tuple #[.pointer none, .bool false])
theorem start_cells (ga : Option Addr) (gn gc : Nat) : walkCells (.slice ga gn gc) start0.1 (.slice none 0 0) = #[.slice ga gn gc, .bool false, .bool false, .bool false, .bool false, .bool false, .bool false, .bool false, .bool false, .bool false, .bool false, .bool false, .bool false, .bool false, .bool false, .bool false, .bool false, .bool false, .bool false, .bool false, .bool false, .bool false, .bool false, .bool false, .bool false, .bool false, .bool false, .bool false, .bool false, .bool false, .bool false, .bool false, .bool false, .slice none 0 0] := rfl
theorem WalkM.touched {n₀ n₁ : Nat} {W : World} {B : Nat} {ga : Option Addr} {gn gc : Nat} {VS : List Is} {sa : Option Addr} {sl sc : Nat} {st : Bst} (h : WalkM n₀ n₁ W B ga gn gc VS sa sl sc st) (hB : n₁ ≤ B) : ∀ k ∈ touchS B sa sl sc, n₁ ≤ k := by
  intro k hk
  rcases List.mem_cons.1 hk with rfl | hk
  · exact hB
  · simp only [Option.mem_toList] at hk
    rw [h.sl] at hk
    exact (row_beyond h.steps hk).1
theorem WalkM.step {n₀ n₁ : Nat} {W : World} {B : Nat} {ga : Option Addr} {gn gc : Nat} {VS : List Is} {sa : Option Addr} {sl sc : Nat} {st : Bst} (h : WalkM n₀ n₁ W B ga gn gc VS sa sl sc st) {k : Nat} (hk : k < st.2.length) :
    ∃ b, sa = some ⟨b, 0, none⟩ ∧ W.cell? ⟨b, k * 2, none⟩ = some (.int .i64 st.2[k].1) ∧ W.cell? ⟨b, k * 2 + 1, none⟩ = some (.int .i64 st.2[k].2) := by
  rcases h.steps.2 with ⟨h0, h1⟩ | ⟨g, cap, cur, h0, hb, hg, hn, hc, hs, ht⟩
  · omega
  · cases h0
    obtain ⟨s1, s2⟩ := stepCells_at st.2 k hk
    have key : ∀ j u, (stepCells st.2)[j]? = some u → W.cell? ⟨g, j, none⟩ = some u := by
      intro j u hu
      rw [cell_of_cells hg]
      rw [← ht, List.getElem?_take] at hu
      split at hu
      · simpa using hu
      · cases hu
    exact ⟨g, rfl, key _ _ s1, key _ _ s2⟩
theorem graphG_len {g : Gr} (hr : rightB g = true) : (graphG g).length = g.rules.length := by simp [graphG, hr]

set_option maxRecDepth 100000 in
set_option maxHeartbeats 8000000 in
theorem walked_any (w : World) (a1 : Option Addr) (n1 c1 : Nat) (a2 : Option Addr) (n2 c2 : Nat) (g : Gr) (hg : GramAt w a1 n1 c1 a2 n2 c2 g) (hre : Reach g) (i : Int) :
    Calls Tryz.prog 97 #[.agg #[.slice a1 n1 c1, .slice a2 n2 c2], .int .i64 i] w (Walked w g i) := by
  have H := Lib.hid (And.intro hg (And.intro hre (And.intro hg.e1 hg.e2)))
  clear hg hre
  go_enter Tryz.func97, Tryz.ntmps97
  obtain ⟨x0, x1⟩ := cells2 (heap_alloc_same w (.cells #[.slice a1 n1 c1, .slice a2 n2 c2] 25))
  go_wp2_with fail
  refine (Graph_any _ a1 n1 c1 a2 n2 c2 g (H.out.1.keep ((Chg.refl [] w).alloc _).kp) H.out.2.1).mono ?_
  rintro e w2 ⟨ga, gc, VS, rfl, hVS, hO, hc2⟩
  have hcw := ((Chg.refl [] w).alloc _).tr0 hc2
  obtain ⟨gn, hgn⟩ : ∃ gn, gn = (graphG g).length := ⟨_, rfl⟩
  rw [← hgn]
  have hgn32 : gn ≤ 32 := by
    rw [hgn]
    cases hr : rightB g with
    | false => simp [graphG, hr]
    | true => have := (graph_ok hr).few; rw [graphG_len hr]; exact this
  have H2 := Lib.hid (And.intro hgn (And.intro hVS (And.intro (hO.base (B' := w.heap.size) (by rw [World.size_alloc]; omega)) hcw)))
  have hl2 := hcw.size
  clear x0 x1 hc2 hgn hVS hO hcw
  by_cases hi0 : i < 0
  · go_wp2_with fail
    refine bodyPost_ret (v := .tuple #[.pointer none, .bool false]) (by simp [results, Tryz.results97, go_sem]) rfl ?_
    exact ⟨H2.out.2.2.2.alloc _, by rw [if_neg (by omega)]⟩
  · by_cases hi1 : (gn : Int) ≤ i
    · go_wp2_with fail
      refine bodyPost_ret (v := .tuple #[.pointer none, .bool false]) (by simp [results, Tryz.results97, go_sem]) rfl ?_
      refine ⟨H2.out.2.2.2.alloc _, ?_⟩
      rw [if_neg]
      rintro ⟨_, h1, h2⟩
      have := H2.out.1
      rw [graphG_len h2] at this
      omega
    · obtain ⟨r, rfl⟩ : ∃ r : Nat, i = r := ⟨i.toNat, by omega⟩
      have hrn : r < gn := by omega
      go_wp2_with fail
      have hrb : rightB g = true := by
        cases hr : rightB g with
        | true => rfl
        | false => exfalso; have := H2.out.1; simp [graphG, hr] at this; omega
      have hG := graph_ok hrb
      have hVl : VS.length = gn := by rw [H2.out.1, ← H2.out.2.1]; simp
      have hgr : gn = g.rules.length := by rw [H2.out.1, graphG_len hrb]
      obtain ⟨w3, e3⟩ : ∃ w3, w3 = w2.alloc (.cells (walkCells (.slice ga gn gc) start0.1 (.slice none 0 0)) 116) := ⟨_, rfl⟩
      have hc3 : Chg [] w2 w3 := by rw [e3]; exact (Chg.refl _ _).alloc _
      have hw3 : WalkM w.heap.size w.heap.size w3 w2.heap.size ga gn gc VS none 0 0 start0 :=
        ⟨by rw [e3]; exact heap_alloc_same _ _, hVl.symm, H2.out.2.2.1.chg0 hc3, rfl, World.ownsRow_nil _ _ _ _, rfl⟩
      rw [start_cells] at e3
      rw [← e3]
      have hrow : ∀ k (hk : k < VS.length), VS[k].2.2 = (graphG g).getD k [] := by
        intro k hk
        have h1 : (VS.map (·.2.2))[k]? = some VS[k].2.2 := by simp [hk]
        rw [H2.out.2.1] at h1
        rw [List.getD, h1]; rfl
      have hrows : ∀ k, (graphG g).getD k [] ≠ [] → ((graphG g).getD k []).length ≤ 32 := by
        intro k hk
        by_cases hkl : k < (graphG g).length
        · rw [List.getD, List.getElem?_eq_getElem hkl]
          exact hG.rows _ (List.getElem_mem hkl)
        · rw [List.getD, List.getElem?_eq_none (by omega)] at hk
          exact absurd rfl hk
      have hrowl : ∀ k, ((graphG g).getD k []).length ≤ 32 := fun k => by
        by_cases he : (graphG g).getD k [] = []
        · rw [he]; simp
        · exact hrows k he
      have hat : ∀ k, ∀ z ∈ (graphG g).getD k [], 0 ≤ z ∧ z < 32 := fun k z hz => by
        have := hG.at k z hz
        have := hG.few
        omega
      have H3 := Lib.hid (And.intro hG (And.intro hVl (And.intro hrow (And.intro hrowl (And.intro hat (And.intro (H2.out.2.2.2.tr hc3) (And.intro hgr (And.intro hrb hw3))))))))
      have hon := on_any w3 w.heap.size w.heap.size w2.heap.size ga gn gc VS none 0 0 start0 hw3 (Nat.le_trans hl2 hc3.size) hgn32 (-1) r (by omega) _ (hrow r (by omega)) (hat r) (hrowl r) (by omega)
      clear hrb hG hVl hgr e3 hc3 hw3 hrow hrows hrowl hat hi1 hi0
      refine hon.mono ?_
      clear hon
      rintro e w4 ⟨⟨v, rfl⟩, sa, sl, sc, hW, hC, -⟩
      have hW4 := Lib.hid (And.intro hW (H3.out.2.2.2.2.2.1.trans hC (fun k hk => .inr (by rcases List.mem_cons.1 hk with rfl | hk; exact hl2; simp [Value.ownBlock] at hk))))
      clear hW hC
      generalize decide ((r : Int) < 0) = q1
      generalize decide (gn ≤ r) = q2
      go_wp2_with fail
      go_loopg [7] 33 (fun d iv wr => ∃ (k : Nat), d = 33 - k ∧ k ≤ 32 ∧ iv = .int .i64 k ∧ Hid (∃ sa sl sc cur, WalkM w.heap.size w.heap.size wr w2.heap.size ga gn gc VS sa sl sc cur ∧ BstOk gn cur ∧ walkF (graphG g) 33 k cur = walkL (graphG g) r ∧ Chg [] w wr))
      case atStart =>
        refine ⟨0, rfl, by omega, rfl, Lib.hid ⟨sa, sl, sc, _, hW4.out.1, ?_, rfl, hW4.out.2⟩⟩
        rw [H3.out.2.2.2.2.2.2.1]
        exact onL_ok _ _ (bst_start H3.out.1.few) (H3.out.1.at _)
      case round =>
        obtain ⟨k, rfl, hk, rfl, hin⟩ := hrel
        obtain ⟨wq, rfl⟩ : ∃ wz, wz = wr := ⟨_, rfl⟩
        obtain ⟨sa', sl', sc', cur, h1, h2, h3, h4⟩ := hin.out
        have x33 := walk_s h1.box h1.len
        have hsl := h1.sl
        have hfs := h2.few_steps
        by_cases hlt : k < sl'
        · obtain ⟨bs, rfl, s1, -⟩ := h1.step (k := k) (by omega)
          have hkl : k < cur.2.length := by omega
          obtain ⟨z, hz⟩ : ∃ z, z = cur.2[k].1 := ⟨_, rfl⟩
          have hzr := h2.rules _ (List.getElem_mem hkl)
          rw [← hz] at s1 hzr
          obtain ⟨q, rfl⟩ : ∃ q : Nat, z = q := ⟨z.toNat, by omega⟩
          have hqn : q < VS.length := by have := H3.out.2.1; omega
          have hnx := walkF_next H3.out.1 (by rw [← H3.out.2.2.2.2.2.2.1]; exact h2) hkl
          rw [← hz, Int.toNat_natCast, h3] at hnx
          have hon := on_any wq w.heap.size w.heap.size w2.heap.size ga gn gc VS (some ⟨bs, 0, none⟩) sl' sc' cur h1 h4.size hgn32 k q hqn _ (H3.out.2.2.1 q hqn) (H3.out.2.2.2.2.1 q) (H3.out.2.2.2.1 q) (by omega)
          have HC := Lib.hid (And.intro h1 (And.intro h2 (And.intro hnx h4)))
          clear h1 h2 h3 h4 hsl hfs hz hzr hqn hnx hkl
          go_wp2_with fail
          refine hon.mono ?_
          clear hon x33 s1
          rintro e w5 ⟨⟨v, rfl⟩, sa2, sl2, sc2, hW, hC, -⟩
          have H5 := Lib.hid (And.intro hW hC)
          clear hW hC
          go_wp2_with fail
          go_roundg (33 - (k + 1))
          case measure => omega
          case rel =>
            obtain ⟨h1, h2, hnx, h4⟩ := HC.out
            obtain ⟨hW, hC⟩ := H5.out
            have hgn := H3.out.2.2.2.2.2.2.1
            have := h2.few_steps
            have := h1.sl
            refine ⟨k + 1, rfl, by omega, by go_num, Lib.hid ⟨sa2, sl2, sc2, _, hW, ?_, hnx.symm, h4.trans hC (fun j hj => .inr (h1.touched (by exact hl2) j hj))⟩⟩
            rw [hgn] at h2 ⊢
            exact onL_ok _ _ h2 (H3.out.1.at _)
        · have HC := Lib.hid (And.intro h1 (And.intro h3 h4))
          have hle : cur.2.length ≤ k := by omega
          clear h1 h2 h3 h4 hsl hfs
          go_wp2_with fail
          refine bodyPost_ret (v := .tuple #[.pointer (some ⟨w2.heap.size, 0, none⟩), .bool true]) (by simp [results, Tryz.results97, go_sem]) rfl ?_
          obtain ⟨h1, h3, h4⟩ := HC.out
          rw [walkF_end hle] at h3
          refine ⟨h4, ?_⟩
          have hgn := H3.out.2.2.2.2.2.2.1
          rw [if_pos ⟨by omega, by omega, H3.out.2.2.2.2.2.2.2.1⟩, Int.toNat_natCast, ← h3]
          exact ⟨_, _, _, _, _, _, _, _, hl2, rfl, h1, H2.out.2.1⟩
end Go.Proofs.YtibgfgfmljhimaaGreat
set_option linter.unusedVariables false
set_option linter.unusedSimpArgs false
set_option linter.unnecessarySimpa false
namespace Go.Proofs.YtibgfgfmljhimaaGreat
open Go.RowKit Go.MapKept Go.Shelf

def inR (g : Gr) (i : Int) : Prop := 0 ≤ i ∧ i < g.rules.length ∧ rightB g = true
instance (g : Gr) (i : Int) : Decidable (inR g i) := inferInstanceAs (Decidable (_ ∧ _ ∧ _))
def toL (g : Gr) (i : Int) : List Int := if inR g i then pickB (walkL (graphG g) i.toNat).1 else []
def goesB (g : Gr) (i : Int) : Bool := decide (inR g i) && (walkL (graphG g) i.toNat).1.getD i.toNat false

set_option maxRecDepth 100000 in
set_option maxHeartbeats 2000000 in
theorem To_any (w : World) (a1 : Option Addr) (n1 c1 : Nat) (a2 : Option Addr) (n2 c2 : Nat) (g : Gr) (hg : GramAt w a1 n1 c1 a2 n2 c2 g) (hre : Reach g) (i : Int) :
    Calls Tryz.prog 55 #[.agg #[.slice a1 n1 c1, .slice a2 n2 c2], .int .i64 i] w (ClonedInts w (toL g i)) := by
  obtain ⟨A, hA⟩ : ∃ A, A = toL g i := ⟨_, rfl⟩
  rw [← hA]
  have H := Lib.hid (And.intro hg hre)
  clear hg hre
  go_enter Tryz.func55, Tryz.ntmps55
  obtain ⟨x0, x1⟩ := cells2 (heap_alloc_same w (.cells #[.slice a1 n1 c1, .slice a2 n2 c2] 25))
  go_wp2_with fail
  refine (walked_any _ a1 n1 c1 a2 n2 c2 g (H.out.1.keep ((Chg.refl [] w).alloc _).kp) H.out.2 i).mono ?_
  rintro e w2 ⟨hc2, hif⟩
  have hcw := ((Chg.refl [] w).alloc _).tr0 hc2
  clear x0 x1 hc2
  by_cases hin : 0 ≤ i ∧ i < g.rules.length ∧ rightB g = true
  · rw [if_pos hin] at hif
    obtain ⟨B, ga, gn, gc, VS, sa, sl, sc, hB, rfl, hW, -⟩ := hif
    have e0 : A = pickB (walkL (graphG g) i.toNat).1 := by rw [hA, toL, if_pos (show inR g i from hin)]
    have hl := list_any w2 B 1 (walkL (graphG g) i.toNat).1 hW.len (fun k x hx => walk_met hW.box hx)
    rw [← e0] at hl
    have H2 := Lib.hid hcw
    clear hin e0 hW hB hcw hA
    go_wp2_with fail
    refine hl.mono ?_
    rintro e w3 ⟨al, cl, rfl, hf, hc3⟩
    have H3 := Lib.hid (And.intro (row_base hf H2.out.size) (H2.out.tr hc3))
    clear hf hc3 hl
    go_wp2_with fail
    go_ret
    exact ⟨al, cl, rfl, H3.out.1, H3.out.2⟩
  · rw [if_neg hin] at hif
    subst hif
    have e0 : A = [] := by rw [hA, toL, if_neg (show ¬ inR g i from hin)]
    clear hA
    subst e0
    have H2 := Lib.hid hcw
    clear hin hcw
    go_wp2_with fail
    go_ret
    exact ⟨none, 0, rfl, World.ownsRow_nil _ _ _ _, H2.out⟩

set_option maxRecDepth 100000 in
set_option maxHeartbeats 2000000 in
theorem Goes_any (w : World) (a1 : Option Addr) (n1 c1 : Nat) (a2 : Option Addr) (n2 c2 : Nat) (g : Gr) (hg : GramAt w a1 n1 c1 a2 n2 c2 g) (hre : Reach g) (i : Int) :
    Calls Tryz.prog 56 #[.agg #[.slice a1 n1 c1, .slice a2 n2 c2], .int .i64 i] w fun e w' => e = .returned (.bool (goesB g i)) ∧ Chg [] w w' := by
  obtain ⟨A, hA⟩ : ∃ A, A = goesB g i := ⟨_, rfl⟩
  rw [← hA]
  have H := Lib.hid (And.intro hg hre)
  clear hg hre
  go_enter Tryz.func56, Tryz.ntmps56
  obtain ⟨x0, x1⟩ := cells2 (heap_alloc_same w (.cells #[.slice a1 n1 c1, .slice a2 n2 c2] 25))
  go_wp2_with fail
  refine (walked_any _ a1 n1 c1 a2 n2 c2 g (H.out.1.keep ((Chg.refl [] w).alloc _).kp) H.out.2 i).mono ?_
  rintro e w2 ⟨hc2, hif⟩
  have hcw := ((Chg.refl [] w).alloc _).tr0 hc2
  clear x0 x1 hc2
  by_cases hin : 0 ≤ i ∧ i < g.rules.length ∧ rightB g = true
  · rw [if_pos hin] at hif
    obtain ⟨B, ga, gn, gc, VS, sa, sl, sc, hB, rfl, hW, -⟩ := hif
    obtain ⟨r, rfl⟩ : ∃ r : Nat, i = r := ⟨i.toNat, by omega⟩
    have hr32 : r < 32 := by have := (right_sizes hin.2.2).2.1; omega
    obtain ⟨u, hu⟩ : ∃ u, (walkL (graphG g) r).1[r]? = some u := ⟨_, List.getElem?_eq_getElem (by have := hW.len; rw [Int.toNat_natCast] at this; omega)⟩
    rw [Int.toNat_natCast] at hW
    have hm := walk_met hW.box hu
    have e0 : A = u := by
      rw [hA]
      unfold goesB
      rw [decide_eq_true (show inR g r from hin), Bool.true_and, Int.toNat_natCast, List.getD, hu]
      rfl
    clear hA
    subst e0
    have H2 := Lib.hid hcw
    clear hin hW hB hcw hu
    go_wp2_with fail
    go_ret
    exact ⟨rfl, H2.out⟩
  · rw [if_neg hin] at hif
    subst hif
    have e0 : A = false := by rw [hA]; unfold goesB; rw [decide_eq_false (show ¬ inR g i from hin)]; rfl
    clear hA
    subst e0
    have H2 := Lib.hid hcw
    clear hin hcw
    go_wp2_with fail
    go_ret
    exact ⟨rfl, H2.out⟩
end Go.Proofs.YtibgfgfmljhimaaGreat

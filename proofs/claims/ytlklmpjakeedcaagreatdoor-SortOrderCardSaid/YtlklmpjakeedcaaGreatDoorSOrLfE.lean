/-
  left.on, left.walked: the walk from a rule.
  Conditions: rows of rules; the grammar reads as data.
-/
import Derived.Test.YtlklmpjakeedcaaGreatDoorSOrLfD
import Derived.Test.YtlklmpjakeedcaaGreatDoorSOrLf0
set_option linter.unusedVariables false
set_option linter.unusedSimpArgs false
set_option linter.unnecessarySimpa false
namespace Go.Proofs.YtlklmpjakeedcaaGreatDoor
open Go.RowKit Go.MapKept Go.Shelf

theorem Tryz.infoStep : (Tryz.prog.info? 142).map (fun i => (i.zero, i.size, i.bytes)) = some (some (.agg #[.int .i64 0, .int .i64 0]), 2, 16) := by kernel_rfl
def stepCells (ss : List Stp) : List Value := ss.flatMap fun s => [.int .i64 s.1, .int .i64 s.2]
theorem stepCells_snoc (ss : List Stp) (s : Stp) : stepCells (ss ++ [s]) = stepCells ss ++ [.int .i64 s.1, .int .i64 s.2] := by simp [stepCells]
theorem stepCells_at : ∀ (ss : List Stp) (k : Nat) (h : k < ss.length), (stepCells ss)[k * 2]? = some (.int .i64 ss[k].1) ∧ (stepCells ss)[k * 2 + 1]? = some (.int .i64 ss[k].2) := by
  intro ss
  induction ss with
  | nil => intro k h; cases h
  | cons s ss ih =>
    intro k h
    cases k with
    | zero => exact ⟨rfl, rfl⟩
    | succ k =>
      obtain ⟨h1, h2⟩ := ih k (by simpa using h)
      have e : stepCells (s :: ss) = .int .i64 s.1 :: .int .i64 s.2 :: stepCells ss := rfl
      rw [e, show (k + 1) * 2 = k * 2 + 1 + 1 by omega]
      exact ⟨by simpa using h1, by simpa using h2⟩
theorem stepCells_len (ss : List Stp) : (stepCells ss).length = ss.length * 2 := by
  induction ss with
  | nil => rfl
  | cons s ss ih =>
    have e : stepCells (s :: ss) = .int .i64 s.1 :: .int .i64 s.2 :: stepCells ss := rfl
    rw [e]; simp [ih]; omega
/-- The walk's own block. -/
def walkCells (gv : Value) (bs : List Bool) (sv : Value) : Array Value := (gv :: (bs.map Value.bool ++ [sv])).toArray
theorem walk_g {w : World} {B : Nat} {gv sv : Value} {bs : List Bool} (h : w.heap[B]? = some (.cells (walkCells gv bs sv) 98 (0, 0))) : w.cell? ⟨B, 0, none⟩ = some gv := by
  rw [cell_of_cells h]; simp [walkCells]
theorem walk_met {w : World} {B : Nat} {gv sv : Value} {bs : List Bool} (h : w.heap[B]? = some (.cells (walkCells gv bs sv) 98 (0, 0))) {i : Nat} {x : Bool} (hx : bs[i]? = some x) : w.cell? ⟨B, 1 + i, none⟩ = some (.bool x) := by
  have hi := (List.getElem?_eq_some_iff.1 hx).1
  rw [cell_of_cells h, Nat.add_comm]
  simp only [walkCells, List.getElem?_toArray, List.getElem?_cons_succ]
  rw [List.getElem?_append_left (by simpa using hi)]
  simp [hx]
theorem walk_s {w : World} {B : Nat} {gv sv : Value} {bs : List Bool} (h : w.heap[B]? = some (.cells (walkCells gv bs sv) 98 (0, 0))) (hl : bs.length = 32) : w.cell? ⟨B, 33, none⟩ = some sv := by
  rw [cell_of_cells h]
  simp only [walkCells, List.getElem?_toArray, List.getElem?_cons_succ]
  rw [List.getElem?_append_right (by simp [hl])]
  simp [hl]
theorem walk_put {w : World} {B : Nat} {gv sv : Value} {bs : List Bool} (h : w.heap[B]? = some (.cells (walkCells gv bs sv) 98 (0, 0))) {i : Nat} (hi : i < bs.length) (x : Bool) : (w.setCell ⟨B, 1 + i, none⟩ (.bool x)).heap[B]? = some (.cells (walkCells gv (bs.set i x) sv) 98 (0, 0)) := by
  rw [heap_setCell_same h, Nat.add_comm]
  simp only [walkCells, List.setIfInBounds_toArray, List.set_cons_succ]
  rw [List.set_append_left _ _ (by simpa using hi), List.map_set]
theorem walk_puts {w : World} {B : Nat} {gv sv : Value} {bs : List Bool} (h : w.heap[B]? = some (.cells (walkCells gv bs sv) 98 (0, 0))) (hl : bs.length = 32) (v : Value) : (w.setCell ⟨B, 33, none⟩ v).heap[B]? = some (.cells (walkCells gv bs v) 98 (0, 0)) := by
  rw [heap_setCell_same h]
  simp only [walkCells, List.setIfInBounds_toArray, List.set_cons_succ]
  rw [List.set_append_right _ _ (by simp [hl])]
  simp [hl]
/-- A walk in memory. -/
structure WalkM (n₀ n₁ : Nat) (W : World) (B : Nat) (ga : Option Addr) (gn gc : Nat) (VS : List Is) (sa : Option Addr) (sl sc : Nat) (st : Bst) : Prop where
  box : W.heap[B]? = some (.cells (walkCells (.slice ga gn gc) st.1 (.slice sa sl sc)) 98 (0, 0))
  gn : gn = VS.length
  graph : OwnIs n₀ W ga gc VS
  sl : sl = st.2.length
  steps : W.ownsRow n₁ 142 2 (.slice sa st.2.length sc) st.2.length (stepCells st.2)
  len : st.1.length = 32
theorem OwnIs.chgS {B : Nat} {w w' : World} {S : List Nat} {a : Option Addr} {c : Nat} {VS : List Is} (h : OwnIs B w a c VS) (hc : Chg S w w') (hS : ∀ k ∈ S, NotRow w 34 k ∧ NotRow w 3 k) : OwnIs B w' a c VS :=
  ⟨hc.row h.row (fun k hk hm => (hS k hm).1 _ _ _ _ _ h.row hk), fun p hp => hc.row (h.each p hp) (fun k hk hm => (hS k hm).2 _ _ _ _ _ (h.each p hp) hk), h.apart⟩
/-- What a step touches: the walk's block and the steps' row. -/
def touchS (B : Nat) (sa : Option Addr) (sl sc : Nat) : List Nat := B :: (Value.slice sa sl sc).ownBlock.toList
theorem WalkM.notrow {n₀ n₁ : Nat} {W : World} {B : Nat} {ga : Option Addr} {gn gc : Nat} {VS : List Is} {sa : Option Addr} {sl sc : Nat} {st : Bst} (h : WalkM n₀ n₁ W B ga gn gc VS sa sl sc st) : ∀ k ∈ touchS B sa sl sc, NotRow W 34 k ∧ NotRow W 3 k := by
  intro k hk
  rcases List.mem_cons.1 hk with rfl | hk
  · exact ⟨.of_cells h.box (by decide), .of_cells h.box (by decide)⟩
  · simp only [Option.mem_toList] at hk
    rw [h.sl] at hk
    exact ⟨row_notrow h.steps hk (by decide), row_notrow h.steps hk (by decide)⟩

set_option maxRecDepth 100000 in
set_option maxHeartbeats 8000000 in
theorem on_any (w : World) (n₀ n₁ B : Nat) (ga : Option Addr) (gn gc : Nat) (VS : List Is) (sa : Option Addr) (sl sc : Nat) (st : Bst) (hw : WalkM n₀ n₁ w B ga gn gc VS sa sl sc st) (hn : n₁ ≤ w.heap.size) (hgl : gn ≤ 32) (fr : Int) (r : Nat) (hr : r < VS.length)
    (zs : List Int) (hzs : VS[r].2.2 = zs) (hz : ∀ z ∈ zs, 0 ≤ z ∧ z < 32) (hzl : zs.length ≤ 32) (hsl : sl ≤ 1000) :
    Calls Tryz.prog 94 #[.pointer (some ⟨B, 0, none⟩), .int .i64 fr, .int .i64 r] w fun e w' => (∃ v, e = .returned v) ∧ ∃ sa' sl' sc', WalkM n₀ n₁ w' B ga gn gc VS sa' sl' sc' (onL fr zs st) ∧ Chg (touchS B sa sl sc) w w' ∧ (∀ k, (Value.slice sa' sl' sc').ownBlock = some k → k ∈ touchS B sa sl sc ∨ w.heap.size ≤ k) := by
  obtain ⟨i0, hi0, hz0, hz1, hz2⟩ := info_parts Tryz.infoStep
  obtain ⟨bg, rfl, hbg, hcell⟩ := hw.graph.at hr
  have hints := hw.graph.ints hr
  rw [hzs] at hints
  have hgn := hw.gn
  have hrn : r < gn := by omega
  simp only [Is.cell, hzs] at hcell
  obtain ⟨zl, hzle⟩ : ∃ zl, zl = zs.length := ⟨_, rfl⟩
  obtain ⟨za, hza⟩ : ∃ za, za = VS[r].1 := ⟨_, rfl⟩
  obtain ⟨zc, hzc⟩ : ∃ zc, zc = VS[r].2.1 := ⟨_, rfl⟩
  have HV : Hid (∃ h : r < VS.length, VS[r].2.2 = zs ∧ VS[r].1 = za) := Lib.hid ⟨hr, hzs, hza.symm⟩
  rw [← hzle, ← hza, ← hzc] at hcell
  rw [← hza] at hints
  have x0 := walk_g hw.box
  have H := Lib.hid (And.intro hw (And.intro hz (And.intro hints (And.intro hn hzle))))
  have hzl' : zl ≤ 32 := by omega
  clear hw hz hzs hints hn hgn hzle hza hzc hr hbg
  go_enter Tryz.func94, Tryz.ntmps94
  go_wp2_with fail
  clear x0 hcell
  go_loopg [16] zl (fun d iv wr => ∃ (i : Nat), d = zl - i ∧ i ≤ zl ∧ iv = .int .i64 i ∧ Hid (∃ sa' sl' sc' cur, onL fr (zs.drop i) cur = onL fr zs st ∧ WalkM n₀ n₁ wr B (some ⟨bg, 0, none⟩) gn gc VS sa' sl' sc' cur ∧ sl' ≤ sl + i ∧ Chg (touchS B sa sl sc) w wr ∧ (∀ k, (Value.slice sa' sl' sc').ownBlock = some k → k ∈ touchS B sa sl sc ∨ w.heap.size ≤ k)))
  case atStart => exact ⟨0, rfl, Nat.zero_le _, rfl, Lib.hid ⟨sa, sl, sc, st, rfl, H.out.1, Nat.le_refl _, Chg.refl _ _, fun k hk => .inl (by simp [touchS, hk])⟩⟩
  case round =>
    obtain ⟨i, rfl, hi, rfl, hin⟩ := hrel
    obtain ⟨wq, rfl⟩ : ∃ wz, wz = wr := ⟨_, rfl⟩
    by_cases hlt : i < zl
    · obtain ⟨sa', sl', sc', cur, h1, h2, h3, h4, h5⟩ := hin.out
      have hik : i < zs.length := by have := H.out.2.2.2.2; omega
      have hgw : OwnIs n₀ wq (some ⟨bg, 0, none⟩) gc VS := h2.graph
      obtain ⟨z, hz⟩ : ∃ z, z = zs[i] := ⟨_, rfl⟩
      have hzm := H.out.2.1 z (by rw [hz]; exact List.getElem_mem hik)
      obtain ⟨q, rfl⟩ : ∃ q : Nat, z = q := ⟨z.toNat, by omega⟩
      have hq32 : q < 32 := by omega
      obtain ⟨u, hu⟩ : ∃ u, cur.1[q]? = some u := ⟨_, List.getElem?_eq_getElem (by rw [h2.len]; exact hq32)⟩
      have hm := walk_met h2.box hu
      have hd : zs.drop i = (q : Int) :: zs.drop (i + 1) := by rw [hz]; exact List.drop_eq_getElem_cons hik
      rw [hd] at h1
      simp only [onL] at h1
      have hcur : cur.1.getD q false = u := by rw [List.getD, hu]; rfl
      obtain ⟨hr, e1, e2⟩ := HV.out
      have hints := hgw.ints hr
      rw [e1, e2] at hints
      obtain ⟨bz, oz, rfl, hcz⟩ := hints i hik
      rw [← hz] at hcz
      have HC := Lib.hid (And.intro h1 (And.intro h2 (And.intro h3 (And.intro h4 (And.intro h5 hcur)))))
      clear h1 h3 h4 h5 hcur hd hz hzm hu hgw hints e1 e2 hr hik
      cases u with
      | true =>
        clear h2
        go_wp2_with fail
        go_roundg (zl - (i + 1))
        case measure => omega
        case rel =>
          obtain ⟨h1, h2, h3, h4, h5, hcur⟩ := HC.out
          refine ⟨i + 1, rfl, by omega, by go_num, Lib.hid ⟨sa', sl', sc', cur, ?_, h2, by omega, h4, h5⟩⟩
          have e : on1 fr (q : Int) cur = cur := by unfold on1; rw [Int.toNat_natCast, hcur]; rfl
          rw [e] at h1
          exact h1
      | false =>
        have hf := free_of_cells h2.box (1 + q)
        have hq := walk_put h2.box (i := q) (by rw [h2.len]; exact hq32) true
        have x33 := walk_s hq (by simp [h2.len])
        have hst := h2.steps
        have hsle := h2.sl
        rw [← hsle] at hst
        have hne : (Value.slice sa' sl' sc').ownBlock ≠ some B := ownsRow_ne hst h2.box (by decide)
        have hcm := (Chg.refl [B] wq).setCell (p := ⟨B, 1 + q, none⟩) (.inl (by simp)) (.bool true)
        have hcA := hcm.alloc (.cells #[.int .i64 q, .int .i64 fr] 142)
        have hrow := hcA.row hst (fun k hk hm => by simp only [List.mem_singleton] at hm; exact hne (hm ▸ hk))
        have hnew := cells_at (w := (wq.setCell ⟨B, 1 + q, none⟩ (.bool true)).alloc (.cells #[.int .i64 q, .int .i64 fr] 142)) (heap_alloc_same _ _)
        rw [World.size_setCell] at hnew
        have h1' : ∀ u ∈ [Value.int .i64 (q : Int), Value.int .i64 fr], u.oneCell' = true := by simp [Value.oneCell']
        have h2' : sl' + 1 ≤ maxLen ∧ (sl' + 1) * 16 ≤ 140737488355328 := by have := HC.out.2.2.1; simp only [maxLen]; omega
        have hb' : n₁ ≤ ((wq.setCell ⟨B, 1 + q, none⟩ (.bool true)).alloc (.cells #[.int .i64 q, .int .i64 fr] 142)).heap.size := Nat.le_trans H.out.2.2.2.1 (Nat.le_trans HC.out.2.2.2.1.size hcA.size)
        have hbx := heap_alloc_lt hq (.cells #[.int .i64 q, .int .i64 fr] 142)
        have H4 := Lib.hid (And.intro hrow (And.intro hnew (And.intro h1' (And.intro h2' (And.intro hb' (And.intro hbx (And.intro hcA hsle)))))))
        clear hrow hnew h1' h2' hb' hbx hcA hcm hne hst hsle hq h2
        go_wp2_with (at_builtin; refine wpList_append_own_at _ rfl _ _ 96 rfl n₁ 142 i0 _ 2 16 Tryz.underlying96 hi0 hz0 hz1 hz2 rfl (by decide) (.slice sa' sl' sc') sl' (stepCells cur.2) rfl H4.out.1 ⟨wq.heap.size, 0, none⟩ 1 1 [.int .i64 q, .int .i64 fr] rfl rfl H4.out.2.1 H4.out.2.2.1 H4.out.2.2.2.1.1 H4.out.2.2.2.1.2 H4.out.2.2.2.2.1 ?_; intro v' w7 hr7 hg7 hn7 hb7; obtain ⟨a7, c7, rfl⟩ := ownsRow_slice hr7; have hO7 := grown_heap hg7 H4.out.2.2.2.2.2.1 (ownsRow_ne H4.out.1 H4.out.2.2.2.2.2.1 (by decide)); have z33 := walk_s hO7 (by rw [List.length_set]; exact HC.out.2.1.len); have f33 := free_of_cells hO7 33; have HW := Lib.hid (And.intro hr7 (And.intro hg7 (And.intro hO7 hb7))); clear hr7 hg7 hn7 hb7 hO7)
        go_roundg (zl - (i + 1))
        case measure => omega
        case rel =>
          obtain ⟨h1, h2, h3, h4, h5, hcur⟩ := HC.out
          obtain ⟨hrow, hnew, h1', h2', hb', hbx, hcA, hsle⟩ := H4.out
          obtain ⟨hr7, hg7, hO7, hb7⟩ := HW.out
          have hputs := walk_puts hO7 (by rw [List.length_set]; exact h2.len) (.slice a7 (sl' + 1) c7)
          have ho1 : on1 fr (q : Int) cur = (cur.1.set q true, cur.2 ++ [((q : Int), fr)]) := by unfold on1; rw [Int.toNat_natCast, hcur]; rfl
          have hsets : ∀ k ∈ touchS B sa' sl' sc', NotRow wq 34 k ∧ NotRow wq 3 k := h2.notrow
          have hc9 : Chg (touchS B sa' sl' sc') wq (w7.setCell ⟨B, 33, none⟩ (.slice a7 (sl' + 1) c7)) :=
            (((hcA.mono (by simp [touchS])).grown hg7 (fun k hk => .inl (by simp [touchS, hk])))).setCell (p := ⟨B, 33, none⟩) (.inl (by simp [touchS])) _
          have hne7 : (Value.slice a7 (sl' + 1) c7).ownBlock ≠ some B := ownsRow_ne hr7 hO7 (by decide)
          refine ⟨i + 1, rfl, by omega, by go_num, Lib.hid ⟨a7, sl' + 1, c7, on1 fr (q : Int) cur, h1, ?_, by omega, h4.trans hc9 ?_, ?_⟩⟩
          · rw [ho1]
            refine ⟨hputs, h2.gn, h2.graph.chgS hc9 hsets, by simp [h2.sl], ?_, by simp [h2.len]⟩
            rw [stepCells_snoc, List.length_append, ← h2.sl]
            exact ((Chg.refl [B] w7).setCell (p := ⟨B, 33, none⟩) (.inl (by simp)) (.slice a7 (sl' + 1) c7)).row hr7 (fun k hk hm => by simp only [List.mem_singleton] at hm; exact hne7 (hm ▸ hk))
          · intro k hk
            rcases List.mem_cons.1 hk with rfl | hk
            · exact .inl (by simp [touchS])
            · simp only [Option.mem_toList] at hk
              exact h5 k hk
          · intro k hk
            rcases hb7 with hb | hb
            · rw [hb] at hk
              exact h5 k hk
            · rw [hb] at hk
              cases hk
              exact .inr (Nat.le_trans h4.size hcA.size)
    · obtain rfl : i = zl := by omega
      go_wp2_with fail
      go_end0
      obtain ⟨sa', sl', sc', cur, h1, h2, h3, h4, h5⟩ := hin.out
      rw [List.drop_eq_nil_of_le (by have := H.out.2.2.2.2; omega)] at h1
      simp only [onL] at h1
      rw [← h1]
      exact ⟨⟨_, rfl⟩, sa', sl', sc', h2, h4, h5⟩
end Go.Proofs.YtlklmpjakeedcaaGreatDoor

/-
  What may match nothing: a node, a rule, a rank, all rules, all nodes.
  Conditions: the grammar reads as data, within the reach.
-/
import Derived.Test.YtlklmpjakeedcaaGreatDoorSOrNuD
set_option linter.unusedVariables false
set_option linter.unusedSimpArgs false
namespace Go.Proofs.YtlklmpjakeedcaaGreatDoor
open Go.RowKit Go.MapKept Go.Shelf

/-! ### The answers -/
def rankI (g : Gr) (i : Int) : Int := if rightB g = true ∧ 0 ≤ i ∧ i < g.rules.length then (rankG g i.toNat : Int) else 0
def nodeI (g : Gr) (n : Int) : Bool := rightB g && (decide (0 ≤ n) && (decide (n < g.nodes.length) && mayG g n))
def pickL (n : Nat) (F : Nat → Bool) : List Int := ((List.range n).filter F).map fun (i : Nat) => (i : Int)
theorem pickL_succ (n : Nat) (F : Nat → Bool) : pickL (n + 1) F = pickL n F ++ if F n then [(n : Int)] else [] := by
  simp only [pickL, List.range_succ, List.filter_append, List.map_append]
  congr 1
  by_cases h : F n <;> simp [h]
theorem pickL_le (n : Nat) (F : Nat → Bool) : (pickL n F).length ≤ n := by
  have := List.length_filter_le F (List.range n)
  simpa [pickL] using this
def rulesN (g : Gr) : List Int := if rightB g then pickL g.rules.length (fun i => decide (0 < rankG g i)) else []
def nodesN (g : Gr) : List Int := if rightB g then pickL g.nodes.length (fun n => mayG g n) else []
theorem callsL_end (g : Gr) : mayN g.nodes (callsL (ranksL g g.rules.length)) = mayG g := by rw [callsL_ranks]; rfl

set_option maxRecDepth 100000 in
set_option maxHeartbeats 2000000 in
theorem which1_any (w : World) (f p many : Nat) (F : Nat → Bool) (hm : many ≤ 100000) (hc : ∀ w1, Chg [] w w1 → ∀ k, k < many → Calls Tryz.prog f #[.int .i64 k, .pointer (some ⟨p, 0, none⟩)] w1 fun e w' => e = .returned (.bool (F k)) ∧ Chg [] w1 w')
    (eg : ∀ args w, (callFunc f args).run Tryz.prog w = .ok (.enter f args) w) :
    Calls Tryz.prog 104 #[.int .i64 many, .func (.func f) #[] #[.pointer (some ⟨p, 0, none⟩)]] w (ClonedInts w (pickL many F)) := by
  obtain ⟨i0, hin, hz0, hz1, hz2⟩ := info_parts Tryz.infoInt
  have H := Lib.hid hc
  clear hc
  go_enter Tryz.func104, Tryz.ntmps104
  go_wp2_with fail
  go_loopg [7, 4] many (fun d iv ov wr => ∃ (k : Nat) (a' : Option Addr) (c' q : Nat), d = many - k ∧ k ≤ many ∧ iv = .int .i64 k ∧ ov = .slice a' q c' ∧ Hid (Chg [] w wr ∧ FreshInts w.heap.size wr a' c' (pickL k F) ∧ q = (pickL k F).length))
  case atStart => exact ⟨0, none, 0, 0, rfl, Nat.zero_le _, rfl, rfl, Lib.hid ⟨Chg.refl _ _, World.ownsRow_nil _ _ _ _, rfl⟩⟩
  case round =>
    obtain ⟨k, a', c', q, rfl, hk, rfl, rfl, hin2⟩ := hrel
    obtain ⟨wq, rfl⟩ : ∃ wz, wz = wr := ⟨_, rfl⟩
    by_cases hlt : k < many
    · obtain ⟨r, hr⟩ : ∃ r, r = F k := ⟨_, rfl⟩
      have hcall := H.out wq hin2.out.1 k hlt
      rw [← hr] at hcall
      have HR := Lib.hid (And.intro hr hcall)
      clear hr hcall
      go_wp2_with fail
      refine HR.out.2.mono ?_
      rintro e w3 ⟨rfl, hc3⟩
      have H3 := Lib.hid hc3
      clear hc3
      cases r with
      | true =>
        have hrow3 := H3.out.row hin2.out.2.1 (fun _ _ => by simp)
        have h1' : ∀ u ∈ [Value.int .i64 (k : Int)], u.oneCell' = true := by simp [Value.oneCell']
        have hq := pickL_le k F
        have hqe := hin2.out.2.2
        have h2' : q + 1 ≤ maxLen ∧ (q + 1) * 8 ≤ 140737488355328 := by simp only [maxLen]; omega
        have hnew := cells_at (w := w3.alloc (.cells #[.int .i64 k] 3)) (heap_alloc_same _ _)
        have hsz := (hin2.out.1.tr H3.out).size
        rw [← hqe] at hrow3
        have H4 := Lib.hid (And.intro (World.ownsRow.alloc hrow3 (.cells #[.int .i64 k] 3)) (And.intro h1' (And.intro h2' (And.intro hnew (And.intro hsz ((hin2.out.1.tr H3.out).alloc (.cells #[.int .i64 k] 3)))))))
        clear hrow3 h1' h2' hnew hsz hq hqe
        go_wp2_with (at_builtin; refine wpList_append_own_at _ rfl _ _ 34 rfl w.heap.size 3 i0 _ 1 8 Tryz.underlying34 hin hz0 hz1 hz2 rfl (by decide) (.slice a' q c') q ((pickL k F).map (Value.int .i64)) rfl H4.out.1 ⟨w3.heap.size, 0, none⟩ 1 1 [.int .i64 k] rfl rfl H4.out.2.2.2.1 H4.out.2.1 H4.out.2.2.1.1 H4.out.2.2.1.2 (by have := H4.out.2.2.2.2.1; rw [World.size_alloc]; omega) ?_; intro v' w5 hr5 hg5 hn5 hb5; obtain ⟨a5, c5, rfl⟩ := ownsRow_slice hr5; have HW := Lib.hid (And.intro hr5 hg5); clear hr5 hg5 hn5 hb5)
        go_roundg (many - (k + 1))
        case measure => omega
        case rel =>
          have hnl : pickL (k + 1) F = pickL k F ++ [(k : Int)] := by rw [pickL_succ, ← HR.out.1]; rfl
          refine ⟨k + 1, a5, c5, q + 1, rfl, by omega, by go_num, rfl, Lib.hid ⟨?_, ?_, ?_⟩⟩
          · refine H4.out.2.2.2.2.2.grown HW.out.2 (fun i hi => .inr ?_)
            have := hin2.out.2.1
            rw [FreshInts, ← hin2.out.2.2] at this
            exact (row_beyond this hi).1
          · rw [FreshInts, hnl, List.length_append, ← hin2.out.2.2, List.map_append]
            exact HW.out.1
          · rw [hnl, List.length_append, ← hin2.out.2.2]; rfl
      | false =>
        go_wp2_with fail
        go_roundg (many - (k + 1))
        case measure => omega
        case rel =>
          have hnl : pickL (k + 1) F = pickL k F := by rw [pickL_succ, ← HR.out.1]; simp
          exact ⟨k + 1, a', c', q, rfl, by omega, by go_num, rfl, Lib.hid ⟨hin2.out.1.tr H3.out, by rw [hnl]; exact H3.out.row hin2.out.2.1 (fun _ _ => by simp), by rw [hnl]; exact hin2.out.2.2⟩⟩
    · obtain rfl : k = many := by omega
      go_wp2_with fail
      go_ret
      exact ⟨a', c', by rw [← hin2.out.2.2]; rfl, hin2.out.2.1, hin2.out.1⟩

set_option maxRecDepth 100000 in
set_option maxHeartbeats 2000000 in
theorem which2_any (w : World) (f p many : Nat) (F : Nat → Bool) (hm : many ≤ 100000) (hc : ∀ w1, Chg [] w w1 → ∀ k, k < many → Calls Tryz.prog f #[.pointer (some ⟨p, 0, none⟩), .int .i64 k] w1 fun e w' => e = .returned (.bool (F k)) ∧ Chg [] w1 w')
    (eg : ∀ args w, (callFunc f args).run Tryz.prog w = .ok (.enter f args) w) :
    Calls Tryz.prog 104 #[.int .i64 many, .func (.func f) #[.pointer (some ⟨p, 0, none⟩)] #[]] w (ClonedInts w (pickL many F)) := by
  obtain ⟨i0, hin, hz0, hz1, hz2⟩ := info_parts Tryz.infoInt
  have H := Lib.hid hc
  clear hc
  go_enter Tryz.func104, Tryz.ntmps104
  go_wp2_with fail
  go_loopg [7, 4] many (fun d iv ov wr => ∃ (k : Nat) (a' : Option Addr) (c' q : Nat), d = many - k ∧ k ≤ many ∧ iv = .int .i64 k ∧ ov = .slice a' q c' ∧ Hid (Chg [] w wr ∧ FreshInts w.heap.size wr a' c' (pickL k F) ∧ q = (pickL k F).length))
  case atStart => exact ⟨0, none, 0, 0, rfl, Nat.zero_le _, rfl, rfl, Lib.hid ⟨Chg.refl _ _, World.ownsRow_nil _ _ _ _, rfl⟩⟩
  case round =>
    obtain ⟨k, a', c', q, rfl, hk, rfl, rfl, hin2⟩ := hrel
    obtain ⟨wq, rfl⟩ : ∃ wz, wz = wr := ⟨_, rfl⟩
    by_cases hlt : k < many
    · obtain ⟨r, hr⟩ : ∃ r, r = F k := ⟨_, rfl⟩
      have hcall := H.out wq hin2.out.1 k hlt
      rw [← hr] at hcall
      have HR := Lib.hid (And.intro hr hcall)
      clear hr hcall
      go_wp2_with fail
      refine HR.out.2.mono ?_
      rintro e w3 ⟨rfl, hc3⟩
      have H3 := Lib.hid hc3
      clear hc3
      cases r with
      | true =>
        have hrow3 := H3.out.row hin2.out.2.1 (fun _ _ => by simp)
        have h1' : ∀ u ∈ [Value.int .i64 (k : Int)], u.oneCell' = true := by simp [Value.oneCell']
        have hq := pickL_le k F
        have hqe := hin2.out.2.2
        have h2' : q + 1 ≤ maxLen ∧ (q + 1) * 8 ≤ 140737488355328 := by simp only [maxLen]; omega
        have hnew := cells_at (w := w3.alloc (.cells #[.int .i64 k] 3)) (heap_alloc_same _ _)
        have hsz := (hin2.out.1.tr H3.out).size
        rw [← hqe] at hrow3
        have H4 := Lib.hid (And.intro (World.ownsRow.alloc hrow3 (.cells #[.int .i64 k] 3)) (And.intro h1' (And.intro h2' (And.intro hnew (And.intro hsz ((hin2.out.1.tr H3.out).alloc (.cells #[.int .i64 k] 3)))))))
        clear hrow3 h1' h2' hnew hsz hq hqe
        go_wp2_with (at_builtin; refine wpList_append_own_at _ rfl _ _ 34 rfl w.heap.size 3 i0 _ 1 8 Tryz.underlying34 hin hz0 hz1 hz2 rfl (by decide) (.slice a' q c') q ((pickL k F).map (Value.int .i64)) rfl H4.out.1 ⟨w3.heap.size, 0, none⟩ 1 1 [.int .i64 k] rfl rfl H4.out.2.2.2.1 H4.out.2.1 H4.out.2.2.1.1 H4.out.2.2.1.2 (by have := H4.out.2.2.2.2.1; rw [World.size_alloc]; omega) ?_; intro v' w5 hr5 hg5 hn5 hb5; obtain ⟨a5, c5, rfl⟩ := ownsRow_slice hr5; have HW := Lib.hid (And.intro hr5 hg5); clear hr5 hg5 hn5 hb5)
        go_roundg (many - (k + 1))
        case measure => omega
        case rel =>
          have hnl : pickL (k + 1) F = pickL k F ++ [(k : Int)] := by rw [pickL_succ, ← HR.out.1]; rfl
          refine ⟨k + 1, a5, c5, q + 1, rfl, by omega, by go_num, rfl, Lib.hid ⟨?_, ?_, ?_⟩⟩
          · refine H4.out.2.2.2.2.2.grown HW.out.2 (fun i hi => .inr ?_)
            have := hin2.out.2.1
            rw [FreshInts, ← hin2.out.2.2] at this
            exact (row_beyond this hi).1
          · rw [FreshInts, hnl, List.length_append, ← hin2.out.2.2, List.map_append]
            exact HW.out.1
          · rw [hnl, List.length_append, ← hin2.out.2.2]; rfl
      | false =>
        go_wp2_with fail
        go_roundg (many - (k + 1))
        case measure => omega
        case rel =>
          have hnl : pickL (k + 1) F = pickL k F := by rw [pickL_succ, ← HR.out.1]; simp
          exact ⟨k + 1, a', c', q, rfl, by omega, by go_num, rfl, Lib.hid ⟨hin2.out.1.tr H3.out, by rw [hnl]; exact H3.out.row hin2.out.2.1 (fun _ _ => by simp), by rw [hnl]; exact hin2.out.2.2⟩⟩
    · obtain rfl : k = many := by omega
      go_wp2_with fail
      go_ret
      exact ⟨a', c', by rw [← hin2.out.2.2]; rfl, hin2.out.2.1, hin2.out.1⟩

set_option maxRecDepth 100000 in
set_option maxHeartbeats 2000000 in
theorem nullNodes_any (w : World) (a1 : Option Addr) (n1 c1 : Nat) (a2 : Option Addr) (n2 c2 : Nat) (g : Gr) (hg : GramAt w a1 n1 c1 a2 n2 c2 g) (hre : Reach g) :
    Calls Tryz.prog 73 #[.agg #[.slice a1 n1 c1, .slice a2 n2 c2]] w (ClonedInts w (nodesN g)) := by
  have he2 := hg.e2
  obtain ⟨A, hA⟩ : ∃ A, A = nodesN g := ⟨_, rfl⟩
  rw [← hA]
  have H := Lib.hid (And.intro hg (And.intro hre (And.intro he2 hA)))
  clear hg hre he2 hA
  go_enter Tryz.func73, Tryz.ntmps73
  obtain ⟨x0, x1⟩ := cells2 (heap_alloc_same w (.cells #[.slice a1 n1 c1, .slice a2 n2 c2] 31))
  go_wp2_with fail
  refine (ofNull_any _ a1 n1 c1 a2 n2 c2 g (H.out.1.keep ((Chg.refl [] w).alloc _).kp) H.out.2.1).mono ?_
  rintro e w2 ⟨hc2, hif⟩
  have hg2 := hc2.heap (heap_alloc_same w (.cells #[.slice a1 n1 c1, .slice a2 n2 c2] 31)) (by simp)
  have hcw := ((Chg.refl [] w).alloc _).tr0 hc2
  clear x0 x1 hc2
  obtain ⟨x0, x1⟩ := cells2 hg2
  cases hr : rightB g with
  | false =>
    rw [hr] at hif
    obtain rfl : e = _ := hif
    have e0 : nodesN g = [] := by simp [nodesN, hr]
    have e1 := H.out.2.2.2.trans e0
    subst e1
    have HC := Lib.hid hcw
    clear hcw hr hg2
    go_wp2_with fail
    go_ret
    exact ⟨none, 0, rfl, World.ownsRow_nil _ _ _ _, HC.out⟩
  | true =>
    rw [hr, if_pos rfl] at hif
    obtain ⟨B, R, m, rfl, hw⟩ := hif
    have e0 : nodesN g = pickL g.nodes.length (fun n => mayG g n) := by simp [nodesN, hr]
    have e1 := H.out.2.2.2.trans e0
    subst e1
    have hwhich := which2_any w2 105 B n2 (fun n => mayG g n) (by have := (right_sizes hr).2.2; have := H.out.2.2.1; omega)
      (fun w1 h1 k hk => by
        have h2 := may_any B R m a1 n1 c1 a2 n2 c2 g _ (falls_right hr) (by rw [hw.gram.e1]; exact right_calls hr) g.nodes.length k (by omega) (by have := H.out.2.2.1; omega) w1 (hw.chg h1)
        rw [callsL_end] at h2
        exact h2) (enters_of Tryz.func105 (by kernel_rfl) rfl)
    have HC := Lib.hid (And.intro hcw hwhich)
    clear hcw hr hg2 hw hwhich
    go_wp2_with fail
    refine HC.out.2.mono ?_
    rintro e w3 ⟨a', c', rfl, hf, hc3⟩
    have H3 := Lib.hid (And.intro hf hc3)
    clear hf hc3
    go_wp2_with fail
    go_ret
    obtain ⟨hf, hc3⟩ := H3.out
    rw [H.out.2.2.1] at hf
    exact ⟨a', c', by rw [H.out.2.2.1]; rfl, row_base hf HC.out.1.size, HC.out.1.tr hc3⟩
end Go.Proofs.YtlklmpjakeedcaaGreatDoor
set_option linter.unusedVariables false
set_option linter.unusedSimpArgs false
namespace Go.Proofs.YtlklmpjakeedcaaGreatDoor
open Go.RowKit Go.MapKept Go.Shelf

/-! ### Rows of truths -/
def rowB (bs : List Bool) : Obj := .cells (bs.map Value.bool).toArray 4 (0, 0)
theorem Tryz.infoBool : (Tryz.prog.info? 4).map (fun i => (i.zero, i.size, i.bytes)) = some (some (.bool false), 1, 1) := by kernel_rfl
theorem run_falses (n : Nat) (hn : n ≤ 1099511627776) (w : World) : (Instr.makeSlice 108 (.int .i64 n) (.int .i64 n)).run Tryz.prog w = .ok (.slice (some ⟨w.heap.size, 0, none⟩) n n) (w.alloc (rowB (List.replicate n false))) := by
  obtain ⟨i0, hi, hz0, hz1, hz2⟩ := info_parts Tryz.infoBool
  have h1 := run_make (P := Tryz.prog) w 108 4 i0 (.bool false) Tryz.underlying108 hi hz0 .i64 .i64 n n (by omega) (by omega) (by rw [hz2]; omega) (by omega)
  rw [h1]
  simp only [Int.toNat_natCast, hz1, rowB]
  have : madeCells (Value.bool false).cells (n * 1) = (List.map Value.bool (List.replicate n false)).toArray := by
    apply Array.ext
    · simp [madeCells]
    · intro i h1 h2
      simp [madeCells, Value.cells, Nat.mod_one]
  rw [this]
theorem rowB_cell {w : World} {b i : Nat} {bs : List Bool} {x : Bool} (h : w.heap[b]? = some (rowB bs)) (hx : bs[i]? = some x) : w.cell? ⟨b, i, none⟩ = some (.bool x) := by
  rw [cell_of_cells h]
  simp [hx]
theorem rowB_free {w : World} {b : Nat} {bs : List Bool} (h : w.heap[b]? = some (rowB bs)) (i : Nat) : w.frozen? ⟨b, i, none⟩ = false := free_of_cells h i
theorem rowB_set {w : World} {b i : Nat} {bs : List Bool} (x : Bool) (h : w.heap[b]? = some (rowB bs)) : (w.setCell ⟨b, i, none⟩ (.bool x)).heap[b]? = some (rowB (bs.set i x)) := by
  rw [heap_setCell_same h]
  simp [rowB, List.map_set]

/-! ### Which are told -/
/-- What the first k of the told nodes say. -/
def toldAt (g : Gr) (k : Nat) : List Bool := (List.range g.nodes.length).map fun (j : Nat) => decide ((j : Int) ∈ (nodesN g).take k)
theorem toldAt_len (g : Gr) (k : Nat) : (toldAt g k).length = g.nodes.length := by simp [toldAt]
theorem toldAt_zero (g : Gr) : toldAt g 0 = List.replicate g.nodes.length false := by
  apply List.ext_getElem
  · simp [toldAt]
  · intro j h1 h2; simp [toldAt]
theorem nodesN_at {g : Gr} {k : Nat} {z : Int} (h : (nodesN g)[k]? = some z) : ∃ q : Nat, z = q ∧ q < g.nodes.length := by
  have h1 := List.mem_of_getElem? h
  unfold nodesN at h1
  split at h1
  · simp only [pickL, List.mem_map, List.mem_filter, List.mem_range] at h1
    obtain ⟨q, ⟨h2, _⟩, rfl⟩ := h1
    exact ⟨q, rfl, h2⟩
  · cases h1
theorem toldAt_succ {g : Gr} {k q : Nat} (h : (nodesN g)[k]? = some (q : Int)) : toldAt g (k + 1) = (toldAt g k).set q true := by
  apply List.ext_getElem
  · simp [toldAt]
  · intro i h1 h2
    rw [List.getElem_set]
    simp only [toldAt, List.getElem_map, List.getElem_range, List.take_add_one, h, Option.toList_some, List.mem_append, List.mem_singleton]
    by_cases hq : q = i
    · subst hq
      rw [if_pos rfl]; simp
    · rw [if_neg hq]
      have : ¬ ((i : Int) = (q : Int)) := by omega
      simp [this]
end Go.Proofs.YtlklmpjakeedcaaGreatDoor

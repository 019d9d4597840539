/-
  What may match nothing: a node, a rule, a rank, all rules, all nodes.
  Conditions: the grammar reads as data, within the reach.
-/
import Derived.Test.YtibgfgfmljhimaaGreatQNuD
set_option linter.unusedVariables false
set_option linter.unusedSimpArgs false
namespace Go.Proofs.YtibgfgfmljhimaaGreat
open Go.RowKit Go.MapKept Go.Shelf

/-! ### The answers -/
def rankI (g : Gr) (i : Int) : Int := if rightB g = true ∧ 0 ≤ i ∧ i < g.rules.length then (rankG g i.toNat : Int) else 0
def nodeI (g : Gr) (n : Int) : Bool := rightB g && (decide (0 ≤ n) && (decide (n < g.nodes.length) && mayG g n))
def pickL (n : Nat) (F : Nat → Bool) : List Int := ((List.range n).filter F).map fun (i : Nat) => (i : Int)
theorem pickL_succ (n : Nat) (F : Nat → Bool) : pickL (n + 1) F = pickL n F ++ if F n then [(n : Int)] else [] := by
  simp only [pickL, List.range_succ, List.filter_append, List.map_append]
  congr 1
  by_cases h : F n <;> simp [h]
theorem pickL_le (n : Nat) (F : Nat → Bool) : (pickL n F).length ≤ n := by
  have := List.length_filter_le F (List.range n)
  simpa [pickL] using this
def rulesN (g : Gr) : List Int := if rightB g then pickL g.rules.length (fun i => decide (0 < rankG g i)) else []
def nodesN (g : Gr) : List Int := if rightB g then pickL g.nodes.length (fun n => mayG g n) else []
theorem callsL_end (g : Gr) : mayN g.nodes (callsL (ranksL g g.rules.length)) = mayG g := by rw [callsL_ranks]; rfl

set_option maxRecDepth 100000 in
set_option maxHeartbeats 2000000 in
theorem which1_any (w : World) (f p many : Nat) (F : Nat → Bool) (hm : many ≤ 100000) (hc : ∀ w1, Chg [] w w1 → ∀ k, k < many → Calls Tryz.prog f #[.int .i64 k, .pointer (some ⟨p, 0, none⟩)] w1 fun e w' => e = .returned (.bool (F k)) ∧ Chg [] w1 w')
    (eg : ∀ args w, (callFunc f args).run Tryz.prog w = .ok (.enter f args) w) :
    Calls Tryz.prog 83 #[.int .i64 many, .func (.func f) #[] #[.pointer (some ⟨p, 0, none⟩)]] w (ClonedInts w (pickL many F)) := by
  obtain ⟨i0, hin, hz0, hz1, hz2⟩ := info_parts Tryz.infoInt
  have H := Lib.hid hc
  clear hc
  go_enter Tryz.func83, Tryz.ntmps83
  go_wp2_with fail
  go_loopg [7, 4] many (fun d iv ov wr => ∃ (k : Nat) (a' : Option Addr) (c' q : Nat), d = many - k ∧ k ≤ many ∧ iv = .int .i64 k ∧ ov = .slice a' q c' ∧ Hid (Chg [] w wr ∧ FreshInts w.heap.size wr a' c' (pickL k F) ∧ q = (pickL k F).length))
  case atStart => exact ⟨0, none, 0, 0, rfl, Nat.zero_le _, rfl, rfl, Lib.hid ⟨Chg.refl _ _, World.ownsRow_nil _ _ _ _, rfl⟩⟩
  case round =>
    obtain ⟨k, a', c', q, rfl, hk, rfl, rfl, hin2⟩ := hrel
    obtain ⟨wq, rfl⟩ : ∃ wz, wz = wr := ⟨_, rfl⟩
    by_cases hlt : k < many
    · obtain ⟨r, hr⟩ : ∃ r, r = F k := ⟨_, rfl⟩
      have hcall := H.out wq hin2.out.1 k hlt
      rw [← hr] at hcall
      have HR := Lib.hid (And.intro hr hcall)
      clear hr hcall
      go_wp2_with fail
      refine HR.out.2.mono ?_
      rintro e w3 ⟨rfl, hc3⟩
      have H3 := Lib.hid hc3
      clear hc3
      cases r with
      | true =>
        have hrow3 := H3.out.row hin2.out.2.1 (fun _ _ => by simp)
        have h1' : ∀ u ∈ [Value.int .i64 (k : Int)], u.oneCell' = true := by simp [Value.oneCell']
        have hq := pickL_le k F
        have hqe := hin2.out.2.2
        have h2' : q + 1 ≤ maxLen ∧ (q + 1) * 8 ≤ 140737488355328 := by simp only [maxLen]; omega
        have hnew := cells_at (w := w3.alloc (.cells #[.int .i64 k] 3)) (heap_alloc_same _ _)
        have hsz := (hin2.out.1.tr H3.out).size
        rw [← hqe] at hrow3
        have H4 := Lib.hid (And.intro (World.ownsRow.alloc hrow3 (.cells #[.int .i64 k] 3)) (And.intro h1' (And.intro h2' (And.intro hnew (And.intro hsz ((hin2.out.1.tr H3.out).alloc (.cells #[.int .i64 k] 3)))))))
        clear hrow3 h1' h2' hnew hsz hq hqe
        go_wp2_with (at_builtin; refine wpList_append_own_at _ rfl _ _ 48 rfl w.heap.size 3 i0 _ 1 8 Tryz.underlying48 hin hz0 hz1 hz2 rfl (by decide) (.slice a' q c') q ((pickL k F).map (Value.int .i64)) rfl H4.out.1 ⟨w3.heap.size, 0, none⟩ 1 1 [.int .i64 k] rfl rfl H4.out.2.2.2.1 H4.out.2.1 H4.out.2.2.1.1 H4.out.2.2.1.2 (by have := H4.out.2.2.2.2.1; rw [World.size_alloc]; omega) ?_; intro v' w5 hr5 hg5 hn5 hb5; obtain ⟨a5, c5, rfl⟩ := ownsRow_slice hr5; have HW := Lib.hid (And.intro hr5 hg5); clear hr5 hg5 hn5 hb5)
        go_roundg (many - (k + 1))
        case measure => omega
        case rel =>
          have hnl : pickL (k + 1) F = pickL k F ++ [(k : Int)] := by rw [pickL_succ, ← HR.out.1]; rfl
          refine ⟨k + 1, a5, c5, q + 1, rfl, by omega, by go_num, rfl, Lib.hid ⟨?_, ?_, ?_⟩⟩
          · refine H4.out.2.2.2.2.2.grown HW.out.2 (fun i hi => .inr ?_)
            have := hin2.out.2.1
            rw [FreshInts, ← hin2.out.2.2] at this
            exact (row_beyond this hi).1
          · rw [FreshInts, hnl, List.length_append, ← hin2.out.2.2, List.map_append]
            exact HW.out.1
          · rw [hnl, List.length_append, ← hin2.out.2.2]; rfl
      | false =>
        go_wp2_with fail
        go_roundg (many - (k + 1))
        case measure => omega
        case rel =>
          have hnl : pickL (k + 1) F = pickL k F := by rw [pickL_succ, ← HR.out.1]; simp
          exact ⟨k + 1, a', c', q, rfl, by omega, by go_num, rfl, Lib.hid ⟨hin2.out.1.tr H3.out, by rw [hnl]; exact H3.out.row hin2.out.2.1 (fun _ _ => by simp), by rw [hnl]; exact hin2.out.2.2⟩⟩
    · obtain rfl : k = many := by omega
      go_wp2_with fail
      go_ret
      exact ⟨a', c', by rw [← hin2.out.2.2]; rfl, hin2.out.2.1, hin2.out.1⟩

set_option maxRecDepth 100000 in
set_option maxHeartbeats 2000000 in
theorem which2_any (w : World) (f p many : Nat) (F : Nat → Bool) (hm : many ≤ 100000) (hc : ∀ w1, Chg [] w w1 → ∀ k, k < many → Calls Tryz.prog f #[.pointer (some ⟨p, 0, none⟩), .int .i64 k] w1 fun e w' => e = .returned (.bool (F k)) ∧ Chg [] w1 w')
    (eg : ∀ args w, (callFunc f args).run Tryz.prog w = .ok (.enter f args) w) :
    Calls Tryz.prog 83 #[.int .i64 many, .func (.func f) #[.pointer (some ⟨p, 0, none⟩)] #[]] w (ClonedInts w (pickL many F)) := by
  obtain ⟨i0, hin, hz0, hz1, hz2⟩ := info_parts Tryz.infoInt
  have H := Lib.hid hc
  clear hc
  go_enter Tryz.func83, Tryz.ntmps83
  go_wp2_with fail
  go_loopg [7, 4] many (fun d iv ov wr => ∃ (k : Nat) (a' : Option Addr) (c' q : Nat), d = many - k ∧ k ≤ many ∧ iv = .int .i64 k ∧ ov = .slice a' q c' ∧ Hid (Chg [] w wr ∧ FreshInts w.heap.size wr a' c' (pickL k F) ∧ q = (pickL k F).length))
  case atStart => exact ⟨0, none, 0, 0, rfl, Nat.zero_le _, rfl, rfl, Lib.hid ⟨Chg.refl _ _, World.ownsRow_nil _ _ _ _, rfl⟩⟩
  case round =>
    obtain ⟨k, a', c', q, rfl, hk, rfl, rfl, hin2⟩ := hrel
    obtain ⟨wq, rfl⟩ : ∃ wz, wz = wr := ⟨_, rfl⟩
    by_cases hlt : k < many
    · obtain ⟨r, hr⟩ : ∃ r, r = F k := ⟨_, rfl⟩
      have hcall := H.out wq hin2.out.1 k hlt
      rw [← hr] at hcall
      have HR := Lib.hid (And.intro hr hcall)
      clear hr hcall
      go_wp2_with fail
      refine HR.out.2.mono ?_
      rintro e w3 ⟨rfl, hc3⟩
      have H3 := Lib.hid hc3
      clear hc3
      cases r with
      | true =>
        have hrow3 := H3.out.row hin2.out.2.1 (fun _ _ => by simp)
        have h1' : ∀ u ∈ [Value.int .i64 (k : Int)], u.oneCell' = true := by simp [Value.oneCell']
        have hq := pickL_le k F
        have hqe := hin2.out.2.2
        have h2' : q + 1 ≤ maxLen ∧ (q + 1) * 8 ≤ 140737488355328 := by simp only [maxLen]; omega
        have hnew := cells_at (w := w3.alloc (.cells #[.int .i64 k] 3)) (heap_alloc_same _ _)
        have hsz := (hin2.out.1.tr H3.out).size
        rw [← hqe] at hrow3
        have H4 := Lib.hid (And.intro (World.ownsRow.alloc hrow3 (.cells #[.int .i64 k] 3)) (And.intro h1' (And.intro h2' (And.intro hnew (And.intro hsz ((hin2.out.1.tr H3.out).alloc (.cells #[.int .i64 k] 3)))))))
        clear hrow3 h1' h2' hnew hsz hq hqe
        go_wp2_with (at_builtin; refine wpList_append_own_at _ rfl _ _ 48 rfl w.heap.size 3 i0 _ 1 8 Tryz.underlying48 hin hz0 hz1 hz2 rfl (by decide) (.slice a' q c') q ((pickL k F).map (Value.int .i64)) rfl H4.out.1 ⟨w3.heap.size, 0, none⟩ 1 1 [.int .i64 k] rfl rfl H4.out.2.2.2.1 H4.out.2.1 H4.out.2.2.1.1 H4.out.2.2.1.2 (by have := H4.out.2.2.2.2.1; rw [World.size_alloc]; omega) ?_; intro v' w5 hr5 hg5 hn5 hb5; obtain ⟨a5, c5, rfl⟩ := ownsRow_slice hr5; have HW := Lib.hid (And.intro hr5 hg5); clear hr5 hg5 hn5 hb5)
        go_roundg (many - (k + 1))
        case measure => omega
        case rel =>
          have hnl : pickL (k + 1) F = pickL k F ++ [(k : Int)] := by rw [pickL_succ, ← HR.out.1]; rfl
          refine ⟨k + 1, a5, c5, q + 1, rfl, by omega, by go_num, rfl, Lib.hid ⟨?_, ?_, ?_⟩⟩
          · refine H4.out.2.2.2.2.2.grown HW.out.2 (fun i hi => .inr ?_)
            have := hin2.out.2.1
            rw [FreshInts, ← hin2.out.2.2] at this
            exact (row_beyond this hi).1
          · rw [FreshInts, hnl, List.length_append, ← hin2.out.2.2, List.map_append]
            exact HW.out.1
          · rw [hnl, List.length_append, ← hin2.out.2.2]; rfl
      | false =>
        go_wp2_with fail
        go_roundg (many - (k + 1))
        case measure => omega
        case rel =>
          have hnl : pickL (k + 1) F = pickL k F := by rw [pickL_succ, ← HR.out.1]; simp
          exact ⟨k + 1, a', c', q, rfl, by omega, by go_num, rfl, Lib.hid ⟨hin2.out.1.tr H3.out, by rw [hnl]; exact H3.out.row hin2.out.2.1 (fun _ _ => by simp), by rw [hnl]; exact hin2.out.2.2⟩⟩
    · obtain rfl : k = many := by omega
      go_wp2_with fail
      go_ret
      exact ⟨a', c', by rw [← hin2.out.2.2]; rfl, hin2.out.2.1, hin2.out.1⟩

set_option maxRecDepth 100000 in
set_option maxHeartbeats 2000000 in
theorem rules1_any (w : World) (Bp B R m : Nat) (a1 : Option Addr) (n1 c1 : Nat) (a2 : Option Addr) (n2 c2 : Nat) (g : Gr) (hp : w.heap[Bp]? = some (.cells #[.pointer (some ⟨B, 0, none⟩)] 77 (0, 0))) (hw : WorkAt w B R m a1 n1 c1 a2 n2 c2 g (ranksL g g.rules.length)) (k : Nat) (hk : k < g.rules.length) :
    Calls Tryz.prog 86 #[.int .i64 k, .pointer (some ⟨Bp, 0, none⟩)] w fun e w' => e = .returned (.bool (decide (0 < rankG g k))) ∧ Chg [] w w' := by
  have p0 := cells1 hp
  have b2 := cell_of_cells hw.box 2
  simp at b2
  have hr := row_cell hw.row (i := k) (x := (rankG g k : Int)) (ranksL_at g _ hk)
  have hkn : k < n1 := by rw [hw.gram.e1]; exact hk
  obtain ⟨z, hz⟩ : ∃ z, z = rankG g k := ⟨_, rfl⟩
  rw [← hz] at hr ⊢
  clear hw hp hz hk
  go_enter Tryz.func86, Tryz.ntmps86
  go_wp2_with fail
  go_ret
  exact ⟨ret_bool (by simp), Chg.refl _ _⟩

set_option maxRecDepth 100000 in
set_option maxHeartbeats 2000000 in
theorem nullRank_any (w : World) (a1 : Option Addr) (n1 c1 : Nat) (a2 : Option Addr) (n2 c2 : Nat) (g : Gr) (hg : GramAt w a1 n1 c1 a2 n2 c2 g) (hre : Reach g) (i : Int) :
    Calls Tryz.prog 37 #[.agg #[.slice a1 n1 c1, .slice a2 n2 c2], .int .i64 i] w fun e w' => e = .returned (.int .i64 (rankI g i)) ∧ Chg [] w w' := by
  have he1 := hg.e1
  obtain ⟨A, hA⟩ : ∃ A, A = rankI g i := ⟨_, rfl⟩
  rw [← hA]
  have H := Lib.hid (And.intro hg (And.intro hre (And.intro he1 hA)))
  clear hg hre he1 hA
  go_enter Tryz.func37, Tryz.ntmps37
  obtain ⟨x0, x1⟩ := cells2 (heap_alloc_same w (.cells #[.slice a1 n1 c1, .slice a2 n2 c2] 25))
  go_wp2_with fail
  refine (ofNull_any _ a1 n1 c1 a2 n2 c2 g (H.out.1.keep ((Chg.refl [] w).alloc _).kp) H.out.2.1).mono ?_
  rintro e w2 ⟨hc2, hif⟩
  have hg2 := hc2.heap (heap_alloc_same w (.cells #[.slice a1 n1 c1, .slice a2 n2 c2] 25)) (by simp)
  have hcw := ((Chg.refl [] w).alloc _).tr0 hc2
  clear x0 x1 hc2
  obtain ⟨x0, x1⟩ := cells2 hg2
  cases hr : rightB g with
  | false =>
    rw [hr] at hif
    obtain rfl : e = _ := hif
    have e0 : rankI g i = 0 := by simp [rankI, hr]
    have e1 := H.out.2.2.2.trans e0
    subst e1
    have HC := Lib.hid hcw
    clear hcw hr hg2
    go_wp2_with fail
    go_ret
    exact ⟨rfl, HC.out⟩
  | true =>
    rw [hr, if_pos rfl] at hif
    obtain ⟨B, R, m, rfl, hw⟩ := hif
    by_cases hi : 0 ≤ i ∧ i < n1
    · obtain ⟨k, rfl⟩ : ∃ k : Nat, i = k := ⟨i.toNat, by omega⟩
      have hkl : k < g.rules.length := by have := H.out.2.2.1; omega
      have e0 : rankI g k = (rankG g k : Int) := by simp [rankI, hr, hkl]
      have e1 := H.out.2.2.2.trans e0
      have b2 := cell_of_cells hw.box 2
      simp at b2
      have hrk := row_cell hw.row (i := k) (x := (rankG g k : Int)) (ranksL_at g _ hkl)
      obtain ⟨z, hz⟩ : ∃ z, z = rankG g k := ⟨_, rfl⟩
      rw [← hz] at hrk e1
      subst e1
      have hkn : k < n1 := by omega
      have HC := Lib.hid hcw
      clear hcw hr hg2 hw hz hkl hi
      go_wp2_with fail
      go_ret
      exact ⟨rfl, HC.out⟩
    · have e0 : rankI g i = 0 := by
        rw [rankI, if_neg]
        rintro ⟨_, h⟩
        rw [← H.out.2.2.1] at h
        exact hi h
      have e1 := H.out.2.2.2.trans e0
      subst e1
      have HC := Lib.hid hcw
      clear hcw hr hg2 hw
      by_cases hi0 : i < 0
      · go_wp2_with fail
        go_ret
        exact ⟨rfl, HC.out⟩
      · have hi1 : (n1 : Int) ≤ i := by omega
        go_wp2_with fail
        go_ret
        exact ⟨rfl, HC.out⟩

set_option maxRecDepth 100000 in
set_option maxHeartbeats 2000000 in
theorem nullRule_any (w : World) (a1 : Option Addr) (n1 c1 : Nat) (a2 : Option Addr) (n2 c2 : Nat) (g : Gr) (hg : GramAt w a1 n1 c1 a2 n2 c2 g) (hre : Reach g) (i : Int) :
    Calls Tryz.prog 38 #[.agg #[.slice a1 n1 c1, .slice a2 n2 c2], .int .i64 i] w fun e w' => e = .returned (.bool (decide (0 < rankI g i))) ∧ Chg [] w w' := by
  have H := Lib.hid (And.intro hg hre)
  clear hg hre
  go_enter Tryz.func38, Tryz.ntmps38
  obtain ⟨x0, x1⟩ := cells2 (heap_alloc_same w (.cells #[.slice a1 n1 c1, .slice a2 n2 c2] 25))
  go_wp2_with fail
  refine (nullRank_any _ a1 n1 c1 a2 n2 c2 g (H.out.1.keep ((Chg.refl [] w).alloc _).kp) H.out.2 i).mono ?_
  rintro e w2 ⟨rfl, hc2⟩
  have HC := Lib.hid (((Chg.refl [] w).alloc _).tr0 hc2)
  clear hc2 x0 x1
  go_wp2_with fail
  go_ret
  exact ⟨rfl, HC.out⟩

set_option maxRecDepth 100000 in
set_option maxHeartbeats 2000000 in
theorem nullNode_any (w : World) (a1 : Option Addr) (n1 c1 : Nat) (a2 : Option Addr) (n2 c2 : Nat) (g : Gr) (hg : GramAt w a1 n1 c1 a2 n2 c2 g) (hre : Reach g) (n : Int) :
    Calls Tryz.prog 39 #[.agg #[.slice a1 n1 c1, .slice a2 n2 c2], .int .i64 n] w fun e w' => e = .returned (.bool (nodeI g n)) ∧ Chg [] w w' := by
  have he2 := hg.e2
  obtain ⟨A, hA⟩ : ∃ A, A = nodeI g n := ⟨_, rfl⟩
  rw [← hA]
  have H := Lib.hid (And.intro hg (And.intro hre (And.intro he2 hA)))
  clear hg hre he2 hA
  go_enter Tryz.func39, Tryz.ntmps39
  obtain ⟨x0, x1⟩ := cells2 (heap_alloc_same w (.cells #[.slice a1 n1 c1, .slice a2 n2 c2] 25))
  go_wp2_with fail
  refine (ofNull_any _ a1 n1 c1 a2 n2 c2 g (H.out.1.keep ((Chg.refl [] w).alloc _).kp) H.out.2.1).mono ?_
  rintro e w2 ⟨hc2, hif⟩
  have hg2 := hc2.heap (heap_alloc_same w (.cells #[.slice a1 n1 c1, .slice a2 n2 c2] 25)) (by simp)
  have hcw := ((Chg.refl [] w).alloc _).tr0 hc2
  clear x0 x1 hc2
  obtain ⟨x0, x1⟩ := cells2 hg2
  cases hr : rightB g with
  | false =>
    rw [hr] at hif
    obtain rfl : e = _ := hif
    have e0 : nodeI g n = false := by simp [nodeI, hr]
    have e1 := H.out.2.2.2.trans e0
    subst e1
    have HC := Lib.hid hcw
    clear hcw hr hg2
    go_wp2_with fail
    go_ret
    exact ⟨rfl, HC.out⟩
  | true =>
    rw [hr, if_pos rfl] at hif
    obtain ⟨B, R, m, rfl, hw⟩ := hif
    by_cases hi : 0 ≤ n ∧ n < n2
    · obtain ⟨k, rfl⟩ : ∃ k : Nat, n = k := ⟨n.toNat, by omega⟩
      have hkl : k < g.nodes.length := by have := H.out.2.2.1; omega
      have e0 : nodeI g k = mayG g k := by simp [nodeI, hr, hkl]
      have e1 := H.out.2.2.2.trans e0
      have hcall := may_any B R m a1 n1 c1 a2 n2 c2 g _ (falls_right hr) (by rw [hw.gram.e1]; exact right_calls hr) g.nodes.length k (by omega) hkl w2 hw
      rw [callsL_end] at hcall
      obtain ⟨z, hz⟩ : ∃ z, z = mayG g k := ⟨_, rfl⟩
      rw [← hz] at hcall e1
      subst e1
      have hkn : k < n2 := by omega
      have HC := Lib.hid (And.intro hcw hcall)
      clear hcw hr hg2 hw hz hkl hi hcall
      go_wp2_with fail
      refine HC.out.2.mono ?_
      rintro e w3 ⟨rfl, hc3⟩
      have H3 := Lib.hid hc3
      clear hc3
      go_wp2_with fail
      go_ret
      exact ⟨rfl, HC.out.1.tr H3.out⟩
    · have e0 : nodeI g n = false := by
        rw [nodeI, hr, ← H.out.2.2.1]
        by_cases h1 : 0 ≤ n
        · have : ¬ n < (n2 : Int) := fun h => hi ⟨h1, h⟩
          simp [this]
        · simp [h1]
      have e1 := H.out.2.2.2.trans e0
      subst e1
      have HC := Lib.hid hcw
      clear hcw hr hg2 hw
      by_cases hi0 : n < 0
      · go_wp2_with fail
        go_ret
        exact ⟨rfl, HC.out⟩
      · have hi1 : (n2 : Int) ≤ n := by omega
        go_wp2_with fail
        go_ret
        exact ⟨rfl, HC.out⟩

set_option maxRecDepth 100000 in
set_option maxHeartbeats 2000000 in
theorem nullRules_any (w : World) (a1 : Option Addr) (n1 c1 : Nat) (a2 : Option Addr) (n2 c2 : Nat) (g : Gr) (hg : GramAt w a1 n1 c1 a2 n2 c2 g) (hre : Reach g) :
    Calls Tryz.prog 42 #[.agg #[.slice a1 n1 c1, .slice a2 n2 c2]] w (ClonedInts w (rulesN g)) := by
  have he1 := hg.e1
  obtain ⟨A, hA⟩ : ∃ A, A = rulesN g := ⟨_, rfl⟩
  rw [← hA]
  have H := Lib.hid (And.intro hg (And.intro hre (And.intro he1 hA)))
  clear hg hre he1 hA
  go_enter Tryz.func42, Tryz.ntmps42
  obtain ⟨x0, x1⟩ := cells2 (heap_alloc_same w (.cells #[.slice a1 n1 c1, .slice a2 n2 c2] 25))
  go_wp2_with fail
  refine (ofNull_any _ a1 n1 c1 a2 n2 c2 g (H.out.1.keep ((Chg.refl [] w).alloc _).kp) H.out.2.1).mono ?_
  rintro e w2 ⟨hc2, hif⟩
  have hg2 := hc2.heap (heap_alloc_same w (.cells #[.slice a1 n1 c1, .slice a2 n2 c2] 25)) (by simp)
  have hcw := ((Chg.refl [] w).alloc _).tr0 hc2
  clear x0 x1 hc2
  cases hr : rightB g with
  | false =>
    rw [hr] at hif
    obtain rfl : e = _ := hif
    have e0 : rulesN g = [] := by simp [rulesN, hr]
    have e1 := H.out.2.2.2.trans e0
    subst e1
    have HC := Lib.hid hcw
    clear hcw hr hg2
    go_wp2_with fail
    go_ret
    exact ⟨none, 0, rfl, World.ownsRow_nil _ _ _ _, HC.out.alloc _⟩
  | true =>
    rw [hr, if_pos rfl] at hif
    obtain ⟨B, R, m, rfl, hw⟩ := hif
    have e0 : rulesN g = pickL g.rules.length (fun i => decide (0 < rankG g i)) := by simp [rulesN, hr]
    have e1 := H.out.2.2.2.trans e0
    subst e1
    have hc3 := (Chg.refl [] w2).alloc (.cells #[.pointer (some ⟨B, 0, none⟩)] 77)
    have hwhich := which1_any (w2.alloc (.cells #[.pointer (some ⟨B, 0, none⟩)] 77)) 86 w2.heap.size n1 (fun i => decide (0 < rankG g i)) (by have := (right_sizes hr).2.1; have := H.out.2.2.1; omega)
      (fun w1 h1 k hk => rules1_any w1 w2.heap.size B R m a1 n1 c1 a2 n2 c2 g (h1.heap (heap_alloc_same _ _) (by simp)) (hw.chg (hc3.tr h1)) k (by have := H.out.2.2.1; omega)) (enters_of Tryz.func86 (by kernel_rfl) rfl)
    obtain ⟨x0, x1⟩ := cells2 (hc3.heap hg2 (by simp))
    obtain ⟨y0, y1⟩ := cells2 hg2
    have hb := lt_of_block hg2
    have HC := Lib.hid (And.intro hcw hwhich)
    clear hcw hr hg2 hw hc3 hwhich
    go_wp2_with fail
    refine HC.out.2.mono ?_
    rintro e w3 ⟨a', c', rfl, hf, hc3⟩
    have H3 := Lib.hid (And.intro hf hc3)
    clear hf hc3
    go_wp2_with fail
    go_ret
    obtain ⟨hf, hc3⟩ := H3.out
    rw [H.out.2.2.1] at hf
    refine ⟨a', c', by rw [H.out.2.2.1]; rfl, row_base hf (by have := HC.out.1.size; simp; omega), (HC.out.1.alloc _).tr0 hc3⟩

set_option maxRecDepth 100000 in
set_option maxHeartbeats 2000000 in
theorem nullNodes_any (w : World) (a1 : Option Addr) (n1 c1 : Nat) (a2 : Option Addr) (n2 c2 : Nat) (g : Gr) (hg : GramAt w a1 n1 c1 a2 n2 c2 g) (hre : Reach g) :
    Calls Tryz.prog 40 #[.agg #[.slice a1 n1 c1, .slice a2 n2 c2]] w (ClonedInts w (nodesN g)) := by
  have he2 := hg.e2
  obtain ⟨A, hA⟩ : ∃ A, A = nodesN g := ⟨_, rfl⟩
  rw [← hA]
  have H := Lib.hid (And.intro hg (And.intro hre (And.intro he2 hA)))
  clear hg hre he2 hA
  go_enter Tryz.func40, Tryz.ntmps40
  obtain ⟨x0, x1⟩ := cells2 (heap_alloc_same w (.cells #[.slice a1 n1 c1, .slice a2 n2 c2] 25))
  go_wp2_with fail
  refine (ofNull_any _ a1 n1 c1 a2 n2 c2 g (H.out.1.keep ((Chg.refl [] w).alloc _).kp) H.out.2.1).mono ?_
  rintro e w2 ⟨hc2, hif⟩
  have hg2 := hc2.heap (heap_alloc_same w (.cells #[.slice a1 n1 c1, .slice a2 n2 c2] 25)) (by simp)
  have hcw := ((Chg.refl [] w).alloc _).tr0 hc2
  clear x0 x1 hc2
  obtain ⟨x0, x1⟩ := cells2 hg2
  cases hr : rightB g with
  | false =>
    rw [hr] at hif
    obtain rfl : e = _ := hif
    have e0 : nodesN g = [] := by simp [nodesN, hr]
    have e1 := H.out.2.2.2.trans e0
    subst e1
    have HC := Lib.hid hcw
    clear hcw hr hg2
    go_wp2_with fail
    go_ret
    exact ⟨none, 0, rfl, World.ownsRow_nil _ _ _ _, HC.out⟩
  | true =>
    rw [hr, if_pos rfl] at hif
    obtain ⟨B, R, m, rfl, hw⟩ := hif
    have e0 : nodesN g = pickL g.nodes.length (fun n => mayG g n) := by simp [nodesN, hr]
    have e1 := H.out.2.2.2.trans e0
    subst e1
    have hwhich := which2_any w2 82 B n2 (fun n => mayG g n) (by have := (right_sizes hr).2.2; have := H.out.2.2.1; omega)
      (fun w1 h1 k hk => by
        have h2 := may_any B R m a1 n1 c1 a2 n2 c2 g _ (falls_right hr) (by rw [hw.gram.e1]; exact right_calls hr) g.nodes.length k (by omega) (by have := H.out.2.2.1; omega) w1 (hw.chg h1)
        rw [callsL_end] at h2
        exact h2) (enters_of Tryz.func82 (by kernel_rfl) rfl)
    have HC := Lib.hid (And.intro hcw hwhich)
    clear hcw hr hg2 hw hwhich
    go_wp2_with fail
    refine HC.out.2.mono ?_
    rintro e w3 ⟨a', c', rfl, hf, hc3⟩
    have H3 := Lib.hid (And.intro hf hc3)
    clear hf hc3
    go_wp2_with fail
    go_ret
    obtain ⟨hf, hc3⟩ := H3.out
    rw [H.out.2.2.1] at hf
    exact ⟨a', c', by rw [H.out.2.2.1]; rfl, row_base hf HC.out.1.size, HC.out.1.tr hc3⟩
end Go.Proofs.YtibgfgfmljhimaaGreat

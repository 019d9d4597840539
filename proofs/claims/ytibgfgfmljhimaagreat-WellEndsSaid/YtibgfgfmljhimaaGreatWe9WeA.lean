/-
  What may match nothing: a node, a rule, a rank, all rules, all nodes.
  Conditions: the grammar reads as data, within the reach.
-/
import Derived.Test.YtibgfgfmljhimaaGreatWe9NuD
import Derived.Test.YtibgfgfmljhimaaGreatWe9GAft
set_option linter.unusedVariables false
set_option linter.unusedSimpArgs false
namespace Go.Proofs.YtibgfgfmljhimaaGreat
open Go.RowKit Go.MapKept Go.Shelf

/-! ### The answers -/
def pickL (n : Nat) (F : Nat → Bool) : List Int := ((List.range n).filter F).map fun (i : Nat) => (i : Int)
theorem pickL_succ (n : Nat) (F : Nat → Bool) : pickL (n + 1) F = pickL n F ++ if F n then [(n : Int)] else [] := by
  simp only [pickL, List.range_succ, List.filter_append, List.map_append]
  congr 1
  by_cases h : F n <;> simp [h]
theorem pickL_le (n : Nat) (F : Nat → Bool) : (pickL n F).length ≤ n := by
  have := List.length_filter_le F (List.range n)
  simpa [pickL] using this
def nodesN (g : Gr) : List Int := if rightB g then pickL g.nodes.length (fun n => mayG g n) else []
theorem callsL_end (g : Gr) : mayN g.nodes (callsL (ranksL g g.rules.length)) = mayG g := by rw [callsL_ranks]; rfl

set_option maxRecDepth 100000 in
set_option maxHeartbeats 2000000 in
theorem which2_any (w : World) (f p many : Nat) (F : Nat → Bool) (hm : many ≤ 100000) (hc : ∀ w1, Chg [] w w1 → ∀ k, k < many → Calls Tryz.prog f #[.pointer (some ⟨p, 0, none⟩), .int .i64 k] w1 fun e w' => e = .returned (.bool (F k)) ∧ Chg [] w1 w')
    (eg : ∀ args w, (callFunc f args).run Tryz.prog w = .ok (.enter f args) w) :
    Calls Tryz.prog 83 #[.int .i64 many, .func (.func f) #[.pointer (some ⟨p, 0, none⟩)] #[]] w (ClonedInts w (pickL many F)) := by
  obtain ⟨i0, hin, hz0, hz1, hz2⟩ := info_parts Tryz.infoInt
  have H := Lib.hid hc
  clear hc
  go_enter Tryz.func83, Tryz.ntmps83
  go_wp2_with fail
  go_loopg [7, 4] many (fun d iv ov wr => ∃ (k : Nat) (a' : Option Addr) (c' q : Nat), d = many - k ∧ k ≤ many ∧ iv = .int .i64 k ∧ ov = .slice a' q c' ∧ Hid (Chg [] w wr ∧ FreshInts w.heap.size wr a' c' (pickL k F) ∧ q = (pickL k F).length))
  case atStart => exact ⟨0, none, 0, 0, rfl, Nat.zero_le _, rfl, rfl, Lib.hid ⟨Chg.refl _ _, World.ownsRow_nil _ _ _ _, rfl⟩⟩
  case round =>
    obtain ⟨k, a', c', q, rfl, hk, rfl, rfl, hin2⟩ := hrel
    obtain ⟨wq, rfl⟩ : ∃ wz, wz = wr := ⟨_, rfl⟩
    by_cases hlt : k < many
    · obtain ⟨r, hr⟩ : ∃ r, r = F k := ⟨_, rfl⟩
      have hcall := H.out wq hin2.out.1 k hlt
      rw [← hr] at hcall
      have HR := Lib.hid (And.intro hr hcall)
      clear hr hcall
      go_wp2_with fail
      refine HR.out.2.mono ?_
      rintro e w3 ⟨rfl, hc3⟩
      have H3 := Lib.hid hc3
      clear hc3
      cases r with
      | true =>
        have hrow3 := H3.out.row hin2.out.2.1 (fun _ _ => by simp)
        have h1' : ∀ u ∈ [Value.int .i64 (k : Int)], u.oneCell' = true := by simp [Value.oneCell']
        have hq := pickL_le k F
        have hqe := hin2.out.2.2
        have h2' : q + 1 ≤ maxLen ∧ (q + 1) * 8 ≤ 140737488355328 := by simp only [maxLen]; omega
        have hnew := cells_at (w := w3.alloc (.cells #[.int .i64 k] 3)) (heap_alloc_same _ _)
        have hsz := (hin2.out.1.tr H3.out).size
        rw [← hqe] at hrow3
        have H4 := Lib.hid (And.intro (World.ownsRow.alloc hrow3 (.cells #[.int .i64 k] 3)) (And.intro h1' (And.intro h2' (And.intro hnew (And.intro hsz ((hin2.out.1.tr H3.out).alloc (.cells #[.int .i64 k] 3)))))))
        clear hrow3 h1' h2' hnew hsz hq hqe
        go_wp2_with (at_builtin; refine wpList_append_own_at _ rfl _ _ 48 rfl w.heap.size 3 i0 _ 1 8 Tryz.underlying48 hin hz0 hz1 hz2 rfl (by decide) (.slice a' q c') q ((pickL k F).map (Value.int .i64)) rfl H4.out.1 ⟨w3.heap.size, 0, none⟩ 1 1 [.int .i64 k] rfl rfl H4.out.2.2.2.1 H4.out.2.1 H4.out.2.2.1.1 H4.out.2.2.1.2 (by have := H4.out.2.2.2.2.1; rw [World.size_alloc]; omega) ?_; intro v' w5 hr5 hg5 hn5 hb5; obtain ⟨a5, c5, rfl⟩ := ownsRow_slice hr5; have HW := Lib.hid (And.intro hr5 hg5); clear hr5 hg5 hn5 hb5)
        go_roundg (many - (k + 1))
        case measure => omega
        case rel =>
          have hnl : pickL (k + 1) F = pickL k F ++ [(k : Int)] := by rw [pickL_succ, ← HR.out.1]; rfl
          refine ⟨k + 1, a5, c5, q + 1, rfl, by omega, by go_num, rfl, Lib.hid ⟨?_, ?_, ?_⟩⟩
          · refine H4.out.2.2.2.2.2.grown HW.out.2 (fun i hi => .inr ?_)
            have := hin2.out.2.1
            rw [FreshInts, ← hin2.out.2.2] at this
            exact (row_beyond this hi).1
          · rw [FreshInts, hnl, List.length_append, ← hin2.out.2.2, List.map_append]
            exact HW.out.1
          · rw [hnl, List.length_append, ← hin2.out.2.2]; rfl
      | false =>
        go_wp2_with fail
        go_roundg (many - (k + 1))
        case measure => omega
        case rel =>
          have hnl : pickL (k + 1) F = pickL k F := by rw [pickL_succ, ← HR.out.1]; simp
          exact ⟨k + 1, a', c', q, rfl, by omega, by go_num, rfl, Lib.hid ⟨hin2.out.1.tr H3.out, by rw [hnl]; exact H3.out.row hin2.out.2.1 (fun _ _ => by simp), by rw [hnl]; exact hin2.out.2.2⟩⟩
    · obtain rfl : k = many := by omega
      go_wp2_with fail
      go_ret
      exact ⟨a', c', by rw [← hin2.out.2.2]; rfl, hin2.out.2.1, hin2.out.1⟩

set_option maxRecDepth 100000 in
set_option maxHeartbeats 2000000 in
theorem nullNodes_any (w : World) (a1 : Option Addr) (n1 c1 : Nat) (a2 : Option Addr) (n2 c2 : Nat) (g : Gr) (hg : GramAt w a1 n1 c1 a2 n2 c2 g) (hre : Reach g) :
    Calls Tryz.prog 40 #[.agg #[.slice a1 n1 c1, .slice a2 n2 c2]] w (ClonedInts w (nodesN g)) := by
  have he2 := hg.e2
  obtain ⟨A, hA⟩ : ∃ A, A = nodesN g := ⟨_, rfl⟩
  rw [← hA]
  have H := Lib.hid (And.intro hg (And.intro hre (And.intro he2 hA)))
  clear hg hre he2 hA
  go_enter Tryz.func40, Tryz.ntmps40
  obtain ⟨x0, x1⟩ := cells2 (heap_alloc_same w (.cells #[.slice a1 n1 c1, .slice a2 n2 c2] 25))
  go_wp2_with fail
  refine (ofNull_any _ a1 n1 c1 a2 n2 c2 g (H.out.1.keep ((Chg.refl [] w).alloc _).kp) H.out.2.1).mono ?_
  rintro e w2 ⟨hc2, hif⟩
  have hg2 := hc2.heap (heap_alloc_same w (.cells #[.slice a1 n1 c1, .slice a2 n2 c2] 25)) (by simp)
  have hcw := ((Chg.refl [] w).alloc _).tr0 hc2
  clear x0 x1 hc2
  obtain ⟨x0, x1⟩ := cells2 hg2
  cases hr : rightB g with
  | false =>
    rw [hr] at hif
    obtain rfl : e = _ := hif
    have e0 : nodesN g = [] := by simp [nodesN, hr]
    have e1 := H.out.2.2.2.trans e0
    subst e1
    have HC := Lib.hid hcw
    clear hcw hr hg2
    go_wp2_with fail
    go_ret
    exact ⟨none, 0, rfl, World.ownsRow_nil _ _ _ _, HC.out⟩
  | true =>
    rw [hr, if_pos rfl] at hif
    obtain ⟨B, R, m, rfl, hw⟩ := hif
    have e0 : nodesN g = pickL g.nodes.length (fun n => mayG g n) := by simp [nodesN, hr]
    have e1 := H.out.2.2.2.trans e0
    subst e1
    have hwhich := which2_any w2 82 B n2 (fun n => mayG g n) (by have := (right_sizes hr).2.2; have := H.out.2.2.1; omega)
      (fun w1 h1 k hk => by
        have h2 := may_any B R m a1 n1 c1 a2 n2 c2 g _ (falls_right hr) (by rw [hw.gram.e1]; exact right_calls hr) g.nodes.length k (by omega) (by have := H.out.2.2.1; omega) w1 (hw.chg h1)
        rw [callsL_end] at h2
        exact h2) (enters_of Tryz.func82 (by kernel_rfl) rfl)
    have HC := Lib.hid (And.intro hcw hwhich)
    clear hcw hr hg2 hw hwhich
    go_wp2_with fail
    refine HC.out.2.mono ?_
    rintro e w3 ⟨a', c', rfl, hf, hc3⟩
    have H3 := Lib.hid (And.intro hf hc3)
    clear hf hc3
    go_wp2_with fail
    go_ret
    obtain ⟨hf, hc3⟩ := H3.out
    rw [H.out.2.2.1] at hf
    exact ⟨a', c', by rw [H.out.2.2.1]; rfl, row_base hf HC.out.1.size, HC.out.1.tr hc3⟩
end Go.Proofs.YtibgfgfmljhimaaGreat
set_option linter.unusedVariables false
set_option linter.unusedSimpArgs false
namespace Go.Proofs.YtibgfgfmljhimaaGreat
open Go.RowKit Go.MapKept Go.Shelf

/-! ### What a Kind says -/
theorem right_kind {g : Gr} (h : rightB g = true) {n : Nat} (hn : n < g.nodes.length) : 1 ≤ g.nodes[n].k ∧ g.nodes[n].k ≤ 12 := by
  have h1 := right_node h hn
  unfold nodeB nodeN at h1
  repeat' split at h1
  all_goals first | omega | cases h1
end Go.Proofs.YtibgfgfmljhimaaGreat
set_option linter.unusedVariables false
set_option linter.unusedSimpArgs false
set_option linter.unnecessarySimpa false
namespace Go.Proofs.YtibgfgfmljhimaaGreat
open Go.RowKit Go.MapKept Go.Shelf

/-! ### Plain -/
def idleB (g : Gr) (j : Nat) : Bool := match g.nodes[j]? with
  | none => false
  | some x => (decide (x.k = 8) || decide (x.k = 9)) && mayG g (x.kids.headD 0)
def idleL (g : Gr) : List Int := if rightB g = true then pickL g.nodes.length (idleB g) else []
theorem pickW_sorted (n : Nat) (F : Nat → Bool) : (pickL n F).Pairwise (· < ·) := by
  unfold pickL
  rw [List.pairwise_map]
  refine (List.Pairwise.filter _ (List.pairwise_lt_range)).imp ?_
  intro a b h
  omega
theorem pickW_mem {n : Nat} {F : Nat → Bool} {x : Int} : x ∈ pickL n F ↔ ∃ q : Nat, x = q ∧ q < n ∧ F q = true := by
  simp only [pickL, List.mem_map, List.mem_filter, List.mem_range]
  constructor
  · rintro ⟨q, ⟨h1, h2⟩, rfl⟩; exact ⟨q, rfl, h1, h2⟩
  · rintro ⟨q, rfl, h1, h2⟩; exact ⟨q, ⟨h1, h2⟩, rfl⟩
theorem pickW_split (n : Nat) (F : Nat → Bool) (j : Nat) (hj : j ≤ n) : ∃ l, pickL n F = pickL j F ++ l := by
  induction n with
  | zero => obtain rfl : j = 0 := by omega
            exact ⟨[], by simp⟩
  | succ n ih =>
    by_cases e : j = n + 1
    · subst e; exact ⟨[], by simp⟩
    · obtain ⟨l, hl⟩ := ih (by omega)
      exact ⟨l ++ if F n then [(n : Int)] else [], by rw [pickL_succ, hl, List.append_assoc]⟩
theorem right_rep {g : Gr} (h : rightB g = true) {n : Nat} (hn : n < g.nodes.length) (hk : g.nodes[n].k = 8 ∨ g.nodes[n].k = 9) : g.nodes[n].kids.length = 1 := by
  have h1 := right_node h hn
  unfold nodeB nodeN at h1
  repeat' split at h1
  all_goals first | omega | (rw [Bool.and_eq_true, decide_eq_true_eq] at h1; exact h1.2) | cases h1

/-- Where a number is, or would be. -/
def placeI (zs : List Int) (x : Int) : Nat := zs.countP fun z => decide (z < x)
theorem placeI_at {zs : List Int} {x : Int} {i : Nat} (hi : i ≤ zs.length) (h : ∀ k (h : k < zs.length), (k < i → zs[k] < x) ∧ (i ≤ k → x ≤ zs[k])) : placeI zs x = i := by
  unfold placeI
  rw [← List.take_append_drop i zs, List.countP_append, List.countP_eq_length.2, List.countP_eq_zero.2, List.length_take]
  · omega
  · intro z hz
    obtain ⟨j, hj, rfl⟩ := List.getElem_of_mem hz
    rw [List.length_drop] at hj
    have := (h (i + j) (by omega)).2 (by omega)
    rw [List.getElem_drop]
    simp; omega
  · intro z hz
    obtain ⟨j, hj, rfl⟩ := List.getElem_of_mem hz
    rw [List.length_take] at hj
    have := (h j (by omega)).1 (by omega)
    rw [List.getElem_take]
    simp; omega

/-! ### The library at numbers -/
theorem cmpNaN_any (w : World) (x : Int) : Calls Tryz.prog 198 #[.int .i64 x] w fun e w' => e = .returned (.bool false) ∧ w' = w := by
  go_enter Tryz.func198, Tryz.ntmps198
  go_wp2
  go_ret
  exact ⟨rfl, rfl⟩
theorem slNaN_any (w : World) (x : Int) : Calls Tryz.prog 189 #[.int .i64 x] w fun e w' => e = .returned (.bool false) ∧ w' = w := by
  go_enter Tryz.func189, Tryz.ntmps189
  go_wp2
  go_ret
  exact ⟨rfl, rfl⟩
theorem cmpLess_any (w : World) (x y : Int) : Calls Tryz.prog 188 #[.int .i64 x, .int .i64 y] w fun e w' => e = .returned (.bool (decide (x < y))) ∧ w' = w := by
  go_enter Tryz.func188, Tryz.ntmps188
  go_wp2_with fail
  refine (cmpNaN_any _ _).mono ?_
  rintro e w2 ⟨rfl, rfl⟩
  go_wp2
  go_ret
  exact ⟨rfl, rfl⟩

set_option maxRecDepth 100000 in
set_option maxHeartbeats 1000000 in
theorem search_any (w : World) (a : Option Addr) (n c : Nat) (zs : List Int) (x : Int) (hn : n = zs.length) (hs : n ≤ 100000) (hz : Ints w a zs) (ho : zs.Pairwise (· < ·)) :
    Calls Tryz.prog 175 #[.slice a n c, .int .i64 x] w fun e w' => e = .returned (.tuple #[.int .i64 (placeI zs x), .bool (decide (x ∈ zs))]) ∧ w' = w := by
  have H := Lib.hid (And.intro hn (And.intro hz ho))
  clear hn hz ho
  go_enter Tryz.func175, Tryz.ntmps175
  go_wp2_with fail
  go_loopg [7, 8, 9] n (fun d iv jv hv wr => ∃ i j : Nat, d = j - i ∧ i ≤ j ∧ j ≤ n ∧ iv = .int .i64 i ∧ jv = .int .i64 j ∧ wr = w ∧ Hid (∀ k (h : k < zs.length), (k < i → zs[k] < x) ∧ (j ≤ k → x ≤ zs[k])))
  case atStart => exact ⟨0, n, by omega, Nat.zero_le _, Nat.le_refl _, rfl, rfl, rfl, Lib.hid (fun k h => ⟨fun h' => by omega, fun h' => by have := H.out.1; omega⟩)⟩
  case round =>
    obtain ⟨i, j, hd, hi, hj, rfl, rfl, hwr, hin⟩ := hrel
    replace hwr := hwr.symm
    subst hwr
    by_cases hlt : i < j
    · have hw1 : IntKind.u64.wrap ((i : Int) + j) = (i : Int) + j := by rw [show (i : Int) + j = ((i + j : Nat) : Int) by omega]; exact IntWalk.u64_in _ (by omega)
      obtain ⟨m, hmid⟩ : ∃ m : Nat, ((i : Int) + j) / 2 = m := ⟨(i + j) / 2, by omega⟩
      have hm : i ≤ m ∧ m < j ∧ m < n := by omega
      have hml : m < zs.length := by have := H.out.1; omega
      obtain ⟨b, o, rfl, hcz⟩ := H.out.2.1 m hml
      obtain ⟨v, hv⟩ : ∃ v, v = zs[m] := ⟨_, rfl⟩
      rw [← hv] at hcz
      have HV := Lib.hid (And.intro hml hv)
      obtain ⟨hm1, hm2, hm3⟩ := hm
      clear hv
      go_wp2_with fail
      refine (cmpLess_any _ _ _).mono ?_
      rintro e w2 ⟨rfl, rfl⟩
      by_cases hvx : v < x
      · go_wp2_with fail
        go_roundg (j - (m + 1))
        case measure => omega
        case rel =>
          refine ⟨m + 1, j, rfl, by omega, hj, by go_num, rfl, rfl, Lib.hid fun k h => ⟨fun h' => ?_, (hin.out k h).2⟩⟩
          by_cases e : k = m
          · subst e; rw [← HV.out.2]; exact hvx
          · have h1 : zs[k] < zs[m]'HV.out.1 := List.pairwise_iff_getElem.1 H.out.2.2 k m h HV.out.1 (by omega)
            rw [← HV.out.2] at h1
            omega
      · go_wp2_with fail
        go_roundg (m - i)
        case measure => omega
        case rel =>
          refine ⟨i, m, rfl, hm1, by omega, rfl, by go_num, rfl, Lib.hid fun k h => ⟨(hin.out k h).1, fun h' => ?_⟩⟩
          by_cases e : k = m
          · subst e; rw [← HV.out.2]; omega
          · have h1 : zs[m]'HV.out.1 < zs[k] := List.pairwise_iff_getElem.1 H.out.2.2 m k HV.out.1 h (by omega)
            rw [← HV.out.2] at h1
            omega
    · obtain rfl : i = j := by omega
      have hpl := placeI_at (by have := H.out.1; omega) hin.out
      have HP := Lib.hid hpl
      clear hpl
      have hmem : ∀ (hl : i < zs.length), x ∈ zs ↔ zs[i] = x := fun hl => by
        constructor
        · intro hx
          obtain ⟨k, hk, he⟩ := List.getElem_of_mem hx
          by_cases e : k = i
          · subst e; exact he
          · by_cases h1 : k < i
            · have := (hin.out k hk).1 h1; omega
            · have h2 := List.pairwise_iff_getElem.1 H.out.2.2 i k hl hk (by omega)
              have := (hin.out i hl).2 (Nat.le_refl _); omega
        · rintro rfl; exact List.getElem_mem _
      by_cases hin2 : i < n
      · have hl : i < zs.length := by have := H.out.1; omega
        obtain ⟨b, o, rfl, hcz⟩ := H.out.2.1 i hl
        obtain ⟨v, hv⟩ : ∃ v, v = zs[i] := ⟨_, rfl⟩
        rw [← hv] at hcz
        have hm2 := hmem hl
        rw [← hv] at hm2
        have HV := Lib.hid hm2
        clear hmem hm2 hv
        by_cases hvx : v = x
        · have h1 : (v == x) = true := by simpa using hvx
          have HX := Lib.hid hvx
          clear hvx
          go_wp2_with fail
          refine bodyPost_ret (v := .tuple #[.int .i64 i, .bool true]) (by simp [results, Tryz.results175, go_sem]) rfl ?_
          exact ⟨by rw [decide_eq_true (HV.out.2 HX.out), HP.out], rfl⟩
        · have h1 : (v == x) = false := by simpa using hvx
          have HX := Lib.hid hvx
          clear hvx
          go_wp2_with fail
          refine (slNaN_any _ _).mono ?_
          rintro e w2 ⟨rfl, rfl⟩
          go_wp2_with fail
          refine bodyPost_ret (v := .tuple #[.int .i64 i, .bool false]) (by simp [results, Tryz.results175, go_sem]) rfl ?_
          exact ⟨by rw [decide_eq_false (fun h => HX.out (HV.out.1 h)), HP.out], rfl⟩
      · have hno : x ∉ zs := fun hx => by
          obtain ⟨k, hk, he⟩ := List.getElem_of_mem hx
          have := (hin.out k hk).1 (by have := H.out.1; omega)
          omega
        have HX := Lib.hid hno
        clear hmem hno
        go_wp2_with fail
        refine bodyPost_ret (v := .tuple #[.int .i64 i, .bool false]) (by simp [results, Tryz.results175, go_sem]) rfl ?_
        exact ⟨by rw [decide_eq_false HX.out, HP.out], rfl⟩

set_option maxRecDepth 100000 in
set_option maxHeartbeats 1000000 in
theorem contains_any (w : World) (a : Option Addr) (n c : Nat) (zs : List Int) (x : Int) (hn : n = zs.length) (hs : n ≤ 100000) (hz : Ints w a zs) :
    Calls Tryz.prog 113 #[.slice a n c, .int .i64 x] w fun e w' => e = .returned (.bool (decide (x ∈ zs))) ∧ w' = w := by
  obtain ⟨r, hr⟩ : ∃ r, r = decide (x ∈ zs) := ⟨_, rfl⟩
  rw [← hr]
  have hidx : Calls Tryz.prog 155 #[.slice a n c, .int .i64 x] w fun e w' => (∃ i : Int, e = .returned (.int .i64 i) ∧ (decide (0 ≤ i) = r)) ∧ w' = w := by
    rw [hr]
    clear hr
    have H := Lib.hid (And.intro hn hz)
    clear hn hz
    go_enter Tryz.func155, Tryz.ntmps155
    go_wp2_with fail
    go_loopg [8] n (fun d iv wr => ∃ k : Nat, d = n - k ∧ k ≤ n ∧ iv = .int .i64 k ∧ wr = w ∧ Hid (∀ j (h : j < zs.length), j < k → x ≠ zs[j]))
    case atStart => exact ⟨0, rfl, Nat.zero_le _, rfl, rfl, Lib.hid (fun j _ h => by omega)⟩
    case round =>
      obtain ⟨k, rfl, hk, rfl, hwr, hb⟩ := hrel
      replace hwr := hwr.symm
      subst hwr
      by_cases hlt : k < n
      · have hk' : k < zs.length := by have := H.out.1; omega
        obtain ⟨b, o, rfl, hcz⟩ := H.out.2 k hk'
        obtain ⟨v, hv⟩ : ∃ v, v = zs[k] := ⟨_, rfl⟩
        rw [← hv] at hcz
        have HV := Lib.hid (And.intro hk' hv)
        clear hv
        by_cases hvx : x = v
        · have h1 : (x == v) = true := by simpa using hvx
          have HX := Lib.hid hvx
          clear hvx
          go_wp2_with fail
          go_ret
          refine ⟨⟨_, rfl, ?_⟩, rfl⟩
          rw [decide_eq_true (show (0 : Int) ≤ k by omega), decide_eq_true]
          rw [HX.out, HV.out.2]
          exact List.getElem_mem _
        · have h1 : (x == v) = false := by simpa using hvx
          have HX := Lib.hid hvx
          clear hvx
          go_wp2_with fail
          go_roundg (n - (k + 1))
          case measure => omega
          case rel =>
            refine ⟨k + 1, rfl, by omega, by go_num, rfl, Lib.hid fun j h hj => ?_⟩
            by_cases e : j = k
            · subst e; rw [← HV.out.2]; exact HX.out
            · exact hb.out j h (by omega)
      · obtain rfl : k = n := by omega
        go_wp2_with fail
        go_ret
        refine ⟨⟨_, rfl, ?_⟩, rfl⟩
        rw [decide_eq_false (by omega), decide_eq_false]
        intro hx
        obtain ⟨j, hj, he⟩ := List.getElem_of_mem hx
        exact hb.out j hj (by have := H.out.1; omega) he.symm
  have HI := Lib.hid hidx
  clear hidx hz hn hr
  go_enter Tryz.func113, Tryz.ntmps113
  go_wp2_with fail
  refine HI.out.mono ?_
  rintro e w2 ⟨⟨i, rfl, hi⟩, rfl⟩
  clear HI
  go_wp2_with fail
  go_ret
  exact ⟨rfl, rfl⟩
end Go.Proofs.YtibgfgfmljhimaaGreat

/-
  left.list, left.calls: the rules that were met; those that a node calls at its own place.
  Conditions: a work.
-/
import Derived.Test.YtibgfgfmljhimaaLfB
import Derived.Test.YtibgfgfmljhimaaNuD
set_option linter.unusedVariables false
set_option linter.unusedSimpArgs false
set_option linter.unnecessarySimpa false
namespace Go.Proofs.Ytibgfgfmljhimaa
open Go.RowKit Go.MapKept Go.Shelf

set_option maxRecDepth 100000 in
set_option maxHeartbeats 2000000 in
theorem list_any (w : World) (b o : Nat) (bs : List Bool) (hlen : bs.length = 32) (hb : ∀ i x, bs[i]? = some x → w.cell? ⟨b, o + i, none⟩ = some (.bool x)) :
    Calls Try.prog 114 #[.pointer (some ⟨b, o, none⟩)] w (ClonedInts w (pickB bs)) := by
  obtain ⟨i0, hin, hz0, hz1, hz2⟩ := info_parts Try.infoInt
  have H := Lib.hid hb
  have hpick : pickB bs = pickL 32 (fun i => bs.getD i false) := by rw [pickB, hlen]
  rw [hpick]
  have HL := Lib.hid hlen
  clear hb hpick hlen
  go_enter Try.func114, Try.ntmps114
  go_wp2_with fail
  go_loopg [6, 2] 32 (fun d iv ov wr => ∃ (k : Nat) (a' : Option Addr) (c' q : Nat), d = 32 - k ∧ k ≤ 32 ∧ iv = .int .i64 k ∧ ov = .slice a' q c' ∧ Hid (Chg [] w wr ∧ FreshInts w.heap.size wr a' c' (pickL k (fun i => bs.getD i false)) ∧ q = (pickL k (fun i => bs.getD i false)).length))
  case atStart => exact ⟨0, none, 0, 0, rfl, by omega, rfl, rfl, Lib.hid ⟨Chg.refl _ _, World.ownsRow_nil _ _ _ _, rfl⟩⟩
  case round =>
    obtain ⟨k, a', c', q, rfl, hk, rfl, rfl, hin2⟩ := hrel
    obtain ⟨wq, rfl⟩ : ∃ wz, wz = wr := ⟨_, rfl⟩
    by_cases hlt : k < 32
    · obtain ⟨r, hr⟩ : ∃ r, r = bs.getD k false := ⟨_, rfl⟩
      have hcl : bs[k]? = some r := by
        have h1 : k < bs.length := by have := HL.out; omega
        rw [hr, List.getD, List.getElem?_eq_getElem h1]; rfl
      have hce := hin2.out.1.cell (H.out k r hcl) (by simp)
      have HR := Lib.hid hr
      clear hr hcl
      go_wp2_with fail
      go_region
      clear hce
      cases r with
      | true =>
        have hrow3 := hin2.out.2.1
        have h1' : ∀ u ∈ [Value.int .i64 (k : Int)], u.oneCell' = true := by simp [Value.oneCell']
        have hq := pickL_le k (fun i => bs.getD i false)
        have hqe := hin2.out.2.2
        have h2' : q + 1 ≤ maxLen ∧ (q + 1) * 8 ≤ 140737488355328 := by simp only [maxLen]; omega
        rw [FreshInts, ← hqe] at hrow3
        have hcd : Chg [] wq wq.drew := (Chg.refl _ _).drew
        have hnew := cells_at (w := wq.drew.alloc (.cells #[.int .i64 k] 3)) (heap_alloc_same _ _)
        have hsz := hin2.out.1.size
        have hcA := (Chg.refl [] wq).drew.alloc (.cells #[.int .i64 k] 3)
        have H4 := Lib.hid (And.intro (hcA.row hrow3 (fun _ _ => by simp)) (And.intro h1' (And.intro h2' (And.intro hnew (And.intro (hin2.out.1.tr hcA).size (hin2.out.1.tr hcA))))))
        clear hrow3 h1' h2' hnew hsz hq hqe hcA hcd
        go_wp2_with (at_builtin; refine wpList_append_own_at _ rfl _ _ 30 rfl w.heap.size 3 i0 _ 1 8 Try.underlying30 hin hz0 hz1 hz2 rfl (by decide) (.slice a' q c') q ((pickL k (fun i => bs.getD i false)).map (Value.int .i64)) rfl H4.out.1 ⟨wq.heap.size, 0, none⟩ 1 1 [.int .i64 k] rfl rfl H4.out.2.2.2.1 H4.out.2.1 H4.out.2.2.1.1 H4.out.2.2.1.2 H4.out.2.2.2.2.1 ?_; intro v' w5 hr5 hg5 hn5 hb5; obtain ⟨a5, c5, rfl⟩ := ownsRow_slice hr5; have HW := Lib.hid (And.intro hr5 hg5); clear hr5 hg5 hn5 hb5)
        go_roundg (32 - (k + 1))
        case measure => omega
        case rel =>
          have hnl : pickL (k + 1) (fun i => bs.getD i false) = pickL k (fun i => bs.getD i false) ++ [(k : Int)] := by rw [pickL_succ]; simp only [← HR.out]; rfl
          refine ⟨k + 1, a5, c5, q + 1, rfl, by omega, by go_num, rfl, Lib.hid ⟨?_, ?_, ?_⟩⟩
          · refine H4.out.2.2.2.2.2.grown HW.out.2 (fun i hi => .inr ?_)
            have := hin2.out.2.1
            rw [FreshInts, ← hin2.out.2.2] at this
            exact (row_beyond this hi).1
          · rw [FreshInts, hnl, List.length_append, ← hin2.out.2.2, List.map_append]
            exact HW.out.1
          · rw [hnl, List.length_append, ← hin2.out.2.2]; rfl
      | false =>
        go_wp2_with fail
        go_roundg (32 - (k + 1))
        case measure => omega
        case rel =>
          have hnl : pickL (k + 1) (fun i => bs.getD i false) = pickL k (fun i => bs.getD i false) := by rw [pickL_succ]; simp only [← HR.out]; simp
          exact ⟨k + 1, a', c', q, rfl, by omega, by go_num, rfl, Lib.hid ⟨hin2.out.1.drew, by rw [hnl]; exact (Chg.refl [] _).drew.row hin2.out.2.1 (fun _ _ => by simp), by rw [hnl]; exact hin2.out.2.2⟩⟩
    · obtain rfl : k = 32 := by omega
      go_wp2_with fail
      go_ret
      exact ⟨a', c', by rw [← hin2.out.2.2]; rfl, hin2.out.2.1, hin2.out.1⟩

/-! ### The rules that are called -/
def metRow (bs : List Bool) : Obj := .cells (bs.map Value.bool).toArray 124 (0, 0)
theorem metRow_cell {w : World} {b i : Nat} {bs : List Bool} {x : Bool} (h : w.heap[b]? = some (metRow bs)) (hx : bs[i]? = some x) : w.cell? ⟨b, i, none⟩ = some (.bool x) := by
  rw [cell_of_cells h]
  simp [hx]
theorem metRow_free {w : World} {b : Nat} {bs : List Bool} (h : w.heap[b]? = some (metRow bs)) (i : Nat) : w.frozen? ⟨b, i, none⟩ = false := free_of_cells h i
theorem metRow_set {w : World} {b i : Nat} {bs : List Bool} (x : Bool) (h : w.heap[b]? = some (metRow bs)) : (w.setCell ⟨b, i, none⟩ (.bool x)).heap[b]? = some (metRow (bs.set i x)) := by
  rw [heap_setCell_same h]
  simp [metRow, List.map_set]

section
attribute [local go_sem] Oper.semAt_some
set_option maxRecDepth 100000 in
set_option maxHeartbeats 8000000 in
theorem calls_any (w : World) (B R : Nat) (a1 : Option Addr) (n1 c1 : Nat) (a2 : Option Addr) (n2 c2 : Nat) (g : Gr) (hw : LWork w B R a1 n1 c1 a2 n2 c2 g) (n : Nat) (hn : n < g.nodes.length) :
    Calls Try.prog 112 #[.pointer (some ⟨B, 0, none⟩), .int .i64 n] w (ClonedInts w (callsG g n)) := by
  have H := Lib.hid (And.intro hw hn)
  clear hw hn
  refine (callsIn_wide (n := 3)).1 ?_
  refine callsIn_of_wp_marks Try.func112 rfl trivial ?_ rfl
  simp only [Try.ntmps112, List.size_toArray, List.length_cons, List.length_nil, Nat.reduceAdd, Nat.reduceSub, Array.replicate_succ, Array.replicate_zero, List.push_toArray, List.append_toArray, List.nil_append, List.cons_append]
  refine wpIn_wide.2 ?_
  go_wp2_with fail
  refine (ownLeft_any _ _ _).mono ?_
  rintro e w4 ⟨rfl, rfl⟩
  obtain ⟨w4, e4⟩ : ∃ w4, w4 = (((w.alloc (.cells #[.pointer (some ⟨B, 0, none⟩)] 116)).alloc (.cells #[.bool false, .bool false, .bool false, .bool false, .bool false, .bool false, .bool false, .bool false, .bool false, .bool false, .bool false, .bool false, .bool false, .bool false, .bool false, .bool false, .bool false, .bool false, .bool false, .bool false, .bool false, .bool false, .bool false, .bool false, .bool false, .bool false, .bool false, .bool false, .bool false, .bool false, .bool false, .bool false] 124)).alloc (.cells #[.pointer (some ⟨B, 0, none⟩)] 116)).alloc (.cells #[.int .i64 n] 3) := ⟨_, rfl⟩
  have hc4 : Chg [] w w4 := by rw [e4]; exact ((((Chg.refl _ w).alloc _).alloc _).alloc _).alloc _
  have hs4 : w4.heap.size = w.heap.size + 4 := by rw [e4]; simp
  have hbb : w4.heap[w.heap.size]? = some (.cells #[.pointer (some ⟨B, 0, none⟩)] 116 (0, 0)) := by
    rw [e4]; exact heap_alloc_lt (heap_alloc_lt (heap_alloc_lt (heap_alloc_same _ _) _) _) _
  have hmet : w4.heap[w.heap.size + 1]? = some (metRow (metL g.nodes [])) := by
    rw [e4, metL_nil]
    have := heap_alloc_same (w.alloc (.cells #[.pointer (some ⟨B, 0, none⟩)] 116)) (.cells #[.bool false, .bool false, .bool false, .bool false, .bool false, .bool false, .bool false, .bool false, .bool false, .bool false, .bool false, .bool false, .bool false, .bool false, .bool false, .bool false, .bool false, .bool false, .bool false, .bool false, .bool false, .bool false, .bool false, .bool false, .bool false, .bool false, .bool false, .bool false, .bool false, .bool false, .bool false, .bool false] 124)
    rw [World.size_alloc] at this
    exact heap_alloc_lt (heap_alloc_lt this _) _
  have hb2 : w4.heap[w.heap.size + 2]? = some (.cells #[.pointer (some ⟨B, 0, none⟩)] 116 (0, 0)) := by
    rw [e4]
    have := heap_alloc_same ((w.alloc (.cells #[.pointer (some ⟨B, 0, none⟩)] 116)).alloc (.cells #[.bool false, .bool false, .bool false, .bool false, .bool false, .bool false, .bool false, .bool false, .bool false, .bool false, .bool false, .bool false, .bool false, .bool false, .bool false, .bool false, .bool false, .bool false, .bool false, .bool false, .bool false, .bool false, .bool false, .bool false, .bool false, .bool false, .bool false, .bool false, .bool false, .bool false, .bool false, .bool false] 124)) (.cells #[.pointer (some ⟨B, 0, none⟩)] 116)
    simp only [World.size_alloc] at this
    exact heap_alloc_lt this _
  have hb3 : w4.heap[w.heap.size + 3]? = some (.cells #[.int .i64 n] 3 (0, 0)) := by
    rw [e4]
    have := heap_alloc_same (((w.alloc (.cells #[.pointer (some ⟨B, 0, none⟩)] 116)).alloc (.cells #[.bool false, .bool false, .bool false, .bool false, .bool false, .bool false, .bool false, .bool false, .bool false, .bool false, .bool false, .bool false, .bool false, .bool false, .bool false, .bool false, .bool false, .bool false, .bool false, .bool false, .bool false, .bool false, .bool false, .bool false, .bool false, .bool false, .bool false, .bool false, .bool false, .bool false, .bool false, .bool false] 124)).alloc (.cells #[.pointer (some ⟨B, 0, none⟩)] 116)) (.cells #[.int .i64 n] 3)
    simp only [World.size_alloc] at this
    exact this
  have H4 := Lib.hid (And.intro hc4 (And.intro hbb (And.intro hmet hb2)))
  have hgives := Own_gives w w4 B R a1 n1 c1 a2 n2 c2 g H.out.1 (.of_chg0 hc4) n H.out.2 (w.heap.size + 2) (w.heap.size + 3) hb2 hb3
  simp only [World.size_alloc]
  rw [← e4]
  clear e4 hc4 hbb hmet hb2 hb3
  go_wp2_with fail
  refine (wpIn_wide (n := 3)).1 ?_
  refine range_gives (n := 3) (gf := 158) (lb := #[.pointer (some ⟨w.heap.size + 2, 0, none⟩), .pointer (some ⟨w.heap.size + 3, 0, none⟩)]) rfl (enters_of Try.func158 (by kernel_rfl) rfl) hgives (fun pre x => Stays.pure _) ?hK (Chg.refl [] _) (fun _ => rfl)
    (fun pre W => W.heap[w.heap.size]? = some (.cells #[.pointer (some ⟨B, 0, none⟩)] 116 (0, 0)) ∧ W.heap[w.heap.size + 1]? = some (metRow (metL g.nodes pre)) ∧ Chg [] w W) (fun _ _ _ => False)
    (fun s => (Stays.block _ _ _ rfl).and ((Stays.block _ _ _ rfl).and (Stays.since _ _ _ (by omega)))) (fun _ _ => Stays.pure _) ?h0
    (fun x a' W => a' = { tmps := #[.pointer (some ⟨B, 0, none⟩), .int .i64 n, .pointer (some ⟨w.heap.size, 0, none⟩), undef, .slice none 0 0, .pointer (some ⟨w.heap.size + 1, 0, none⟩), .int .i64 x, .pointer (some ⟨B, 0, none⟩), .int .i64 n, .func (.func 158) #[] #[.pointer (some ⟨w.heap.size + 2, 0, none⟩), .pointer (some ⟨w.heap.size + 3, 0, none⟩)], .int .i64 x, undef, undef, undef, undef, undef, undef, undef, undef, undef, undef, undef, undef, undef, undef, undef, undef, undef, undef, undef, undef, undef], defers := [] }) (fun x a' => Stays.pure _) ?assign ?body ?done ?stop
  case hK =>
    rintro pre x A A1 A2 C C' hc ht k1 ht2
    exact (((KeepL.of_chg0 hc).trans (.of_turn ht (by omega))).trans k1).trans (.of_turn ht2 (by omega))
  case h0 => exact ⟨H4.out.2.1, H4.out.2.2.1, H4.out.1⟩
  case assign =>
    rintro l pre x W K hi hx hK
    gi_wp2
    exact hK _ _ (Chg.refl _ _) rfl
  case body =>
    rintro l pre x a' W ⟨hbb, hmet, hch⟩ hx rfl
    obtain ⟨q, rfl, -, hq⟩ := ownN_in (falls_right H.out.1.right) (mayG g) H.out.2 x (hx.subset (by simp))
    have hwq := H.out.1.chg hch
    obtain ⟨bn, on, ak, nk, ck, rfl, hxx⟩ := hwq.gram.nodes q hq
    have hqn : q < n2 := by rw [H.out.1.gram.e2]; exact hq
    obtain ⟨kk, hkk⟩ : ∃ kk, kk = g.nodes[q].k := ⟨_, rfl⟩
    obtain ⟨rr, hrr⟩ : ∃ rr, rr = g.nodes[q].r := ⟨_, rfl⟩
    have hxk := hxx.k
    have hxr := hxx.r
    rw [← hkk] at hxk
    rw [← hrr] at hxr
    have x1 := cell_of_cells hwq.box 1
    simp at x1
    have x2 := cells1 hbb
    have HB := Lib.hid (And.intro hbb (And.intro hmet hch))
    clear hbb hch hwq hxx hx
    by_cases hk5 : kk = 5
    · subst hk5
      obtain ⟨r0, r1⟩ := right_calls H.out.1.right _ (List.getElem_mem hq) hkk.symm
      rw [← hrr] at r0 r1
      obtain ⟨rn, hrn⟩ : ∃ rn : Nat, rr = rn := ⟨rr.toNat, by omega⟩
      subst hrn
      have hr32 : rn < 32 := by have := (right_sizes H.out.1.right).2.1; omega
      obtain ⟨u, hu⟩ : ∃ u, (metL g.nodes pre)[rn]? = some u := ⟨_, List.getElem?_eq_getElem (by rw [metL_len]; exact hr32)⟩
      have hmc := metRow_cell hmet hu
      have hmf := metRow_free hmet rn
      have HC : Hid (metL g.nodes (pre ++ [(q : Int)]) = (metL g.nodes pre).set rn true) := Lib.hid (metL_put hq hkk.symm hrr.symm)
      clear hmet hkk hrr r0 r1 hu
      gi_wp2_with fail
      obtain ⟨hbb, hmet, hch⟩ := HB.out
      have hc := (Chg.refl [w.heap.size + 1] W).setCell (p := ⟨w.heap.size + 1, rn, none⟩) (.inl (by simp)) (.bool true)
      refine ⟨keepsFrom_of_chg hc (fun i hi => .inl (by simp at hi; omega)), .of_chg hc (fun k hk => ?_), hc.heap hbb (by simp), ?_, hch.trans hc (fun k hk => .inr (by simp at hk; omega))⟩
      · simp only [List.mem_singleton] at hk
        subst hk
        exact ⟨by omega, fun cs h => by rw [hmet] at h; simp [metRow] at h⟩
      · rw [HC.out]
        exact metRow_set true hmet
    · have hk5' : (kk == 5) = false := by simpa using hk5
      have HC : Hid (metL g.nodes (pre ++ [(q : Int)]) = metL g.nodes pre) := Lib.hid (metL_skip hq (by rw [← hkk]; exact hk5))
      clear hmet hkk hrr hk5
      gi_wp2_with fail
      obtain ⟨hbb, hmet, hch⟩ := HB.out
      exact ⟨keepsFrom_of_chg (Chg.refl [] W) (by simp), .refl _ _, hbb, by rw [HC.out]; exact hmet, hch⟩
  case done =>
    rintro D xs W hD hS ⟨hbb, hmet, hch⟩ hd
    have HD := Lib.hid (And.intro hmet (And.intro hch (And.intro hd (And.intro hS hD))))
    clear hbb hmet hch hd hS hD
    dsimp only
    go_wp2_with fail
    refine (list_any W (w.heap.size + 1) 0 (metL g.nodes xs) (metL_len _ _) (fun i x hx => by rw [Nat.zero_add]; exact metRow_cell HD.out.1 hx)).mono ?_
    rintro e w5 ⟨al, cl, rfl, hf, hc5⟩
    obtain ⟨hmet, hch, hd, rfl, hD⟩ := HD.out
    rw [← callsG_pick] at hf ⊢
    have hl : w.heap.size ≤ W.heap.size := hch.size
    have H5 := Lib.hid (And.intro (row_base hf hl) (And.intro (hch.tr hc5) (hc5.heap hd (by simp))))
    clear hmet hch hd hf hc5
    go_wp2_with fail
    refine leave_one (v := .slice al (callsG g n).length cl) (B := w4.heap.size) (I := fun W' => FreshInts w.heap.size W' al cl (callsG g n) ∧ Chg [] w W') H5.out.2.2 hD ((Stays.row _ _ _ _ _ _ _).and (Stays.since _ _ _ (by omega))) ⟨H5.out.1, H5.out.2.1⟩ ?_
    rintro W' ⟨hf, hch⟩
    exact ⟨by simp [results, Try.results112, go_sem], al, cl, rfl, hf, hch⟩
  case stop =>
    rintro D c pre W hD _ h _
    exact h.elim
end
end Go.Proofs.Ytibgfgfmljhimaa

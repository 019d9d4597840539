/-
 left.list, left.calls: the rules that were met; those that a node calls at its own place.
 Conditions: a work.
-/
import Derived.Test.YtlklmpjakeedcaaGreatDoorSEnLfB
import Derived.Test.YtlklmpjakeedcaaGreatDoorSEnNuD
set_option linter.unusedVariables false
set_option linter.unusedSimpArgs false
set_option linter.unnecessarySimpa false
namespace Go.Proofs.YtlklmpjakeedcaaGreatDoor
open Go.RowKit Go.MapKept Go.Shelf

set_option maxRecDepth 100000 in
set_option maxHeartbeats 2000000 in
theorem list_any (w : World) (b o : Nat) (bs : List Bool) (hlen : bs.length = 32) (hb : ∀ i x, bs[i]? = some x → w.cell? ⟨b, o + i, none⟩ = some (.bool x)) :
  Calls Tryz.prog 64 #[.pointer (some ⟨b, o, none⟩)] w (ClonedInts w (pickB bs)) := by
 obtain ⟨i0, hin, hz0, hz1, hz2⟩ := info_parts Tryz.infoInt
 have H := Lib.hid hb
 have hpick : pickB bs = pickL 32 (fun i => bs.getD i false) := by rw [pickB, hlen]
 rw [hpick]
 have HL := Lib.hid hlen
 clear hb hpick hlen
 go_enter Tryz.func64, Tryz.ntmps64
 go_wp2_with fail
 go_loopg [6, 2] 32 (fun d iv ov wr => ∃ (k : Nat) (a' : Option Addr) (c' q : Nat), d = 32 - k ∧ k ≤ 32 ∧ iv = .int .i64 k ∧ ov = .slice a' q c' ∧ Hid (Chg [] w wr ∧ FreshInts w.heap.size wr a' c' (pickL k (fun i => bs.getD i false)) ∧ q = (pickL k (fun i => bs.getD i false)).length))
 case atStart => exact ⟨0, none, 0, 0, rfl, by omega, rfl, rfl, Lib.hid ⟨Chg.refl _ _, World.ownsRow_nil _ _ _ _, rfl⟩⟩
 case round =>
  obtain ⟨k, a', c', q, rfl, hk, rfl, rfl, hin2⟩ := hrel
  obtain ⟨wq, rfl⟩ : ∃ wz, wz = wr := ⟨_, rfl⟩
  by_cases hlt : k < 32
  ·obtain ⟨r, hr⟩ : ∃ r, r = bs.getD k false := ⟨_, rfl⟩
   have hcl : bs[k]? = some r := by
    have h1 : k < bs.length := by have := HL.out; omega
    rw [hr, List.getD, List.getElem?_eq_getElem h1]; rfl
   have hce := hin2.out.1.cell (H.out k r hcl) (by simp)
   have HR := Lib.hid hr
   clear hr hcl
   go_wp2_with fail
   go_region
   clear hce
   cases r with
   | true =>
    have hrow3 := hin2.out.2.1
    have h1' : ∀ u ∈ [Value.int .i64 (k : Int)], u.oneCell' = true := by simp [Value.oneCell']
    have hq := pickL_le k (fun i => bs.getD i false)
    have hqe := hin2.out.2.2
    have h2' : q + 1 ≤ maxLen ∧ (q + 1) * 8 ≤ 140737488355328 := by simp only [maxLen]; omega
    rw [FreshInts, ← hqe] at hrow3
    have hcd : Chg [] wq wq.drew := (Chg.refl _ _).drew
    have hnew := cells_at (w := wq.drew.alloc (.cells #[.int .i64 k] 3)) (heap_alloc_same _ _)
    have hsz := hin2.out.1.size
    have hcA := (Chg.refl [] wq).drew.alloc (.cells #[.int .i64 k] 3)
    have H4 := Lib.hid (And.intro (hcA.row hrow3 (fun _ _ => by simp)) (And.intro h1' (And.intro h2' (And.intro hnew (And.intro (hin2.out.1.tr hcA).size (hin2.out.1.tr hcA))))))
    clear hrow3 h1' h2' hnew hsz hq hqe hcA hcd
    go_wp2_with (at_builtin; refine wpList_append_own_at _ rfl _ _ 34 rfl w.heap.size 3 i0 _ 1 8 Tryz.underlying34 hin hz0 hz1 hz2 rfl (by decide) (.slice a' q c') q ((pickL k (fun i => bs.getD i false)).map (Value.int .i64)) rfl H4.out.1 ⟨wq.heap.size, 0, none⟩ 1 1 [.int .i64 k] rfl rfl H4.out.2.2.2.1 H4.out.2.1 H4.out.2.2.1.1 H4.out.2.2.1.2 H4.out.2.2.2.2.1 ?_; intro v' w5 hr5 hg5 hn5 hb5; obtain ⟨a5, c5, rfl⟩ := ownsRow_slice hr5; have HW := Lib.hid (And.intro hr5 hg5); clear hr5 hg5 hn5 hb5)
    go_roundg (32 - (k + 1))
    case measure => omega
    case rel =>
     have hnl : pickL (k + 1) (fun i => bs.getD i false) = pickL k (fun i => bs.getD i false) ++ [(k : Int)] := by rw [pickL_succ]; simp only [← HR.out]; rfl
     refine ⟨k + 1, a5, c5, q + 1, rfl, by omega, by go_num, rfl, Lib.hid ⟨?_, ?_, ?_⟩⟩
     ·refine H4.out.2.2.2.2.2.grown HW.out.2 (fun i hi => .inr ?_)
      have := hin2.out.2.1
      rw [FreshInts, ← hin2.out.2.2] at this
      exact (row_beyond this hi).1
     ·rw [FreshInts, hnl, List.length_append, ← hin2.out.2.2, List.map_append]
      exact HW.out.1
     ·rw [hnl, List.length_append, ← hin2.out.2.2]; rfl
   | false =>
    go_wp2_with fail
    go_roundg (32 - (k + 1))
    case measure => omega
    case rel =>
     have hnl : pickL (k + 1) (fun i => bs.getD i false) = pickL k (fun i => bs.getD i false) := by rw [pickL_succ]; simp only [← HR.out]; simp
     exact ⟨k + 1, a', c', q, rfl, by omega, by go_num, rfl, Lib.hid ⟨hin2.out.1.drew, by rw [hnl]; exact (Chg.refl [] _).drew.row hin2.out.2.1 (fun _ _ => by simp), by rw [hnl]; exact hin2.out.2.2⟩⟩
  ·obtain rfl : k = 32 := by omega
   go_wp2_with fail
   go_ret
   exact ⟨a', c', by rw [← hin2.out.2.2]; rfl, hin2.out.2.1, hin2.out.1⟩

/-! ### The rules that are called -/
def metRow (bs : List Bool) : Obj := .cells (bs.map Value.bool).toArray 95 (0, 0)
theorem metRow_cell {w : World} {b i : Nat} {bs : List Bool} {x : Bool} (h : w.heap[b]? = some (metRow bs)) (hx : bs[i]? = some x) : w.cell? ⟨b, i, none⟩ = some (.bool x) := by
 rw [cell_of_cells h]
 simp [hx]
theorem metRow_free {w : World} {b : Nat} {bs : List Bool} (h : w.heap[b]? = some (metRow bs)) (i : Nat) : w.frozen? ⟨b, i, none⟩ = false := free_of_cells h i
theorem metRow_set {w : World} {b i : Nat} {bs : List Bool} (x : Bool) (h : w.heap[b]? = some (metRow bs)) : (w.setCell ⟨b, i, none⟩ (.bool x)).heap[b]? = some (metRow (bs.set i x)) := by
 rw [heap_setCell_same h]
 simp [metRow, List.map_set]

section
attribute [local go_sem] Oper.semAt_some
set_option maxRecDepth 100000 in
set_option maxHeartbeats 8000000 in
theorem calls_any (w : World) (B R : Nat) (a1 : Option Addr) (n1 c1 : Nat) (a2 : Option Addr) (n2 c2 : Nat) (g : Gr) (hw : LWork w B R a1 n1 c1 a2 n2 c2 g) (n : Nat) (hn : n < g.nodes.length) :
  Calls Tryz.prog 42 #[.pointer (some ⟨B, 0, none⟩), .int .i64 n] w (ClonedInts w (callsG g n)) := by
 have H := Lib.hid (And.intro hw hn)
 clear hw hn
 refine (callsIn_wide (n := 3)).1 ?_
 refine callsIn_of_wp_marks Tryz.func42 rfl trivial ?_ rfl
 simp only [Tryz.ntmps42, List.size_toArray, List.length_cons, List.length_nil, Nat.reduceAdd, Nat.reduceSub, Array.replicate_succ, Array.replicate_zero, List.push_toArray, List.append_toArray, List.nil_append, List.cons_append]
 refine wpIn_wide.2 ?_
 go_wp2_with fail
 refine (ownLeft_any _ _ _).mono ?_
 rintro e w4 ⟨rfl, rfl⟩
 obtain ⟨w4, e4⟩ : ∃ w4, w4 = (((w.alloc (.cells #[.pointer (some ⟨B, 0, none⟩)] 76)).alloc (.cells #[.bool false, .bool false, .bool false, .bool false, .bool false, .bool false, .bool false, .bool false, .bool false, .bool false, .bool false, .bool false, .bool false, .bool false, .bool false, .bool false, .bool false, .bool false, .bool false, .bool false, .bool false, .bool false, .bool false, .bool false, .bool false, .bool false, .bool false, .bool false, .bool false, .bool false, .bool false, .bool false] 95)).alloc (.cells #[.pointer (some ⟨B, 0, none⟩)] 76)).alloc (.cells #[.int .i64 n] 3) := ⟨_, rfl⟩
 have hc4 : Chg [] w w4 := by rw [e4]; exact ((((Chg.refl _ w).alloc _).alloc _).alloc _).alloc _
 have hs4 : w4.heap.size = w.heap.size + 4 := by rw [e4]; simp
 have hbb : w4.heap[w.heap.size]? = some (.cells #[.pointer (some ⟨B, 0, none⟩)] 76 (0, 0)) := by
  rw [e4]; exact heap_alloc_lt (heap_alloc_lt (heap_alloc_lt (heap_alloc_same _ _) _) _) _
 have hmet : w4.heap[w.heap.size + 1]? = some (metRow (metL g.nodes [])) := by
  rw [e4, metL_nil]
  have := heap_alloc_same (w.alloc (.cells #[.pointer (some ⟨B, 0, none⟩)] 76)) (.cells #[.bool false, .bool false, .bool false, .bool false, .bool false, .bool false, .bool false, .bool false, .bool false, .bool false, .bool false, .bool false, .bool false, .bool false, .bool false, .bool false, .bool false, .bool false, .bool false, .bool false, .bool false, .bool false, .bool false, .bool false, .bool false, .bool false, .bool false, .bool false, .bool false, .bool false, .bool false, .bool false] 95)
  rw [World.size_alloc] at this
  exact heap_alloc_lt (heap_alloc_lt this _) _
 have hb2 : w4.heap[w.heap.size + 2]? = some (.cells #[.pointer (some ⟨B, 0, none⟩)] 76 (0, 0)) := by
  rw [e4]
  have := heap_alloc_same ((w.alloc (.cells #[.pointer (some ⟨B, 0, none⟩)] 76)).alloc (.cells #[.bool false, .bool false, .bool false, .bool false, .bool false, .bool false, .bool false, .bool false, .bool false, .bool false, .bool false, .bool false, .bool false, .bool false, .bool false, .bool false, .bool false, .bool false, .bool false, .bool false, .bool false, .bool false, .bool false, .bool false, .bool false, .bool false, .bool false, .bool false, .bool false, .bool false, .bool false, .bool false] 95)) (.cells #[.pointer (some ⟨B, 0, none⟩)] 76)
  simp only [World.size_alloc] at this
  exact heap_alloc_lt this _
 have hb3 : w4.heap[w.heap.size + 3]? = some (.cells #[.int .i64 n] 3 (0, 0)) := by
  rw [e4]
  have := heap_alloc_same (((w.alloc (.cells #[.pointer (some ⟨B, 0, none⟩)] 76)).alloc (.cells #[.bool false, .bool false, .bool false, .bool false, .bool false, .bool false, .bool false, .bool false, .bool false, .bool false, .bool false, .bool false, .bool false, .bool false, .bool false, .bool false, .bool false, .bool false, .bool false, .bool false, .bool false, .bool false, .bool false, .bool false, .bool false, .bool false, .bool false, .bool false, .bool false, .bool false, .bool false, .bool false] 95)).alloc (.cells #[.pointer (some ⟨B, 0, none⟩)] 76)) (.cells #[.int .i64 n] 3)
  simp only [World.size_alloc] at this
  exact this
 have H4 := Lib.hid (And.intro hc4 (And.intro hbb (And.intro hmet hb2)))
 have hgives := Own_gives w w4 B R a1 n1 c1 a2 n2 c2 g H.out.1 (.of_chg0 hc4) n H.out.2 (w.heap.size + 2) (w.heap.size + 3) hb2 hb3
 simp only [World.size_alloc]
 rw [← e4]
 clear e4 hc4 hbb hmet hb2 hb3
 go_wp2_with fail
 refine (wpIn_wide (n := 3)).1 ?_
 refine range_gives (n := 3) (gf := 106) (lb := #[.pointer (some ⟨w.heap.size + 2, 0, none⟩), .pointer (some ⟨w.heap.size + 3, 0, none⟩)]) rfl (enters_of Tryz.func106 (by kernel_rfl) rfl) hgives (fun pre x => Stays.pure _) ?hK (Chg.refl [] _) (fun _ => rfl)
  (fun pre W => W.heap[w.heap.size]? = some (.cells #[.pointer (some ⟨B, 0, none⟩)] 76 (0, 0)) ∧ W.heap[w.heap.size + 1]? = some (metRow (metL g.nodes pre)) ∧ Chg [] w W) (fun _ _ _ => False)
  (fun s => (Stays.block _ _ _ rfl).and ((Stays.block _ _ _ rfl).and (Stays.since _ _ _ (by omega)))) (fun _ _ => Stays.pure _) ?h0
  (fun x a' W => a' = { tmps := #[.pointer (some ⟨B, 0, none⟩), .int .i64 n, .pointer (some ⟨w.heap.size, 0, none⟩), undef, .slice none 0 0, .pointer (some ⟨w.heap.size + 1, 0, none⟩), .int .i64 x, .pointer (some ⟨B, 0, none⟩), .int .i64 n, .func (.func 106) #[] #[.pointer (some ⟨w.heap.size + 2, 0, none⟩), .pointer (some ⟨w.heap.size + 3, 0, none⟩)], .int .i64 x, undef, undef, undef, undef, undef, undef, undef, undef, undef, undef, undef, undef, undef, undef, undef, undef, undef, undef, undef, undef, undef], defers := [] }) (fun x a' => Stays.pure _) ?assign ?body ?done ?stop
 case hK =>
  rintro pre x A A1 A2 C C' hc ht k1 ht2
  exact (((KeepL.of_chg0 hc).trans (.of_turn ht (by omega))).trans k1).trans (.of_turn ht2 (by omega))
 case h0 => exact ⟨H4.out.2.1, H4.out.2.2.1, H4.out.1⟩
 case assign =>
  rintro l pre x W K hi hx hK
  gi_wp2
  exact hK _ _ (Chg.refl _ _) rfl
 case body =>
  rintro l pre x a' W ⟨hbb, hmet, hch⟩ hx rfl
  obtain ⟨q, rfl, -, hq⟩ := ownN_in (falls_right H.out.1.right) (mayG g) H.out.2 x (hx.subset (by simp))
  have hwq := H.out.1.chg hch
  obtain ⟨bn, on, ak, nk, ck, rfl, hxx⟩ := hwq.gram.nodes q hq
  have hqn : q < n2 := by rw [H.out.1.gram.e2]; exact hq
  obtain ⟨kk, hkk⟩ : ∃ kk, kk = g.nodes[q].k := ⟨_, rfl⟩
  obtain ⟨rr, hrr⟩ : ∃ rr, rr = g.nodes[q].r := ⟨_, rfl⟩
  have hxk := hxx.k
  have hxr := hxx.r
  rw [← hkk] at hxk
  rw [← hrr] at hxr
  have x1 := cell_of_cells hwq.box 1
  simp at x1
  have x2 := cells1 hbb
  have HB := Lib.hid (And.intro hbb (And.intro hmet hch))
  clear hbb hch hwq hxx hx
  by_cases hk5 : kk = 5
  ·subst hk5
   obtain ⟨r0, r1⟩ := right_calls H.out.1.right _ (List.getElem_mem hq) hkk.symm
   rw [← hrr] at r0 r1
   obtain ⟨rn, hrn⟩ : ∃ rn : Nat, rr = rn := ⟨rr.toNat, by omega⟩
   subst hrn
   have hr32 : rn < 32 := by have := (right_sizes H.out.1.right).2.1; omega
   obtain ⟨u, hu⟩ : ∃ u, (metL g.nodes pre)[rn]? = some u := ⟨_, List.getElem?_eq_getElem (by rw [metL_len]; exact hr32)⟩
   have hmc := metRow_cell hmet hu
   have hmf := metRow_free hmet rn
   have HC : Hid (metL g.nodes (pre ++ [(q : Int)]) = (metL g.nodes pre).set rn true) := Lib.hid (metL_put hq hkk.symm hrr.symm)
   clear hmet hkk hrr r0 r1 hu
   gi_wp2_with fail
   obtain ⟨hbb, hmet, hch⟩ := HB.out
   have hc := (Chg.refl [w.heap.size + 1] W).setCell (p := ⟨w.heap.size + 1, rn, none⟩) (.inl (by simp)) (.bool true)
   refine ⟨keepsFrom_of_chg hc (fun i hi => .inl (by simp at hi; omega)), .of_chg hc (fun k hk => ?_), hc.heap hbb (by simp), ?_, hch.trans hc (fun k hk => .inr (by simp at hk; omega))⟩
   ·simp only [List.mem_singleton] at hk
    subst hk
    exact ⟨by omega, fun cs h => by rw [hmet] at h; simp [metRow] at h⟩
   ·rw [HC.out]
    exact metRow_set true hmet
  ·have hk5' : (kk == 5) = false := by simpa using hk5
   have HC : Hid (metL g.nodes (pre ++ [(q : Int)]) = metL g.nodes pre) := Lib.hid (metL_skip hq (by rw [← hkk]; exact hk5))
   clear hmet hkk hrr hk5
   gi_wp2_with fail
   obtain ⟨hbb, hmet, hch⟩ := HB.out
   exact ⟨keepsFrom_of_chg (Chg.refl [] W) (by simp), .refl _ _, hbb, by rw [HC.out]; exact hmet, hch⟩
 case done =>
  rintro D xs W hD hS ⟨hbb, hmet, hch⟩ hd
  have HD := Lib.hid (And.intro hmet (And.intro hch (And.intro hd (And.intro hS hD))))
  clear hbb hmet hch hd hS hD
  dsimp only
  go_wp2_with fail
  refine (list_any W (w.heap.size + 1) 0 (metL g.nodes xs) (metL_len _ _) (fun i x hx => by rw [Nat.zero_add]; exact metRow_cell HD.out.1 hx)).mono ?_
  rintro e w5 ⟨al, cl, rfl, hf, hc5⟩
  obtain ⟨hmet, hch, hd, rfl, hD⟩ := HD.out
  rw [← callsG_pick] at hf ⊢
  have hl : w.heap.size ≤ W.heap.size := hch.size
  have H5 := Lib.hid (And.intro (row_base hf hl) (And.intro (hch.tr hc5) (hc5.heap hd (by simp))))
  clear hmet hch hd hf hc5
  go_wp2_with fail
  refine leave_one (v := .slice al (callsG g n).length cl) (B := w4.heap.size) (I := fun W' => FreshInts w.heap.size W' al cl (callsG g n) ∧ Chg [] w W') H5.out.2.2 hD ((Stays.row _ _ _ _ _ _ _).and (Stays.since _ _ _ (by omega))) ⟨H5.out.1, H5.out.2.1⟩ ?_
  rintro W' ⟨hf, hch⟩
  exact ⟨by simp [results, Tryz.results42, go_sem], al, cl, rfl, hf, hch⟩
 case stop =>
  rintro D c pre W hD _ h _
  exact h.elim
end
end Go.Proofs.YtlklmpjakeedcaaGreatDoor
set_option linter.unusedVariables false
set_option linter.unusedSimpArgs false
set_option linter.unnecessarySimpa false
namespace Go.Proofs.YtlklmpjakeedcaaGreatDoor
open Go.RowKit Go.MapKept Go.Shelf

/-! ### Rows of rows of numbers -/
theorem Tryz.infoInts : (Tryz.prog.info? 34).map (fun i => (i.zero, i.size, i.bytes)) = some (some (.slice none 0 0), 1, 24) := by kernel_rfl
abbrev Is := Option Addr × Nat × List Int
def Is.cell (p : Is) : Value := .slice p.1 p.2.2.length p.2.1
def Is.own (p : Is) : Option Nat := p.cell.ownBlock
structure OwnIs (B : Nat) (w : World) (a : Option Addr) (c : Nat) (VS : List Is) : Prop where
 row : w.ownsRow B 34 1 (.slice a VS.length c) VS.length (VS.map Is.cell)
 each : ∀ p ∈ VS, FreshInts B w p.1 p.2.1 p.2.2
 apart : VS.Pairwise fun p q => ∀ k, p.own = some k → q.own ≠ some k
theorem OwnIs.nil (B : Nat) (w : World) : OwnIs B w none 0 [] := ⟨World.ownsRow_nil _ _ _ _, by simp, List.Pairwise.nil⟩
theorem OwnIs.chg0 {B : Nat} {w w' : World} {a : Option Addr} {c : Nat} {VS : List Is} (h : OwnIs B w a c VS) (hc : Chg [] w w') : OwnIs B w' a c VS := ⟨hc.row h.row (fun _ _ => by simp), fun p hp => hc.row (h.each p hp) (fun _ _ => by simp), h.apart⟩
theorem OwnIs.base {B B' : Nat} {w : World} {a : Option Addr} {c : Nat} {VS : List Is} (h : OwnIs B w a c VS) (hb : B' ≤ B) : OwnIs B' w a c VS := ⟨row_base h.row hb, fun p hp => row_base (h.each p hp) hb, h.apart⟩
/-- One row more, made behind all others. -/
theorem OwnIs.snoc {B B' : Nat} {w w1 : World} {a a' : Option Addr} {c c' : Nat} {VS : List Is} {p : Is} (h : OwnIs B w a c VS) (hB : B ≤ B') (hp : FreshInts B' w p.1 p.2.1 p.2.2) (hold : ∀ q ∈ VS, ∀ k, q.own = some k → k < B')
  (hr : w1.ownsRow B 34 1 (.slice a' (VS.length + 1) c') (VS.length + 1) (VS.map Is.cell ++ [p.cell])) (hg : w.grownBy w1 (Value.slice a VS.length c).ownBlock) : OwnIs B w1 a' c' (VS ++ [p]) := by
 have hc : Chg (Value.slice a VS.length c).ownBlock.toList w w1 := (Chg.refl _ w).grown hg (fun k hk => .inl (by rw [hk]; simp))
 have hS : ∀ k ∈ (Value.slice a VS.length c).ownBlock.toList, NotRow w 3 k := by
  intro k hk
  simp only [Option.mem_toList] at hk
  exact row_notrow h.row hk (by decide)
 refine ⟨by rw [List.length_append, List.map_append]; exact hr, fun q hq => ?_, ?_⟩
 ·rcases List.mem_append.1 hq with hq | hq
  ·exact hc.row (h.each q hq) (fun k hk hm => hS k hm _ _ _ _ _ (h.each q hq) hk)
  ·simp only [List.mem_singleton] at hq
   subst hq
   exact hc.row (row_base hp hB) (fun k hk hm => hS k hm _ _ _ _ _ hp hk)
 ·rw [List.pairwise_append]
  refine ⟨h.apart, List.pairwise_singleton _ _, fun q hq r hr k hk hk2 => ?_⟩
  simp only [List.mem_singleton] at hr
  subst hr
  have h1 := hold q hq k hk
  have h2 := (row_beyond hp hk2).1
  omega
theorem OwnIs.lt {B : Nat} {w : World} {a : Option Addr} {c : Nat} {VS : List Is} (h : OwnIs B w a c VS) : ∀ q ∈ VS, ∀ k, q.own = some k → k < w.heap.size := fun q hq k hk => (row_beyond (h.each q hq) hk).2.1
/-- Reading. -/
theorem OwnIs.at {B : Nat} {w : World} {a : Option Addr} {c : Nat} {VS : List Is} (h : OwnIs B w a c VS) {i : Nat} (hi : i < VS.length) : ∃ b, a = some ⟨b, 0, none⟩ ∧ B ≤ b ∧ w.cell? ⟨b, i, none⟩ = some VS[i].cell := by
 rcases h.row.2 with ⟨h0, h1⟩ | ⟨g, cap, cur, h0, hb, hg, hn, hc, hs, ht⟩
 ·omega
 ·cases h0
  refine ⟨g, rfl, hb, ?_⟩
  rw [cell_of_cells hg]
  have h1 : (VS.map Is.cell)[i]? = some VS[i].cell := by simp [hi]
  rw [← ht, List.getElem?_take] at h1
  split at h1
  ·simpa using h1
  ·cases h1
theorem OwnIs.ints {B : Nat} {w : World} {a : Option Addr} {c : Nat} {VS : List Is} (h : OwnIs B w a c VS) {i : Nat} (hi : i < VS.length) : Ints w VS[i].1 VS[i].2.2 := (ownInts_read (h.each _ (List.getElem_mem hi)).own).1
def NewRowsI (w : World) (zss : List (List Int)) (e : Ending) (w' : World) : Prop := ∃ a c VS, e = .returned (.slice a zss.length c) ∧ VS.map (·.2.2) = zss ∧ OwnIs w.heap.size w' a c VS ∧ Chg [] w w'

set_option maxRecDepth 100000 in
set_option maxHeartbeats 8000000 in
theorem Graph_any (w : World) (a1 : Option Addr) (n1 c1 : Nat) (a2 : Option Addr) (n2 c2 : Nat) (g : Gr) (hg : GramAt w a1 n1 c1 a2 n2 c2 g) (hre : Reach g) :
  Calls Tryz.prog 16 #[.agg #[.slice a1 n1 c1, .slice a2 n2 c2]] w (NewRowsI w (graphG g)) := by
 obtain ⟨i0, hi0, hz0, hz1, hz2⟩ := info_parts Tryz.infoInts
 have H := Lib.hid (And.intro hg (And.intro hre (And.intro hg.e1 hg.e2)))
 clear hg hre
 go_enter Tryz.func16, Tryz.ntmps16
 obtain ⟨x0, x1⟩ := cells2 (heap_alloc_same w (.cells #[.slice a1 n1 c1, .slice a2 n2 c2] 31))
 go_wp2_with fail
 refine (ofLeft_any _ a1 n1 c1 a2 n2 c2 g (H.out.1.keep ((Chg.refl [] w).alloc _).kp) H.out.2.1).mono ?_
 rintro e w2 ⟨hc2, hif⟩
 have hg2 := hc2.heap (heap_alloc_same w (.cells #[.slice a1 n1 c1, .slice a2 n2 c2] 31)) (by simp)
 have hcw := ((Chg.refl [] w).alloc _).tr0 hc2
 clear x0 x1 hc2
 obtain ⟨x0, x1⟩ := cells2 hg2
 cases hr : rightB g with
 | false =>
  rw [hr] at hif
  obtain rfl : e = _ := hif
  have HC := Lib.hid (And.intro hcw hr)
  clear hcw hr hg2
  go_wp2_with fail
  go_ret
  have e0 : graphG g = [] := by simp [graphG, HC.out.2]
  rw [e0]
  exact ⟨none, 0, [], rfl, rfl, OwnIs.nil _ _, HC.out.1⟩
 | true =>
  rw [hr, if_pos rfl] at hif
  obtain ⟨B, R, hB, hR, rfl, hw⟩ := hif
  have hn32 : n1 ≤ 32 := by have := (right_sizes hr).2.1; have := H.out.2.2.1; omega
  have HC := Lib.hid (And.intro hcw (And.intro hw (And.intro hr (And.intro hg2 (And.intro hB hR)))))
  clear hcw hr hg2 hB hR hw
  go_wp2_with fail
  clear x0 x1
  go_loopg [17, 2] n1 (fun d iv ov wr => ∃ (i q : Nat) (a : Option Addr) (c : Nat), d = n1 - i ∧ i ≤ n1 ∧ iv = .int .i64 i ∧ ov = .slice a q c ∧ q = i ∧ Hid (∃ VS : List Is, VS.length = i ∧ VS.map (·.2.2) = (g.rules.take i).map (fun r => callsG g r.body) ∧ OwnIs w2.heap.size wr a c VS ∧ Chg [] w2 wr))
  case atStart => exact ⟨0, 0, none, 0, rfl, Nat.zero_le _, rfl, rfl, rfl, Lib.hid ⟨[], rfl, rfl, OwnIs.nil _ _, Chg.refl _ _⟩⟩
  case round =>
   obtain ⟨i, q, a, c, rfl, hi, rfl, rfl, hq, hin⟩ := hrel
   obtain ⟨wq, rfl⟩ : ∃ wz, wz = wr := ⟨_, rfl⟩
   have HQ := Lib.hid hq
   clear hq
   by_cases hlt : i < n1
   ·have hir : i < g.rules.length := by have := H.out.2.2.1; omega
    obtain ⟨VS, v1, v2, v3, v4⟩ := hin.out
    obtain ⟨b, hb, hbn⟩ := right_body HC.out.2.2.1 hir
    obtain ⟨br, orr, rfl, hname, hbody⟩ := (H.out.1.keep (HC.out.1.tr v4).kp).rules i hir
    obtain ⟨nm, hnm⟩ : ∃ nm, nm = g.rules[i].name := ⟨_, rfl⟩
    rw [← hnm] at hname
    rw [hb] at hbody
    have HV := Lib.hid (And.intro v1 (And.intro v2 (And.intro v3 v4)))
    have HB : Hid (∃ h : i < g.rules.length, g.rules[i].body = (b : Int)) := Lib.hid ⟨hir, hb⟩
    clear v1 v2 v3 v4 hnm hb hir
    go_wp2_with fail
    obtain ⟨wA, eA⟩ : ∃ wA, wA = wq.alloc (.cells #[.string nm, .int .i64 b] 53) := ⟨_, rfl⟩
    have hcA : Chg [] wq wA := by rw [eA]; exact (Chg.refl _ _).alloc _
    rw [← eA]
    have hcall := calls_any wA B R _ n1 c1 a2 n2 c2 g (HC.out.2.1.chg (HV.out.2.2.2.tr hcA)) b hbn
    refine hcall.mono ?_
    clear hcall
    rintro e w4 ⟨al, cl, rfl, hf, hc4⟩
    obtain ⟨ll, hll⟩ : ∃ ll, ll = (callsG g b).length := ⟨_, rfl⟩
    rw [← hll]
    have hc2 : Chg [] wq w4 := hcA.tr hc4
    have hcB := hc2.alloc (.cells #[.slice al ll cl] 34)
    have hrow := hcB.row HV.out.2.2.1.row (fun _ _ => by simp)
    rw [HV.out.1] at hrow
    have hnew := cells_at (w := w4.alloc (.cells #[.slice al ll cl] 34)) (heap_alloc_same _ _)
    have h1' : ∀ u ∈ [Value.slice al ll cl], u.oneCell' = true := by simp [Value.oneCell']
    have h2' : i + 1 ≤ maxLen ∧ (i + 1) * 24 ≤ 140737488355328 := by simp only [maxLen]; omega
    have hb' : w2.heap.size ≤ (w4.alloc (.cells #[.slice al ll cl] 34)).heap.size := (HV.out.2.2.2.tr hcB).size
    have hcell : Is.cell (al, cl, callsG g b) = .slice al ll cl := by simp [Is.cell, hll]
    have H4 := Lib.hid (And.intro hrow (And.intro hnew (And.intro h1' (And.intro h2' (And.intro hb' (And.intro hf (And.intro hcB (And.intro hcell (And.intro hcA hc4)))))))))
    have hqi := HQ.out
    subst hqi
    clear hrow hnew h1' h2' hb' hf hcB hcell hc2 hc4 eA hcA hll
    go_wp2_with (at_builtin; refine wpList_append_own_at _ rfl _ _ 36 rfl w2.heap.size 34 i0 _ 1 24 Tryz.underlying36 hi0 hz0 hz1 hz2 rfl (by decide) (.slice a q c) q (VS.map Is.cell) rfl H4.out.1 ⟨w4.heap.size, 0, none⟩ 1 1 [.slice al ll cl] rfl rfl H4.out.2.1 H4.out.2.2.1 H4.out.2.2.2.1.1 H4.out.2.2.2.1.2 H4.out.2.2.2.2.1 ?_; intro v' w7 hr7 hg7 hn7 hb7; obtain ⟨a7, c7, rfl⟩ := ownsRow_slice hr7; have HW := Lib.hid (And.intro hr7 hg7); clear hr7 hg7 hn7 hb7)
    go_roundg (n1 - (q + 1))
    case measure => omega
    case rel =>
     obtain ⟨v1, v2, v3, v4⟩ := HV.out
     obtain ⟨hrow, hnew, h1', h2', hb', hf, hcB, hcell, hcA, hc4⟩ := H4.out
     obtain ⟨hr7, hg7⟩ := HW.out
     obtain ⟨hir, hbody⟩ := HB.out
     rw [← v1] at hg7
     have hwA : wq.heap.size ≤ wA.heap.size := hcA.size
     have hsn := (v3.chg0 hcB).snoc (B' := wA.heap.size) (p := (al, cl, callsG g b)) (Nat.le_trans v4.size hwA) (((Chg.refl [] w4).alloc (.cells #[.slice al ll cl] 34)).row hf (fun _ _ => by simp)) (fun r hr k hk => Nat.lt_of_lt_of_le (v3.lt r hr k hk) hwA) (by rw [hcell, v1]; exact hr7) hg7
     refine ⟨q + 1, q + 1, a7, c7, rfl, by omega, by go_num, rfl, rfl, Lib.hid ⟨VS ++ [(al, cl, callsG g b)], by simp [v1], ?_, hsn, (v4.tr hcB).grown hg7 (fun k hk => .inr ?_)⟩⟩
     ·rw [List.map_append, v2, List.take_add_one, List.getElem?_eq_getElem hir, List.map_append]
      simp [hbody]
     ·exact (row_beyond (v3.chg0 hcB).row hk).1
   ·obtain rfl : i = n1 := by omega
    go_wp2_with fail
    go_ret
    obtain ⟨VS, v1, v2, v3, v4⟩ := hin.out
    have e0 : graphG g = g.rules.map (fun r => callsG g r.body) := by simp [graphG, HC.out.2.2.1]
    rw [List.take_of_length_le (by have := H.out.2.2.1; omega), ← e0] at v2
    have e1 : (graphG g).length = VS.length := by rw [← v2]; simp
    refine ⟨a, c, VS, ?_, v2, v3.base HC.out.1.size, HC.out.1.tr v4⟩
    rw [e1, v1]
    first | rfl | (rw [HQ.out]; rfl)
end Go.Proofs.YtlklmpjakeedcaaGreatDoor

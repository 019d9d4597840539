/-
 The table of a row of nodes: the walk.
 Conditions: as many nodes as a slice can have; at most 2^40.
-/
import Derived.Test.YtlklmpjakeedcaaGreatDoorSEnGRule
set_option linter.unusedVariables false
set_option linter.unusedSimpArgs false
namespace Go.Proofs.YtlklmpjakeedcaaGreatDoor
open Go.RowKit Go.MapKept

def rowOf (n : Nat) (zs : List Int) : Obj := .cells (zs.map (Value.int .i64)).toArray 3 (0, 0)

theorem run_zeros (n : Nat) (hn : n ≤ 1099511627776) (w : World) : (Instr.makeSlice 34 (.int .i64 n) (.int .i64 n)).run Tryz.prog w = .ok (.slice (some ⟨w.heap.size, 0, none⟩) n n) (w.alloc (rowOf n (List.replicate n 0))) := by
 obtain ⟨i0, hi, hz0, hz1, hz2⟩ := info_parts Tryz.infoInt
 have h1 := run_make (P := Tryz.prog) w 34 3 i0 (.int .i64 0) Tryz.underlying34 hi hz0 .i64 .i64 n n (by omega) (by omega) (by rw [hz2]; omega) (by omega)
 rw [h1]
 simp only [Int.toNat_natCast, hz1, rowOf]
 have : madeCells (Value.int .i64 0).cells (n * 1) = (List.map (Value.int .i64) (List.replicate n 0)).toArray := by
  apply Array.ext
  ·simp [madeCells]
  ·intro i h1 h2
   simp [madeCells, Value.cells, Nat.mod_one]
 rw [this]

/-- Sizes, heights as numbers, zeros ahead. -/
def sizesL (j : Nat) (t : List (Nat × Nat)) : List Int := List.replicate j 0 ++ t.map fun p => (p.1 : Int)
def heightsL (j : Nat) (t : List (Nat × Nat)) : List Int := List.replicate j 0 ++ t.map fun p => (p.2 : Int)
theorem row_cell {w : World} {b m i : Nat} {zs : List Int} {x : Int} (h : w.heap[b]? = some (rowOf m zs)) (hx : zs[i]? = some x) : w.cell? ⟨b, i, none⟩ = some (.int .i64 x) := by
 rw [cell_of_cells h]
 simp [hx]
theorem row_free {w : World} {b m : Nat} {zs : List Int} (h : w.heap[b]? = some (rowOf m zs)) (i : Nat) : w.frozen? ⟨b, i, none⟩ = false := free_of_cells h i
theorem row_set {w : World} {b m i : Nat} {zs : List Int} (x : Int) (h : w.heap[b]? = some (rowOf m zs)) : (w.setCell ⟨b, i, none⟩ (.int .i64 x)).heap[b]? = some (rowOf m (zs.set i x)) := by
 rw [heap_setCell_same h]
 simp [rowOf, List.map_set]
theorem zeros_set (j : Nat) (l : List Int) (x : Int) : (List.replicate (j + 1) 0 ++ l).set j x = List.replicate j 0 ++ x :: l := by
 rw [List.replicate_succ', List.append_assoc, List.set_append_right _ _ (by simp)]
 simp
theorem heap_set_ne {w : World} {b c i : Nat} {u : Value} {o : Obj} (h : w.heap[b]? = some o) (hn : b ≠ c) : (w.setCell ⟨c, i, none⟩ u).heap[b]? = some o := (Below.heap_setCell _ _ _ _ (fun e => hn (by simpa using e))).trans h
theorem row_ints {w : World} {b m : Nat} {zs : List Int} (h : w.heap[b]? = some (rowOf m zs)) : Ints w (some ⟨b, 0, none⟩) zs := fun i hi => ⟨b, 0, rfl, by rw [Nat.zero_add]; exact row_cell h (by simp [hi])⟩
def TreeInts (w : World) (a1 : Option Addr) (n1 : Nat) (a2 : Option Addr) (n2 : Nat) (t : List (Nat × Nat)) : Prop :=
 n1 = t.length ∧ n2 = t.length ∧ Ints w a1 (t.map fun p => (p.1 : Int)) ∧ Ints w a2 (t.map fun p => (p.2 : Int))
theorem TreeInts.keep {w w' : World} {a1 a2 : Option Addr} {n1 n2 : Nat} {t : List (Nat × Nat)} (h : TreeInts w a1 n1 a2 n2 t) (k : Kp w w') : TreeInts w' a1 n1 a2 n2 t := ⟨h.1, h.2.1, h.2.2.1.keep k, h.2.2.2.keep k⟩
def OfPost (ns : List Nd) (w : World) (e : Ending) (w' : World) : Prop :=
 ∃ a1 n1 c1 a2 n2 c2, e = .returned (.tuple #[.agg #[.slice a1 n1 c1, .slice a2 n2 c2], .bool (tab ns).isSome]) ∧ Chg [] w w' ∧ (∀ t, tab ns = some t → TreeInts w' a1 n1 a2 n2 t)
/-- The state of the rows when the nodes from j on are told. -/
structure OfAt (w : World) (ns : List Nd) (T bs bh n : Nat) (j : Nat) (t : List (Nat × Nat)) (wr : World) : Prop where
 tree : wr.heap[T]? = some (.cells #[.slice (some ⟨bs, 0, none⟩) n n, .slice (some ⟨bh, 0, none⟩) n n] 67 (0, 0))
 sizes : wr.heap[bs]? = some (rowOf n (sizesL j t))
 heights : wr.heap[bh]? = some (rowOf n (heightsL j t))
 new : w.heap.size ≤ T ∧ w.heap.size ≤ bs ∧ w.heap.size ≤ bh ∧ T ≠ bs ∧ T ≠ bh ∧ bs ≠ bh
 tab : tabFrom (ns.drop j) j = some t
 chg : Chg [] w wr
theorem OfAt.keep {w wr w' : World} {ns : List Nd} {T bs bh n j : Nat} {t : List (Nat × Nat)} (h : OfAt w ns T bs bh n j t wr) (hc : Chg [] wr w') : OfAt w ns T bs bh n j t w' :=
 ⟨hc.heap h.tree (by simp), hc.heap h.sizes (by simp), hc.heap h.heights (by simp), h.new, h.tab, h.chg.tr hc⟩

theorem three_blocks (w : World) (A B C : Obj) : (((w.alloc A).alloc B).alloc C).drew.heap[w.heap.size]? = some A ∧ (((w.alloc A).alloc B).alloc C).drew.heap[w.heap.size + 1]? = some B ∧ (((w.alloc A).alloc B).alloc C).drew.heap[w.heap.size + 1 + 1]? = some C := by
 have h1 := heap_alloc_same (w.alloc A) B
 have h2 := heap_alloc_same ((w.alloc A).alloc B) C
 simp only [World.size_alloc] at h1 h2
 exact ⟨heap_alloc_lt (heap_alloc_lt (heap_alloc_same w A) B) C, heap_alloc_lt h1 C, h2⟩
/-- What stands in the rows at a place that is told. -/
theorem OfAt.at {w wr : World} {ns : List Nd} {T bs bh n j : Nat} {t : List (Nat × Nat)} (h : OfAt w ns T bs bh n j t wr) (hn : n = ns.length) {m : Nat} (hm : j ≤ m) (hl : m < n) (hj : j ≤ n) : ∃ z hh, t[m - j]? = some (z, hh) ∧ wr.cell? ⟨bs, m, none⟩ = some (.int .i64 z) ∧ wr.cell? ⟨bh, m, none⟩ = some (.int .i64 hh) ∧ m + z ≤ n ∧ hh ≤ z := by
 subst hn
 obtain ⟨z, hh, h1, _, h3, h4⟩ := tabOk_le (tabFrom_ok _ j rfl hj t h.tab) hm hl
 refine ⟨z, hh, h1, row_cell h.sizes ?_, row_cell h.heights ?_, h3, h4⟩
 ·unfold sizesL
  rw [List.getElem?_append_right (by simpa using hm)]
  simp [h1]
 ·unfold heightsL
  rw [List.getElem?_append_right (by simpa using hm)]
  simp [h1]

theorem OfAt.told {w wr w' : World} {ns : List Nd} {T bs bh n i x h : Nat} {t : List (Nat × Nat)} (hs : OfAt w ns T bs bh n (i + 1) t wr) (hil : i < ns.length) (hk : kidsTab t (i + 1) ns[i].kids (i + 1) 0 = some (x, h)) (hx : i ≤ x)
  (hw : w' = ((wr.setCell ⟨bs, i, none⟩ (.int .i64 ((x : Int) - i))).setCell ⟨bh, i, none⟩ (.int .i64 ((h : Int) + 1))).drew ∨ w' = ((wr.setCell ⟨bh, i, none⟩ (.int .i64 ((h : Int) + 1))).setCell ⟨bs, i, none⟩ (.int .i64 ((x : Int) - i))).drew) :
  OfAt w ns T bs bh n i ((x - i, h + 1) :: t) w' := by
 obtain ⟨h1, h2, h3, ⟨n1, n2, n3, n4, n5, n6⟩, h5, h6⟩ := hs
 have e1 : (sizesL (i + 1) t).set i ((x : Int) - i) = sizesL i ((x - i, h + 1) :: t) := by
  unfold sizesL
  rw [zeros_set]
  simp only [List.map_cons]
  congr 2
  omega
 have e2 : (heightsL (i + 1) t).set i ((h : Int) + 1) = heightsL i ((x - i, h + 1) :: t) := by
  unfold heightsL
  rw [zeros_set]
  simp only [List.map_cons]
  congr 2
 rcases hw with rfl | rfl
 ·refine ⟨heap_set_ne (heap_set_ne h1 n4) n5, ?_, ?_, ⟨n1, n2, n3, n4, n5, n6⟩, tabFrom_step_some hil h5 hk, ((h6.setCell (.inr n2) _).setCell (.inr n3) _).drew⟩
  ·rw [← e1]; exact heap_set_ne (row_set _ h2) n6
  ·rw [← e2]; exact row_set _ (heap_set_ne h3 (Ne.symm n6))
 ·refine ⟨heap_set_ne (heap_set_ne h1 n5) n4, ?_, ?_, ⟨n1, n2, n3, n4, n5, n6⟩, tabFrom_step_some hil h5 hk, ((h6.setCell (.inr n3) _).setCell (.inr n2) _).drew⟩
  ·rw [← e1]; exact row_set _ (heap_set_ne h2 n6)
  ·rw [← e2]; exact heap_set_ne (row_set _ h3) (Ne.symm n6)
theorem sizesL_zero (t : List (Nat × Nat)) : sizesL 0 t = t.map fun p => (p.1 : Int) := by simp [sizesL]
theorem heightsL_zero (t : List (Nat × Nat)) : heightsL 0 t = t.map fun p => (p.2 : Int) := by simp [heightsL]

set_option maxRecDepth 100000 in
set_option maxHeartbeats 4000000 in
theorem of_any (w : World) (a : Option Addr) (n c : Nat) (ns : List Nd) (hn : n = ns.length) (hs : n ≤ 1099511627776) (hr : Nodes w a ns) (hi : ∀ x ∈ ns, ∀ z ∈ x.kids, I64 z) :
  Calls Tryz.prog 68 #[.slice a n c] w (OfPost ns w) := by
 have hz := run_zeros n hs
 have H := Lib.hid (And.intro hn (And.intro hr hi))
 clear hn hr hi
 go_enter Tryz.func68, Tryz.ntmps68
 go_wp2_with fail
 go_region
 all_goals clear hz
 all_goals go_wp2_with fail
 all_goals go_loopg [4] (2 * n) (fun d iv wr => ∃ j t bs bh, d = 2 * j ∧ j ≤ n ∧ iv = .int .i64 ((j : Int) - 1) ∧ OfAt w ns w.heap.size bs bh n j t wr)
 case atStart => 
  obtain ⟨h1, h2, h3⟩ := three_blocks w (.cells #[.slice (some ⟨w.heap.size + 1, 0, none⟩) n n, .slice (some ⟨w.heap.size + 1 + 1, 0, none⟩) n n] 67) (rowOf n (List.replicate n 0)) (rowOf n (List.replicate n 0))
  exact ⟨n, [], w.heap.size + 1, w.heap.size + 1 + 1, rfl, Nat.le_refl _, rfl, h1, by simpa [sizesL] using h2, by simpa [heightsL] using h3, by omega, by simp [H.out.1, tabFrom], ((((Chg.refl _ _).alloc _).alloc _).alloc _).drew⟩
 case atStart =>
  obtain ⟨h1, h2, h3⟩ := three_blocks w (.cells #[.slice (some ⟨w.heap.size + 1 + 1, 0, none⟩) n n, .slice (some ⟨w.heap.size + 1, 0, none⟩) n n] 67) (rowOf n (List.replicate n 0)) (rowOf n (List.replicate n 0))
  exact ⟨n, [], w.heap.size + 1 + 1, w.heap.size + 1, rfl, Nat.le_refl _, rfl, h1, by simpa [sizesL] using h3, by simpa [heightsL] using h2, by omega, by simp [H.out.1, tabFrom], ((((Chg.refl _ _).alloc _).alloc _).alloc _).drew⟩
 all_goals
  obtain ⟨j, t, bs, bh, rfl, hj, rfl, hst⟩ := hrel
  obtain ⟨T, hT⟩ : ∃ T, T = w.heap.size := ⟨_, rfl⟩
  rw [← hT] at hst ⊢
  have HS := Lib.hid hst
  have HT := Lib.hid hT
  clear hT
  have c01 := cells2 hst.tree
  have f0 := free_of_cells hst.tree 0
  have f1 := free_of_cells hst.tree 1
  have hTl := lt_of_block hst.tree
  obtain ⟨c0, c1⟩ := c01
  clear hst
  obtain ⟨wq, rfl⟩ : ∃ wq : World, wq = wr := ⟨_, rfl⟩
  cases j with
  | zero =>
   rw [show ((0 : Nat) : Int) - 1 = -1 from rfl]
   go_wp2
   refine bodyPost_ret (v := .tuple #[.agg #[.slice (some ⟨bs, 0, none⟩) n n, .slice (some ⟨bh, 0, none⟩) n n], .bool true]) (by simp [results, Tryz.results68, go_sem, c0, c1, hTl]) rfl ?_
   obtain ⟨h1, h2, h3, ⟨n1, n2, n3, n4, n5, n6⟩, h5, h6⟩ := HS.out
   have hT := HT.out
   subst hT
   have htab : tab ns = some t := by simpa [tab] using h5
   refine ⟨_, _, _, _, _, _, by rw [htab]; rfl, ((h6.setCell (.inr (Nat.le_refl _)) _).setCell (.inr (Nat.le_refl _)) _), fun t' ht' => ?_⟩
   rw [htab] at ht'
   cases ht'
   have hl : t.length = n := by have := (tab_ok htab).1; have := H.out.1; omega
   have e1 := row_ints (heap_set_ne (i := 1) (u := .slice (some ⟨bh, 0, none⟩) n n) (heap_set_ne (i := 0) (u := .slice (some ⟨bs, 0, none⟩) n n) h2 (Ne.symm n4)) (Ne.symm n4))
   have e2 := row_ints (heap_set_ne (i := 1) (u := .slice (some ⟨bh, 0, none⟩) n n) (heap_set_ne (i := 0) (u := .slice (some ⟨bs, 0, none⟩) n n) h3 (Ne.symm n5)) (Ne.symm n5))
   rw [sizesL_zero] at e1
   rw [heightsL_zero] at e2
   exact ⟨hl.symm, hl.symm, e1, e2⟩
  | succ i =>
   rw [show ((i + 1 : Nat) : Int) - 1 = (i : Int) from by omega]
   have hil : i < ns.length := by have := H.out.1; omega
   obtain ⟨b, o, ak, nk, ck, rfl, hx⟩ := (H.out.2.1.keep HS.out.chg.kp) i hil
   have h8 := hx.kids
   have hkn := hx.len
   have hkc := hx.le
   have hkm := hx.cap
   unfold maxLen at hkm
   have HX := Lib.hid (And.intro hx.len hx.ints)
   clear hx hkn
   have hb8 := World.block_lt_of_cell? _ _ h8
   simp only at hb8
   go_wp2_with fail
   go_loopg [31, 5, 6] nk (fun d kv xv hv wr => ∃ (k x y : Nat), d = nk - k ∧ k ≤ nk ∧ kv = .int .i64 k ∧ xv = .int .i64 x ∧ hv = .int .i64 y ∧ i + 1 ≤ x ∧ x ≤ n ∧ y ≤ n ∧ Hid (Chg [] wq wr ∧ kidsTab t (i + 1) (ns[i].kids.take k) (i + 1) 0 = some (x, y)))
   case atStart => exact ⟨0, i + 1, 0, rfl, Nat.zero_le _, rfl, by go_num, rfl, Nat.le_refl _, by omega, Nat.zero_le _, Lib.hid ⟨Chg.refl _ _, rfl⟩⟩
   case round =>
    obtain ⟨k, x, y, rfl, hk, rfl, rfl, rfl, hx1, hx2, hx3, hin⟩ := hrel
    have hst := HS.out.keep hin.out.1
    have c01 := cells2 hst.tree
    have g0 := free_of_cells hst.tree 0
    have g1 := free_of_cells hst.tree 1
    have hTl2 := lt_of_block hst.tree
    obtain ⟨d0, d1⟩ := c01
    have HQ := Lib.hid hst
    clear hst
    by_cases hlt : k < nk
    ·have hkl : k < ns[i].kids.length := by have := HX.out.1; omega
     obtain ⟨bk, ok, rfl, hck⟩ := (HX.out.2.keep hin.out.1.kp) k hkl
     have hzI : I64 ns[i].kids[k] := H.out.2.2 _ (List.getElem_mem hil) _ (List.getElem_mem hkl)
     have hsn : kidsTab t (i + 1) (ns[i].kids.take (k + 1)) (i + 1) 0 = kidsTab t (i + 1) [ns[i].kids[k]] x y := by
      rw [List.take_succ_eq_append_getElem hkl, kidsTab_snoc, hin.out.2]
     have hrest : ns[i].kids = ns[i].kids.take (k + 1) ++ ns[i].kids.drop (k + 1) := (List.take_append_drop _ _).symm
     obtain ⟨z, hzz⟩ : ∃ z, z = ns[i].kids[k] := ⟨_, rfl⟩
     rw [← hzz] at hck hzI hsn
     have HZ := Lib.hid (And.intro hzz (And.intro hsn hrest))
     clear hsn hrest hzz
     obtain ⟨hzl, hzh⟩ := hzI
     have hbk := World.block_lt_of_cell? _ _ hck
     simp only at hbk
     by_cases hok : z = (x : Int) ∧ x < n
     ·obtain ⟨rfl, hxn⟩ := hok
      obtain ⟨zz, hh, ht1, k0, k1, hb1, hb2⟩ := HQ.out.at H.out.1 (m := x) (by omega) hxn (by omega)
      have hx0 : (0 : Int) ≤ (x : Int) := by omega
      have hxn' : (x : Int) < (n : Int) := by omega
      have HT1 := Lib.hid ht1
      clear ht1
      go_wp2_with fail
      go_region
      all_goals go_wp2
      all_goals go_roundg (nk - (k + 1))
      case measure => omega
      case rel =>
       refine ⟨k + 1, x + zz, hh, rfl, by omega, by go_num, by go_num, rfl, by omega, by omega, by omega, Lib.hid ⟨hin.out.1.drew, ?_⟩⟩
       rw [HZ.out.2.1]
       simp only [kidsTab, if_true, HT1.out]
       rw [Nat.max_eq_right (by omega)]
      case measure => omega
      case rel =>
       refine ⟨k + 1, x + zz, y, rfl, by omega, by go_num, by go_num, rfl, by omega, by omega, by omega, Lib.hid ⟨hin.out.1.drew, ?_⟩⟩
       rw [HZ.out.2.1]
       simp only [kidsTab, if_true, HT1.out]
       rw [Nat.max_eq_left (by omega)]
     ·have hnone : tab ns = none := by
       have hz1 : kidsTab t (i + 1) [z] x y = none := by
        simp only [kidsTab]
        by_cases e : z = (x : Int)
        ·rw [if_pos e]
         have hxn : ¬ x < n := fun h => hok ⟨e, h⟩
         have : t[x - (i + 1)]? = none := by
          have hl := (tabFrom_ok _ (i + 1) rfl (by have := H.out.1; omega) t HQ.out.tab).1
          rw [List.getElem?_eq_none_iff, hl]
          have := H.out.1
          omega
         rw [this]
        ·rw [if_neg e]
       have h1 : kidsTab t (i + 1) ns[i].kids (i + 1) 0 = none := by
        rw [HZ.out.2.2]
        exact kidsTab_none (HZ.out.2.1.trans hz1)
       exact tab_none (by omega) (tabFrom_step_none hil HQ.out.tab h1)
      have HN := Lib.hid hnone
      clear hnone
      have hz2 : (z = (x : Int) ∧ n = x) ∨ (z != (x : Int)) = true := by
       by_cases e : z = (x : Int)
       ·left
        refine ⟨e, ?_⟩
        have hxn : ¬ x < n := fun h => hok ⟨e, h⟩
        omega
       ·right
        simpa using e
      clear hok
      rcases hz2 with ⟨rfl, rfl⟩ | hz2
      all_goals
       go_wp2_with fail
       refine bodyPost_ret (v := .tuple #[.agg #[.slice (some ⟨bs, 0, none⟩) n n, .slice (some ⟨bh, 0, none⟩) n n], .bool false]) (by simp [results, Tryz.results68, go_sem, d0, d1, hTl2]) rfl ?_
       obtain ⟨h1, h2, h3, ⟨n1, n2, n3, n4, n5, n6⟩, h5, h6⟩ := HQ.out
       have hT := HT.out
       subst hT
       exact ⟨_, _, _, _, _, _, by rw [HN.out]; rfl, ((h6.setCell (.inr (Nat.le_refl _)) _).setCell (.inr (Nat.le_refl _)) _), fun t' ht' => by rw [HN.out] at ht'; cases ht'⟩
    ·have s0 : wr.cell? ⟨bs, i, none⟩ = some (.int .i64 0) := row_cell HQ.out.sizes (by unfold sizesL; rw [List.getElem?_append_left (by simp)]; simp)
     have s1 : wr.cell? ⟨bh, i, none⟩ = some (.int .i64 0) := row_cell HQ.out.heights (by unfold heightsL; rw [List.getElem?_append_left (by simp)]; simp)
     have q0 := row_free HQ.out.sizes i
     have q1 := row_free HQ.out.heights i
     have hi0 : (0 : Int) ≤ (i : Int) := by omega
     have hin2 : i < n := by omega
     have hin' : (i : Int) < (n : Int) := by omega
     obtain ⟨n1, n2, n3, n4, n5, n6⟩ := HQ.out.new
     have m4 := Ne.symm n4
     have m5 := Ne.symm n5
     have m6 := Ne.symm n6
     go_wp2_with fail
     go_region
     all_goals go_wp2
     all_goals (have hT := HT.out; subst hT)
     all_goals go_roundg (2 * i)
     all_goals try (case measure => omega)
     all_goals
      have hkk : kidsTab t (i + 1) ns[i].kids (i + 1) 0 = some (x, y) := by
       have h1 := hin.out.2
       have h2 : k = ns[i].kids.length := by have := HX.out.1; omega
       rw [h2, List.take_length] at h1
       exact h1
      refine ⟨i, (x - i, y + 1) :: t, bs, bh, rfl, by omega, rfl, ?_⟩
      first
      | exact OfAt.told HQ.out hil hkk (by omega) (.inl rfl)
      | exact OfAt.told HQ.out hil hkk (by omega) (.inr rfl)
end Go.Proofs.YtlklmpjakeedcaaGreatDoor

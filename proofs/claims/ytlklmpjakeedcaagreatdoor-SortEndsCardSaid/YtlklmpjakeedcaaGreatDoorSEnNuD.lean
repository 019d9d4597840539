/-
 The work on what may match nothing: the ways laid, the rounds gone through, all ranks known.
 Conditions: the grammar reads as data, within the reach.
-/
import Derived.Test.YtlklmpjakeedcaaGreatDoorSEnNuC
import Derived.Test.YtlklmpjakeedcaaGreatDoorSEnGMix
import Derived.Test.YtlklmpjakeedcaaGreatDoorSEnGFresh
import Derived.Test.YtlklmpjakeedcaaGreatDoorSEnNuB
set_option linter.unusedVariables false
set_option linter.unusedSimpArgs false
namespace Go.Proofs.YtlklmpjakeedcaaGreatDoor
open Go.RowKit Go.MapKept Go.Shelf

set_option maxRecDepth 100000 in
set_option maxHeartbeats 2000000 in
/-- The map of ways is laid. -/
theorem ways_made (w : World) : ∃ w9 : World, ∃ w1 w2 w3 w4 w5 w6 w7 w8 : World,
  (Instr.mapUpdate 193 (.map (some w.heap.size)) (.int .i64 1) (shapeF 153)).run Tryz.prog (w.alloc (.map #[] 0)) = .ok () w1 ∧
  (Instr.mapUpdate 193 (.map (some w.heap.size)) (.int .i64 8) (shapeF 153)).run Tryz.prog w1 = .ok () w2 ∧
  (Instr.mapUpdate 193 (.map (some w.heap.size)) (.int .i64 10) (shapeF 153)).run Tryz.prog w2 = .ok () w3 ∧
  (Instr.mapUpdate 193 (.map (some w.heap.size)) (.int .i64 11) (shapeF 153)).run Tryz.prog w3 = .ok () w4 ∧
  (Instr.mapUpdate 193 (.map (some w.heap.size)) (.int .i64 12) (shapeF 153)).run Tryz.prog w4 = .ok () w5 ∧
  (Instr.mapUpdate 193 (.map (some w.heap.size)) (.int .i64 6) (shapeF 154)).run Tryz.prog w5 = .ok () w6 ∧
  (Instr.mapUpdate 193 (.map (some w.heap.size)) (.int .i64 9) (shapeF 154)).run Tryz.prog w6 = .ok () w7 ∧
  (Instr.mapUpdate 193 (.map (some w.heap.size)) (.int .i64 7) (shapeF 155)).run Tryz.prog w7 = .ok () w8 ∧
  (Instr.mapUpdate 193 (.map (some w.heap.size)) (.int .i64 5) (shapeF 156)).run Tryz.prog w8 = .ok () w9 ∧
  MapIs Tryz.prog 46 (Value.int .i64) w9 w.heap.size waysM ∧ Chg [] w w9 := by
 have key := fun k h => (kindKey k h)
 obtain ⟨l1, k1⟩ := key 1 (by decide)
 obtain ⟨l5, k5⟩ := key 5 (by decide)
 obtain ⟨l6, k6⟩ := key 6 (by decide)
 obtain ⟨l7, k7⟩ := key 7 (by decide)
 obtain ⟨l8, k8⟩ := key 8 (by decide)
 obtain ⟨l9, k9⟩ := key 9 (by decide)
 obtain ⟨l10, k10⟩ := key 10 (by decide)
 obtain ⟨l11, k11⟩ := key 11 (by decide)
 obtain ⟨l12, k12⟩ := key 12 (by decide)
 obtain ⟨w1, r1, M1, h1⟩ := (MapIs.made Tryz.prog 46 (Value.int .i64) w).put kind_inj Tryz.keyedKind Tryz.underlying193 k1 (shapeF 153)
 obtain ⟨w2, r2, M2, h2⟩ := M1.put kind_inj Tryz.keyedKind Tryz.underlying193 k8 (shapeF 153)
 obtain ⟨w3, r3, M3, h3⟩ := M2.put kind_inj Tryz.keyedKind Tryz.underlying193 k10 (shapeF 153)
 obtain ⟨w4, r4, M4, h4⟩ := M3.put kind_inj Tryz.keyedKind Tryz.underlying193 k11 (shapeF 153)
 obtain ⟨w5, r5, M5, h5⟩ := M4.put kind_inj Tryz.keyedKind Tryz.underlying193 k12 (shapeF 153)
 obtain ⟨w6, r6, M6, h6⟩ := M5.put kind_inj Tryz.keyedKind Tryz.underlying193 k6 (shapeF 154)
 obtain ⟨w7, r7, M7, h7⟩ := M6.put kind_inj Tryz.keyedKind Tryz.underlying193 k9 (shapeF 154)
 obtain ⟨w8, r8, M8, h8⟩ := M7.put kind_inj Tryz.keyedKind Tryz.underlying193 k7 (shapeF 155)
 obtain ⟨w9, r9, M9, h9⟩ := M8.put kind_inj Tryz.keyedKind Tryz.underlying193 k5 (shapeF 156)
 refine ⟨w9, w1, w2, w3, w4, w5, w6, w7, w8, r1, r2, r3, r4, r5, r6, r7, r8, r9, M9.congr fun p => ?_, ?_⟩
 ·unfold waysM
  by_cases e1 : p = 1 <;> by_cases e5 : p = 5 <;> by_cases e6 : p = 6 <;> by_cases e7 : p = 7 <;> by_cases e8 : p = 8 <;> by_cases e9 : p = 9 <;> by_cases e10 : p = 10 <;> by_cases e11 : p = 11 <;> by_cases e12 : p = 12 <;>
   first
   | (exfalso; omega)
   | (subst_vars; rfl)
   | (simp [*])
 ·have t1 := ((Chg.refl [] w).alloc (.map #[] 0))
  have up := fun {x y : World} (h : Chg [] w x) (k : Chg [w.heap.size] x y) => h.trans k (fun j hj => .inr (by simp at hj; omega))
  exact up (up (up (up (up (up (up (up (up t1 h1) h2) h3) h4) h5) h6) h7) h8) h9

set_option maxRecDepth 100000 in
set_option maxHeartbeats 1000000 in
theorem rounds_any (w : World) (v : Value) (B : Nat) (hv : v = .pointer (some ⟨B, 0, none⟩)) :
  Calls Tryz.prog 157 #[v] w fun e w' => e = .returned (.func (.func 180) #[] #[.pointer (some ⟨w.heap.size, 0, none⟩)]) ∧ w' = w.alloc (.cells #[.pointer (some ⟨B, 0, none⟩)] 162) := by
 subst hv
 go_enter Tryz.func157, Tryz.ntmps157
 go_wp2
 go_ret
 exact ⟨rfl, rfl⟩

theorem WorkAt.stays {B0 B R m : Nat} {a1 : Option Addr} {n1 c1 : Nat} {a2 : Option Addr} {n2 c2 : Nat} {g : Gr} {rs : List Int} (hm : m < B0) : Stays B0 fun W => WorkAt W B R m a1 n1 c1 a2 n2 c2 g rs :=
 ⟨fun h hc => h.chg hc, fun h ht => ⟨ht.heap h.box rfl, h.gram.keep ht.kp, ht.heap h.row rfl, h.len, by obtain ⟨l, hl, hc⟩ := ht.chg; exact h.ways.chg hc (by simp; omega)⟩⟩
theorem RoundsI.stays {B0 Bl B R m : Nat} {a1 : Option Addr} {n1 c1 : Nat} {a2 : Option Addr} {n2 c2 : Nat} {g : Gr} {j : Nat} (hm : m < B0) : Stays B0 (RoundsI Bl B R m a1 n1 c1 a2 n2 c2 g j) :=
 ⟨fun h hc => h.chg hc, fun h ht => ⟨ht.heap h.p rfl, (WorkAt.stays hm).turn h.work ht⟩⟩
/-- What is told: the work, or that the grammar is not right. -/
def WorkG (w : World) (a1 : Option Addr) (n1 c1 : Nat) (a2 : Option Addr) (n2 c2 : Nat) (g : Gr) (e : Ending) (w' : World) : Prop :=
 Chg [] w w' ∧ if rightB g then ∃ B R m, e = .returned (.tuple #[.pointer (some ⟨B, 0, none⟩), .bool true]) ∧ WorkAt w' B R m a1 n1 c1 a2 n2 c2 g (ranksL g g.rules.length) else e = .returned (.tuple #[.pointer none, .bool false])

section
attribute [local go_sem] Oper.semAt_some
set_option maxRecDepth 100000 in
set_option maxHeartbeats 8000000 in
theorem ofNull_any (w : World) (a1 : Option Addr) (n1 c1 : Nat) (a2 : Option Addr) (n2 c2 : Nat) (g : Gr) (hg : GramAt w a1 n1 c1 a2 n2 c2 g) (hre : Reach g) :
  Calls Tryz.prog 103 #[.agg #[.slice a1 n1 c1, .slice a2 n2 c2]] w (WorkG w a1 n1 c1 a2 n2 c2 g) := by
 have H := Lib.hid (And.intro hg hre)
 clear hg hre
 refine (callsIn_wide (n := 3)).1 ?_
 refine callsIn_of_wp_marks Tryz.func103 rfl trivial ?_ rfl
 simp only [Tryz.ntmps103, List.size_toArray, List.length_cons, List.length_nil, Nat.reduceAdd, Nat.reduceSub, Array.replicate_succ, Array.replicate_zero, List.push_toArray, List.append_toArray, List.nil_append, List.cons_append]
 refine wpIn_wide.2 ?_
 go_wp2_with fail
 refine (Right_any _ a1 n1 c1 a2 n2 c2 g (H.out.1.keep (((Chg.refl [] w).alloc _).alloc _).kp)).mono ?_
 rintro e w1 ⟨rfl, hc1⟩
 have hb0 := hc1.heap (heap_alloc_lt (heap_alloc_same _ _) _) (by simp)
 have hb1 := hc1.heap (heap_alloc_same _ _) (by simp)
 have hl1 := hc1.size
 simp only [World.size_alloc] at hb1 hl1
 have H1 := Lib.hid (And.intro hb0 (And.intro hb1 ((((Chg.refl [] w).alloc _).alloc _).tr0 hc1)))
 clear hc1 hb0 hb1
 have r0 := cells1 H1.out.2.1
 have f0 := free_of_cells H1.out.2.1 0
 cases hrg : rightB g with
 | false =>
  go_wp2_with fail
  have hz := heap_setCell_same H1.out.2.1 0 (.pointer none)
  simp at hz
  have c0 := cells1 hz
  exact leave_none (v := .tuple #[.pointer none, .bool false]) (by simp [results, Tryz.results103, go_sem, c0]) ⟨H1.out.2.2.trans ((Chg.refl [w.heap.size + 1] w1).setCell (p := ⟨w.heap.size + 1, 0, none⟩) (.inl (by simp)) _) (fun k hk => .inr (by simp at hk; omega)), by rw [hrg]; rfl⟩
 | true =>
  have hn1 : n1 ≤ 32 := by have := (right_sizes hrg).2.1; have := H.out.1.e1; omega
  have HR := Lib.hid hrg
  clear hrg
  have hz := run_zeros n1 (by omega)
  obtain ⟨x0, x1⟩ := cells2 H1.out.1
  obtain ⟨x0', x1'⟩ := cells2 (heap_alloc_lt H1.out.1 (rowOf n1 (List.replicate n1 0)))
  have h2b := heap_alloc_lt (heap_alloc_lt H1.out.2.1 (rowOf n1 (List.replicate n1 0))) (.cells #[.slice a1 n1 c1, .slice a2 n2 c2, .slice (some ⟨w1.heap.size, 0, none⟩) n1 n1, .map none] 195)
  have r2 := cells1 h2b
  have f2 := free_of_cells h2b 0
  clear h2b
  go_wp2_with fail
  go_region
  all_goals clear hz x0 x1 x0' x1' r2 f2 r0 f0
  obtain ⟨w4, e4⟩ : ∃ w4, w4 = (((w1.alloc (rowOf n1 (List.replicate n1 0))).alloc (.cells #[.slice a1 n1 c1, .slice a2 n2 c2, .slice (some ⟨w1.heap.size, 0, none⟩) n1 n1, .map none] 195)).setCell ⟨w.heap.size + 1, 0, none⟩ (.pointer (some ⟨w1.heap.size + 1, 0, none⟩))).drew := ⟨_, rfl⟩
  have hc4 : Chg [w.heap.size + 1] w1 w4 := by
   rw [e4]
   exact ((((Chg.refl _ w1).alloc _).alloc _).setCell (p := ⟨w.heap.size + 1, 0, none⟩) (.inl (by simp)) _).drew
  have hrow : w4.heap[w1.heap.size]? = some (rowOf n1 (List.replicate n1 0)) := by
   rw [e4]
   exact heap_set_ne (heap_alloc_lt (heap_alloc_same _ _) _) (by omega)
  have hbox : w4.heap[w1.heap.size + 1]? = some (.cells #[.slice a1 n1 c1, .slice a2 n2 c2, .slice (some ⟨w1.heap.size, 0, none⟩) n1 n1, .map none] 195 (0, 0)) := by
   rw [e4]
   refine heap_set_ne (b := w1.heap.size + 1) (c := w.heap.size + 1) ?_ (by omega)
   have := heap_alloc_same (w1.alloc (rowOf n1 (List.replicate n1 0))) (.cells #[.slice a1 n1 c1, .slice a2 n2 c2, .slice (some ⟨w1.heap.size, 0, none⟩) n1 n1, .map none] 195)
   rwa [World.size_alloc] at this
  have hres : w4.heap[w.heap.size + 1]? = some (.cells #[.pointer (some ⟨w1.heap.size + 1, 0, none⟩)] 162 (0, 0)) := by
   rw [e4]
   have := heap_setCell_same (heap_alloc_lt (heap_alloc_lt H1.out.2.1 (rowOf n1 (List.replicate n1 0))) (.cells #[.slice a1 n1 c1, .slice a2 n2 c2, .slice (some ⟨w1.heap.size, 0, none⟩) n1 n1, .map none] 195)) 0 (.pointer (some ⟨w1.heap.size + 1, 0, none⟩))
   simp only [List.setIfInBounds_toArray, List.set_cons_zero] at this
   exact this
  rw [← e4]
  clear e4
  obtain ⟨w9, v1, v2, v3, v4, v5, v6, v7, v8, q1, q2, q3, q4, q5, q6, q7, q8, q9, hM, hcm⟩ := ways_made w4
  have hmm := @run_makeMap Tryz.prog
  have r0 := cells1 hres
  have hbox9 := hcm.heap hbox (by simp)
  have hc5 := (Chg.refl [w1.heap.size + 1] w9).setCell (p := ⟨w1.heap.size + 1, 3, none⟩) (.inl (by simp)) (.map (some w4.heap.size))
  have hbox5 := heap_setCell_same hbox9 3 (.map (some w4.heap.size))
  simp at hbox5
  have hl4 := lt_of_block hbox
  have hl9 := hcm.size
  have hres5 := hc5.heap (hcm.heap hres (by simp)) (by simp; omega)
  have b3 := cell_of_cells hbox9 3
  have fb := free_of_cells hbox9 3
  have r5 := cells1 hres5
  simp at b3
  have hc15 : Chg [w.heap.size + 1] w1 (w9.setCell ⟨w1.heap.size + 1, 3, none⟩ (.map (some w4.heap.size))) := (hc4.tr0 hcm).trans hc5 (fun j hj => .inr (by simp at hj; omega))
  have hcw5 : Chg [] w (w9.setCell ⟨w1.heap.size + 1, 3, none⟩ (.map (some w4.heap.size))) := H1.out.2.2.trans hc15 (fun j hj => .inr (by simp at hj; omega))
  have hW5 : WorkAt (w9.setCell ⟨w1.heap.size + 1, 3, none⟩ (.map (some w4.heap.size))) (w1.heap.size + 1) w1.heap.size w4.heap.size a1 n1 c1 a2 n2 c2 g (ranksL g 0) := by
   refine ⟨hbox5, H.out.1.keep hcw5.kp, ?_, by rw [ranksL_len, H.out.1.e1], hM.chg hc5 (by simp; omega)⟩
   have h1 := hc5.heap (hcm.heap hrow (by simp)) (by simp)
   rw [h1]
   have : ranksL g 0 = List.replicate n1 0 := by
    rw [H.out.1.e1, ranksL]
    apply List.ext_getElem
    ·simp
    ·intro i h1 h2; simp [rk]
   rw [this]
  have H5 := Lib.hid (And.intro hW5 (And.intro hcw5 (And.intro hres5 hl4)))
  clear hW5 hcw5 hc15 hres5 hbox5 hbox9 hM hcm hc5 hbox hrow hres hc4
  unfold shapeF at *
  go_wp2_with fail
  refine (rounds_any _ _ (w1.heap.size + 1) rfl).mono ?_
  rintro e w6 ⟨rfl, rfl⟩
  clear q1 q2 q3 q4 q5 q6 q7 q8 q9 r0 b3 fb r5 hmm
  obtain ⟨w5, e5⟩ : ∃ w5, w5 = w9.setCell ⟨w1.heap.size + 1, 3, none⟩ (.map (some w4.heap.size)) := ⟨_, rfl⟩
  rw [← e5] at H5 ⊢
  clear e5
  have hk6 := (Chg.refl [] w5).alloc (.cells #[.pointer (some ⟨w1.heap.size + 1, 0, none⟩)] 162)
  have hI0 : RoundsI w5.heap.size (w1.heap.size + 1) w1.heap.size w4.heap.size a1 n1 c1 a2 n2 c2 g 0 (w5.alloc (.cells #[.pointer (some ⟨w1.heap.size + 1, 0, none⟩)] 162)) := ⟨heap_alloc_same _ _, H5.out.1.chg hk6⟩
  have hs6 : (w5.alloc (.cells #[.pointer (some ⟨w1.heap.size + 1, 0, none⟩)] 162)).heap.size = w5.heap.size + 1 := by simp
  obtain ⟨w6, e6⟩ : ∃ w6, w6 = w5.alloc (.cells #[.pointer (some ⟨w1.heap.size + 1, 0, none⟩)] 162) := ⟨_, rfl⟩
  rw [← e6] at hk6 hI0 hs6 ⊢
  clear e6
  have hgives := Rounds_gives w6 w5.heap.size (w1.heap.size + 1) w1.heap.size w4.heap.size a1 n1 c1 a2 n2 c2 g HR.out hI0
  have hm6 := hI0.work.ways.lt
  have hw6 : w.heap.size ≤ w6.heap.size := (H5.out.2.1.tr hk6).size
  have H6 := Lib.hid (And.intro hI0 (And.intro (H5.out.2.1.tr hk6) (hk6.heap H5.out.2.2.1 (by simp))))
  clear hI0 hk6
  go_wp2_with fail
  refine (wpIn_wide (n := 3)).1 ?_
  refine range_gives (n := 3) (gf := 180) (lb := #[.pointer (some ⟨w5.heap.size, 0, none⟩)]) rfl (enters_of Tryz.func180 (by kernel_rfl) rfl) hgives (fun pre x => RdX.stays _ _ _ _ _) ?hK (Chg.refl [] _) (fun _ => rfl)
   (fun pre W => W.heap[w.heap.size + 1]? = some (.cells #[.pointer (some ⟨w1.heap.size + 1, 0, none⟩)] 162 (0, 0)) ∧ RoundsI w5.heap.size (w1.heap.size + 1) w1.heap.size w4.heap.size a1 n1 c1 a2 n2 c2 g pre.length W ∧ Chg [] w W) (fun _ _ _ => False)
   (fun s => (Stays.block _ _ _ rfl).and ((RoundsI.stays hm6).and (Stays.since _ _ _ hw6))) (fun _ _ => Stays.pure _) ?h0
   (fun x a' W => a' = { tmps := #[.agg #[.slice a1 n1 c1, .slice a2 n2 c2], .pointer (some ⟨w.heap.size, 0, none⟩), .pointer (some ⟨w.heap.size + 1, 0, none⟩), .bool false, .int .i64 x.1, .slice x.2.1 x.2.2.2.length x.2.2.1, undef, undef, .agg #[.slice a1 n1 c1, .slice a2 n2 c2], .bool true, .bool false, .agg #[.slice a1 n1 c1, .slice a2 n2 c2], .pointer (some ⟨w.heap.size, 0, none⟩), .slice a1 n1 c1, .int .i64 n1, .slice (some ⟨w1.heap.size, 0, none⟩) n1 n1, .agg #[.slice a1 n1 c1, .slice a2 n2 c2, .slice (some ⟨w1.heap.size, 0, none⟩) n1 n1, .map none], .pointer (some ⟨w1.heap.size + 1, 0, none⟩), .pointer (some ⟨w1.heap.size + 1, 0, none⟩), .map (some w4.heap.size), .map (some w4.heap.size), .pointer (some ⟨w1.heap.size + 1, 0, none⟩), .pointer (some ⟨w1.heap.size + 1, 3, none⟩), .pointer (some ⟨w1.heap.size + 1, 0, none⟩), .func (.func 180) #[] #[.pointer (some ⟨w5.heap.size, 0, none⟩)], .int .i64 x.1, .slice x.2.1 x.2.2.2.length x.2.2.1, undef, undef, undef, undef, undef, undef, undef, undef, undef, undef, undef, undef, undef, undef, undef], defers := [] }) (fun x a' => Stays.pure _) ?assign ?body ?done ?stop
  case hK =>
   rintro pre x A A1 A2 B B' hc ht ⟨k1, k2⟩ ht2
   refine ⟨Nat.le_trans (Nat.le_trans (Nat.le_trans hc.size ht.kp.1) k1) ht2.kp.1, fun h => (RoundsI.stays hm6).turn (k2 ((RoundsI.stays hm6).turn (h.chg hc) ht)) ht2⟩
  case h0 => exact ⟨H6.out.2.2, H6.out.1, H6.out.2.1⟩
  case assign =>
   rintro l pre x W K hi hx hK
   simp only [encRd]
   gi_wp2
   exact hK _ _ (Chg.refl _ _) rfl
  case body =>
   rintro l pre x a' W ⟨hres, hI, hch⟩ hx rfl
   obtain ⟨rd, al, cl, L⟩ := x
   obtain ⟨⟨hx1, hx2, hx3⟩, hx4⟩ := hx
   simp only at hx1 hx2 hx4
   obtain ⟨j, hj⟩ : ∃ j, j = pre.length := ⟨_, rfl⟩
   rw [← hj] at hI hx1 hx2 hx3
   have hjl := round_lt hx3
   have hng := H.out.1.e1
   have hll : L.length ≤ n1 := by rw [hx2, hng]; exact newL_le _ _ _
   subst hx1
   have hmark : W.heap[w1.heap.size]? = some (rowOf n1 (markL g j 0)) := by rw [markL_zero]; exact hI.work.row
   have hints := ownInts_read hx4.own
   have hRl : w1.heap.size < w6.heap.size := by have := lt_of_block H6.out.1.work.row; omega
   have HB := Lib.hid (And.intro hres (And.intro hI (And.intro hch (And.intro hj (And.intro hx2 (And.intro hx3 (And.intro hx4 (And.intro hjl (And.intro hng (And.intro hmark hints))))))))))
   clear hres hI hch hj hx2 hx3 hx4 hmark hints hng
   gi_wp2_with fail
   gi_loopg [29] L.length (fun d iv wr => ∃ k : Nat, d = L.length - k ∧ k ≤ L.length ∧ iv = .int .i64 k ∧ Hid (Chg [w1.heap.size] W wr ∧ wr.heap[w1.heap.size]? = some (rowOf n1 (markL g j k))))
   case atStart => exact ⟨0, rfl, Nat.zero_le _, rfl, Lib.hid ⟨Chg.refl _ _, HB.out.2.2.2.2.2.2.2.2.2.1⟩⟩
   case round =>
    obtain ⟨k, rfl, hk, rfl, hin⟩ := hrel
    obtain ⟨wq, rfl⟩ : ∃ wq, wq = wr := ⟨_, rfl⟩
    by_cases hlt : k < L.length
    ·obtain ⟨hres, hI, hch, hj, hx2, hx3, hx4, hjl', hng, hmark, hints⟩ := HB.out
     obtain ⟨bl, ol, rfl, hcell⟩ := hints.1 k hlt
     obtain ⟨z, hz⟩ : ∃ z, z = L[k] := ⟨_, rfl⟩
     rw [← hz] at hcell
     have hLk : (newL g j g.rules.length)[k]? = some z := by rw [← hx2, hz]; exact List.getElem?_eq_getElem hlt
     obtain ⟨q, rfl, hq⟩ := newL_at hLk
     have hbl : w6.heap.size ≤ bl := by
      rcases hx4.2 with ⟨h0, h1⟩ | ⟨G, cap, cur, h0, hb, _⟩
      ·cases h0
      ·cases h0; exact hb
     have hcell' := hin.out.1.cell hcell (by simp; omega)
     have r0 := cells1 (hin.out.1.heap hres (by simp; omega))
     have b2 := cell_of_cells (hin.out.1.heap hI.work.box (by simp)) 2
     simp at b2
     have hrowk := hin.out.2
     have hqn : q < n1 := by omega
     obtain ⟨u, hu⟩ : ∃ u, (markL g j k)[q]? = some u := ⟨_, List.getElem?_eq_getElem (by rw [markL_len]; exact hq)⟩
     have hck := row_cell hrowk (i := q) (x := u) hu
     have hfk := row_free hrowk q
     have HZ := Lib.hid (And.intro hLk (And.intro hq hrowk))
     clear hres hI hch hj hx2 hx3 hx4 hjl' hng hmark hints hcell hLk hrowk hz hq hu
     gi_wp2_with fail
     gi_roundg (L.length - (k + 1))
     case measure => omega
     case rel =>
      refine ⟨k + 1, rfl, by omega, by go_num, Lib.hid ⟨hin.out.1.setCell (p := ⟨w1.heap.size, q, none⟩) (.inl (by simp)) _, ?_⟩⟩
      rw [markL_succ HZ.out.1]
      exact row_set _ HZ.out.2.2
    ·obtain rfl : k = L.length := by omega
     obtain ⟨hres, hI, hch, hj, hx2, hx3, hx4, hjl', hng, hmark, hints⟩ := HB.out
     have hrowk := hin.out.2
     have hk2 : L.length = (newL g j g.rules.length).length := congrArg List.length hx2
     rw [hk2, markL_end] at hrowk
     have HZ := Lib.hid (And.intro hrowk hin.out.1)
     clear hres hI hch hj hx2 hx3 hx4 hjl' hng hmark hints hrowk hk2
     gi_wp2_with fail
     obtain ⟨hres, hI, hch, hj, hx2, hx3, hx4, hjl', hng, hmark, hints⟩ := HB.out
     obtain ⟨hrow, hc⟩ := HZ.out
     have hch2 : Chg [] w wq := hch.trans hc (fun i hi => .inr (by simp at hi; omega))
     have hR2 : RoundsI w5.heap.size (w1.heap.size + 1) w1.heap.size w4.heap.size a1 n1 c1 a2 n2 c2 g (pre.length + 1) wq := by
      rw [← hj]
      refine ⟨hc.heap hI.p ?_, ⟨hc.heap hI.work.box (by simp), H.out.1.keep hch2.kp, hrow, by rw [ranksL_len, hng], hI.work.ways.chg hc (by simp; omega)⟩⟩
      intro hm
      simp only [List.mem_singleton] at hm
      have h1 := hI.p
      rw [hm, hI.work.row] at h1
      simp [rowOf] at h1
     refine ⟨keepsFrom_of_chg hc (fun i hi => .inl (by simp at hi; omega)), ⟨hc.size, fun _ => hR2⟩, hc.heap hres (by simp; omega), ?_, hch2⟩
     rw [List.length_append, List.length_singleton]
     exact hR2
  case done =>
   rintro D xs W hD hS ⟨hres, hI, hch⟩ hd
   have r0 := cells1 hres
   have f0 := free_of_cells hres 0
   have HD := Lib.hid (And.intro hres (And.intro hI (And.intro hch (And.intro hd (And.intro hS hD)))))
   clear hres hI hch hd hS hD
   dsimp only
   go_wp2_with fail
   clear r0 f0
   obtain ⟨hres, hI, hch, hd, hS, hD⟩ := HD.out
   have hc := (Chg.refl [w.heap.size + 1] W).setCell (p := ⟨w.heap.size + 1, 0, none⟩) (.inl (by simp)) (.pointer (some ⟨w1.heap.size + 1, 0, none⟩))
   have hz := heap_setCell_same hres 0 (.pointer (some ⟨w1.heap.size + 1, 0, none⟩))
   simp at hz
   have hI2 : WorkAt (W.setCell ⟨w.heap.size + 1, 0, none⟩ (.pointer (some ⟨w1.heap.size + 1, 0, none⟩))) (w1.heap.size + 1) w1.heap.size w4.heap.size a1 n1 c1 a2 n2 c2 g (ranksL g g.rules.length) := by
    have e : ranksL g xs.length = ranksL g g.rules.length := by
     unfold ranksL
     refine List.map_congr_left (fun i _ => ?_)
     rw [← rank_still hS i]; rfl
    rw [← e]
    exact ⟨hc.heap hI.work.box (by simp; omega), H.out.1.keep (hch.trans hc (fun i hi => .inr (by simp at hi; omega))).kp, hc.heap hI.work.row (by simp; omega), hI.work.len, hI.work.ways.chg hc (by simp; omega)⟩
   refine leave_one (v := .tuple #[.pointer (some ⟨w1.heap.size + 1, 0, none⟩), .bool true]) (B := w6.heap.size) (I := fun W' => W'.heap[w.heap.size + 1]? = some (.cells #[.pointer (some ⟨w1.heap.size + 1, 0, none⟩)] 162 (0, 0)) ∧ WorkAt W' (w1.heap.size + 1) w1.heap.size w4.heap.size a1 n1 c1 a2 n2 c2 g (ranksL g g.rules.length) ∧ Chg [] w W') (hc.heap hd (by simp; omega)) hD ((Stays.block _ _ _ rfl).and ((WorkAt.stays hm6).and (Stays.since _ _ _ hw6))) ⟨hz, hI2, hch.trans hc (fun k hk => .inr (by simp at hk; omega))⟩ ?_
   rintro W' ⟨hb, hwk, hch'⟩
   have c0 := cells1 hb
   exact ⟨by simp [results, Tryz.results103, go_sem, c0], hch', by rw [HR.out]; exact ⟨_, _, _, rfl, hwk⟩⟩
  case stop =>
   rintro D c pre W hD _ h _
   exact h.elim
end
end Go.Proofs.YtlklmpjakeedcaaGreatDoor

/-
 Things that are put aside; something done with each; whether a number is a graph's.
 Conditions: the stack lies in a cell, its row is of its own.
-/
import Derived.Test.YtlklmpjakeedcaaGreatDoorSEnCpR
import Derived.Test.YtlklmpjakeedcaaGreatDoorSEnCpB
import Derived.Test.YtlklmpjakeedcaaGreatDoorSEnRf1
import Derived.Deep.Cut
import Derived.Test.YtlklmpjakeedcaaGreatDoorSEnGMix
set_option linter.unusedVariables false
set_option linter.unusedSimpArgs false
set_option linter.unnecessarySimpa false
namespace Go.Proofs.YtlklmpjakeedcaaGreatDoor
open Go.RowKit Go.MapKept Go.Shelf

/-- A number more is put aside. -/
def PushP (B : Nat) (w : World) (b o : Nat) (cs : Array Value) (t : TypeId) (A : Is) (x : Int) (e : Ending) (w' : World) : Prop :=
 e = .returned (.tuple #[]) ∧ ∃ A' : Is, A'.2.2 = A.2.2 ++ [x] ∧ FreshInts B w' A'.1 A'.2.1 A'.2.2 ∧ w'.heap[b]? = some (.cells (cs.setIfInBounds o A'.cell) t (0, 0)) ∧ (∀ k, A'.own = some k → A.own = some k ∨ w.heap.size ≤ k) ∧ Chg (b :: A.own.toList) w w'

set_option maxRecDepth 100000 in
set_option maxHeartbeats 4000000 in
theorem push_any (w : World) (B b o : Nat) (cs : Array Value) (t : TypeId) (A : Is) (x : Int) (hb : w.heap[b]? = some (.cells cs t (0, 0))) (ho : cs[o]? = some A.cell) (ht : t ≠ 3) (hB : B ≤ w.heap.size) (hA : FreshInts B w A.1 A.2.1 A.2.2) (hl : A.2.2.length ≤ 100000) :
  Calls Tryz.prog 176 #[.pointer (some ⟨b, o, none⟩), .int .i64 x] w (PushP B w b o cs t A x) := by
 obtain ⟨i0, hin, hz0, hz1, hz2⟩ := info_parts Tryz.infoInt
 obtain ⟨aa, ac, zs⟩ := A
 obtain ⟨q, hq⟩ : ∃ q, q = zs.length := ⟨_, rfl⟩
 simp only [Is.cell] at ho
 rw [← hq] at ho hl
 have hcell : w.cell? ⟨b, o, none⟩ = some (.slice aa q ac) := by rw [cell_of_cells hb]; exact ho
 have hfree : w.frozen? ⟨b, o, none⟩ = false := free_of_cells hb o
 have hrow := hA
 unfold FreshInts at hrow
 rw [← hq] at hrow
 have H := Lib.hid (And.intro hb (And.intro ho (And.intro ht (And.intro hB (And.intro hrow (And.intro hq (And.intro hcell hfree)))))))
 clear hb ho ht hB hA hrow hq hcell hfree
 go_enter Tryz.func176, Tryz.ntmps176
 have hcell := H.out.2.2.2.2.2.2.1
 have hcA := (Chg.refl [] w).alloc (Obj.cells #[.int .i64 x] 3)
 have hrowA := hcA.row H.out.2.2.2.2.1 (fun _ _ => by simp)
 have hbA := hcA.heap H.out.1 (by simp)
 have h1 : ∀ u ∈ [Value.int .i64 x], u.oneCell' = true := by simp [Value.oneCell']
 have h2 : q + 1 ≤ maxLen ∧ (q + 1) * 8 ≤ 140737488355328 := by simp only [maxLen]; omega
 have hnew := cells_at (w := w.alloc (Obj.cells #[.int .i64 x] 3)) (heap_alloc_same _ _)
 have H4 := Lib.hid (And.intro hrowA (And.intro h1 (And.intro h2 (And.intro hnew (And.intro (Nat.le_trans H.out.2.2.2.1 hcA.size) (And.intro hbA hcA))))))
 clear hcA hrowA hbA h1 h2 hnew
 go_wp2_with (at_builtin; refine wpList_append_own_at _ rfl _ _ 34 rfl B 3 i0 _ 1 8 Tryz.underlying34 hin hz0 hz1 hz2 rfl (by decide) (.slice aa q ac) q (zs.map (Value.int .i64)) rfl H4.out.1 ⟨w.heap.size, 0, none⟩ 1 1 [.int .i64 x] rfl rfl H4.out.2.2.2.1 H4.out.2.1 H4.out.2.2.1.1 H4.out.2.2.1.2 H4.out.2.2.2.2.1 ?_; intro v' w5 hr5 hg5 hn5 hb5; obtain ⟨a5, c5, rfl⟩ := ownsRow_slice hr5; have hh5 := grown_heap hg5 H4.out.2.2.2.2.2.1 (ownsRow_ne H4.out.1 H4.out.2.2.2.2.2.1 H.out.2.2.1); have hcell5 : w5.cell? ⟨b, o, none⟩ = some (.slice aa q ac) := (by rw [cell_of_cells hh5]; exact H.out.2.1); have hfree5 := free_of_cells hh5 o; have HW := Lib.hid (And.intro hr5 (And.intro hg5 (And.intro hh5 hb5))); clear hr5 hg5 hn5 hb5 hh5 hcell)
 refine bodyPost_end (v := .tuple #[]) (by simp [results, Tryz.results176, go_sem]) rfl ?_
 have hset := heap_setCell_same HW.out.2.2.1 o (.slice a5 (q + 1) c5)
 have hcs := (Chg.refl [b] w5).setCell (p := ⟨b, o, none⟩) (.inl (by simp)) (.slice a5 (q + 1) c5)
 have hq := H.out.2.2.2.2.2.1
 have hlen : (zs ++ [x]).length = q + 1 := by rw [List.length_append, ← hq]; rfl
 refine ⟨rfl, (a5, c5, zs ++ [x]), rfl, ?_, ?_, fun k hk => ?_, ?_⟩
 ·show FreshInts B _ a5 c5 (zs ++ [x])
  unfold FreshInts
  rw [hlen, List.map_append]
  exact hcs.row HW.out.1 (fun k hk hm => by
   rw [List.mem_singleton.1 hm] at hk
   exact ownsRow_ne HW.out.1 HW.out.2.2.1 H.out.2.2.1 hk)
 ·show (w5.setCell ⟨b, o, none⟩ (.slice a5 (q + 1) c5)).heap[b]? = some (Obj.cells (cs.setIfInBounds o (.slice a5 (zs ++ [x]).length c5)) t (0, 0))
  rw [hlen]; exact hset
 ·have hk' : (Value.slice a5 (zs ++ [x]).length c5).ownBlock = some k := hk
  rw [hlen] at hk'
  rcases HW.out.2.2.2 with e | e
  ·refine .inl ?_
   show (Value.slice aa zs.length ac).ownBlock = some k
   rw [← hq, ← e]; exact hk'
  ·rw [hk', World.size_alloc] at e
   simp only [Option.some.injEq] at e
   exact .inr (by omega)
 ·have h1 : Chg (b :: (Value.slice aa zs.length ac).ownBlock.toList) w w5 := (H4.out.2.2.2.2.2.2.any).tr ((Chg.refl _ _).grown HW.out.2.1 (fun k hk => .inl (by rw [hq] at hk; rw [hk]; simp)))
  exact h1.trans hcs (fun j hj => .inl (by rw [List.mem_singleton.1 hj]; simp))

/-- The last number is taken. -/
def PopP (B : Nat) (w : World) (b o : Nat) (cs : Array Value) (t : TypeId) (A : Is) (l : List Int) (x : Int) (e : Ending) (w' : World) : Prop :=
 e = .returned (.int .i64 x) ∧ FreshInts B w' A.1 A.2.1 l ∧ w'.heap[b]? = some (.cells (cs.setIfInBounds o (Is.cell (A.1, A.2.1, l))) t (0, 0)) ∧ (Is.own (A.1, A.2.1, l) = A.own) ∧ Chg [b] w w'

set_option maxRecDepth 100000 in
set_option maxHeartbeats 4000000 in
theorem pop_any (w : World) (B b o : Nat) (cs : Array Value) (t : TypeId) (A : Is) (l : List Int) (x : Int) (hb : w.heap[b]? = some (.cells cs t (0, 0))) (ho : cs[o]? = some A.cell) (ht : t ≠ 3) (hA : FreshInts B w A.1 A.2.1 A.2.2) (hx : A.2.2 = l ++ [x]) :
  Calls Tryz.prog 177 #[.pointer (some ⟨b, o, none⟩)] w (PopP B w b o cs t A l x) := by
 obtain ⟨aa, ac, zs⟩ := A
 obtain rfl : zs = l ++ [x] := hx
 obtain ⟨q, hq⟩ : ∃ q, q = l.length := ⟨_, rfl⟩
 have hlen : (l ++ [x]).length = q + 1 := by rw [List.length_append, ← hq]; rfl
 simp only [Is.cell] at ho
 rw [hlen] at ho
 obtain ⟨hi, _, hc1, hc2⟩ := ownInts_read hA.own
 rw [hlen] at hc1
 obtain ⟨g, og, rfl, hxc⟩ := hi q (by rw [hlen]; omega)
 have hrow := hA
 unfold FreshInts at hrow
 rw [hlen] at hrow
 obtain ⟨g', hg'⟩ : ∃ g', (some ⟨g, og, none⟩ : Option Addr) = some ⟨g', 0, none⟩ := by
  rcases hrow.2 with ⟨h0, _⟩ | ⟨g', cap, cur, h0, _⟩
  ·cases h0
  ·simp only [Value.slice.injEq] at h0; exact ⟨g', h0.1⟩
 simp only [Option.some.injEq, Addr.mk.injEq, and_true] at hg'
 obtain ⟨rfl, rfl⟩ := hg'
 have hxx : w.cell? ⟨g, q, none⟩ = some (.int .i64 x) := by
  rw [Nat.zero_add] at hxc
  rw [hxc]
  simp [hq]
 have hcell : w.cell? ⟨b, o, none⟩ = some (.slice (some ⟨g, 0, none⟩) (q + 1) ac) := by rw [cell_of_cells hb]; exact ho
 have hfree : w.frozen? ⟨b, o, none⟩ = false := free_of_cells hb o
 have hc3 : q + 1 ≤ ac := hc1
 have hmx : ac ≤ 9223372036854775807 := by have hc4 : ac ≤ maxLen := hc2; simp only [maxLen] at hc4; omega
 have hw1 : wrap64 (q : Int) = (q : Int) := (IntWalk.i64_left _).symm.trans (IntWalk.i64_in _ (by omega))
 have H := Lib.hid (And.intro hb (And.intro ht (And.intro hrow hq)))
 clear hb ho ht hA hq hxc hi hlen hc2 hc1
 go_enter Tryz.func177, Tryz.ntmps177
 go_wp2_with fail
 go_ret
 have hc := (Chg.refl [b] w).setCell (p := ⟨b, o, none⟩) (.inl (by simp)) (.slice (some ⟨g, 0, none⟩) q ac)
 have hq := H.out.2.2.2
 have hr1 : w.ownsRow B 3 1 (.slice (some ⟨g, 0, none⟩) q ac) q (l.map (Value.int .i64)) := by
  have := row_take H.out.2.2.1 (show q ≤ q + 1 by omega) (by simp)
  rw [Nat.mul_one, List.map_append, List.take_append_of_le_length (by rw [List.length_map]; omega), List.take_of_length_le (by rw [List.length_map]; omega)] at this
  exact this
 refine ⟨rfl, ?_, ?_, ?_, hc⟩
 ·show FreshInts B _ (some ⟨g, 0, none⟩) ac l
  unfold FreshInts
  rw [← hq]
  exact hc.row hr1 (fun k hk hm => by
   rw [List.mem_singleton.1 hm] at hk
   exact ownsRow_ne hr1 H.out.1 H.out.2.1 hk)
 ·show (w.setCell ⟨b, o, none⟩ (.slice (some ⟨g, 0, none⟩) q ac)).heap[b]? = some (Obj.cells (cs.setIfInBounds o (.slice (some ⟨g, 0, none⟩) l.length ac)) t (0, 0))
  rw [← hq]; exact heap_setCell_same H.out.1 o _
 ·rfl

set_option maxRecDepth 100000 in
set_option maxHeartbeats 4000000 in
/-- Something is done with each of so many numbers. -/
theorem each_any (w : World) (n : Nat) (hn : n ≤ 9223372036854775807) (f : FuncId) (b lb : Array Value) (eg : ∀ args w, (callFunc f args).run Tryz.prog w = .ok (.enter f args) w) (I : Nat → World → Prop) (h0 : I 0 w) (hstep : ∀ k, k < n → ∀ W, I k W → Calls Tryz.prog f (b.push (.int .i64 k) ++ lb) W fun e W' => e = .returned (.tuple #[]) ∧ I (k + 1) W') :
  Calls Tryz.prog 150 #[.int .i64 n, .func (.func f) b lb] w fun e w' => e = .returned (.tuple #[]) ∧ I n w' := by
 have H := Lib.hid hstep
 have H0 := Lib.hid h0
 clear hstep h0
 go_enter Tryz.func150, Tryz.ntmps150
 go_wp2_with fail
 go_loopg [6] n (fun d iv wr => ∃ k : Nat, d = n - k ∧ k ≤ n ∧ iv = .int .i64 k ∧ Hid (I k wr))
 case atStart => exact ⟨0, rfl, Nat.zero_le _, rfl, H0⟩
 case round =>
  obtain ⟨k, rfl, hk, rfl, hin⟩ := hrel
  obtain ⟨wq, rfl⟩ : ∃ wq, wq = wr := ⟨_, rfl⟩
  by_cases hlt : k < n
  ·have hcall := eg (b.push (.int .i64 k) ++ lb) wq
   go_wp2_with fail
   refine (H.out k hlt wq hin.out).mono ?_
   rintro e w2 ⟨rfl, hI⟩
   have HI := Lib.hid hI
   clear hI hcall
   go_wp2_with fail
   go_roundg (n - (k + 1))
   case measure => omega
   case rel => exact ⟨k + 1, rfl, by omega, by go_num, HI⟩
  ·obtain rfl : k = n := by omega
   go_wp2_with fail
   refine bodyPost_end (v := .tuple #[]) (by simp [results, Tryz.results150, go_sem]) rfl ?_
   exact ⟨rfl, hin.out⟩

end Go.Proofs.YtlklmpjakeedcaaGreatDoor
set_option linter.unusedVariables false
set_option linter.unusedSimpArgs false
set_option linter.unnecessarySimpa false
namespace Go.Proofs.YtlklmpjakeedcaaGreatDoor.Cp
section
variable {G : List (List Nat)}
theorem wf_aside_len {C : List Nat} {s : TS} (h : Wf G C s) : s.aside.length ≤ G.length := by
 have := len_sub (wf_nodup h) (m := List.range G.length) (fun x hx => List.mem_range.2 (wf_aside_lt h x hx))
 rwa [List.length_range] at this
/-- What is known within a visit, so many edges gone through. -/
theorem mid_facts (hG : RG G) {k : Nat} {C : List Nat} {s : TS} {a : Nat} (h : Pre G C s a (k + 1)) (hm : s.met a = 0) (hk : clk G.length s ≤ G.length) {j : Nat} (hj : j ≤ (row G a).length) :
  clk G.length (midT G k s a j) ≤ G.length ∧ (midT G k s a j).aside.length ≤ G.length ∧ a ∈ (midT G k s a j).aside ∧ (midT G k s a j).aside.Nodup ∧ (∀ x ∈ (midT G k s a j).aside, x < G.length) ∧ (midT G k s a j).met a = s.clock + 1 ∧
  (∀ (hj : j < (row G a).length), Pre G (a :: C) (midT G k s a j) (row G a)[j] k) := by
 obtain ⟨new, hM⟩ := mid_any hG h hm j hj
 exact ⟨Nat.le_trans (mid_clk hG k h.lt hm j hj) hk, wf_aside_len hM.wf, by rw [hM.aside]; simp, wf_nodup hM.wf, wf_aside_lt hM.wf, hM.met_a, fun hj => h.next hG hm hM (List.getElem_mem hj)⟩
end
section
variable {G : List (List Nat)}
def markT (f : Nat → Int) (v : Int) (l : List Nat) : Nat → Int := fun i => if i ∈ l then v else f i
theorem markT_nil (f : Nat → Int) (v : Int) : markT f v [] = f := by funext i; unfold markT; rw [if_neg (by simp)]
theorem markT_snoc (f : Nat → Int) (v : Int) (l : List Nat) (b : Nat) : markT f v (l ++ [b]) = upd (markT f v l) b v := by
 funext i
 unfold markT upd
 by_cases h : i = b
 ·subst h; simp
 ·simp [h]
/-- What is left of a number whose part ends with it. -/
theorem leave_not {n : Nat} {s : TS} {a j : Nat} (h : ¬ s.back a < s.met a) (h1 : topT s.aside a = s.aside.take (j + 1)) (h2 : dropT s.aside a = s.aside.drop (j + 1)) :
  leaveT n s a = { s with aside := s.aside.drop (j + 1), part := markT s.part (s.parts.length : Int) (s.aside.take (j + 1)), parts := s.parts ++ [(List.range n).filter (fun i => decide (i ∈ s.aside.take (j + 1)))] } := by
 unfold leaveT
 rw [if_neg h, h1, h2]; rfl
theorem drop_cons {l : List Nat} {t : Nat} (ht : t < l.length) : (l.drop t).reverse = (l.drop (t + 1)).reverse ++ [l[t]] := by
 rw [List.drop_eq_getElem_cons ht, List.reverse_cons]
theorem sort_part {n : Nat} {l : List Nat} (hn : l.Nodup) (hl : ∀ x ∈ l, x < n) : ((l.map (fun (x : Nat) => (x : Int))).mergeSort fun x y => decide (x ≤ y)) = ((List.range n).filter (fun i => decide (i ∈ l))).map (fun (x : Nat) => (x : Int)) := by
 refine sorted_part hn hl (List.mergeSort_perm _ _) ?_
 have := List.pairwise_mergeSort (le := fun (x y : Int) => decide (x ≤ y)) (fun a b c h1 h2 => by simp at *; omega) (fun a b => by simp; omega) (l.map (fun (x : Nat) => (x : Int)))
 exact this.imp (fun h => by simpa using h)
end
section
variable {G : List (List Nat)}
theorem wf_parts_len {C : List Nat} {s : TS} (h : Wf G C s) : s.parts.length ≤ G.length := by
 have hex : ∀ p, p < s.parts.length → ∃ a, s.part a = (p : Int) := h.some
 let f : Nat → Nat := fun p => if hp : p < s.parts.length then (hex p hp).choose else 0
 have hf : ∀ p, p < s.parts.length → s.part (f p) = (p : Int) := fun p hp => by
  have := (hex p hp).choose_spec
  simp only [f, hp, dif_pos]; exact this
 have hnd : ((List.range s.parts.length).map f).Nodup := by
  rw [List.nodup_iff_pairwise_ne, List.pairwise_map]
  refine (List.nodup_iff_pairwise_ne.1 List.nodup_range).imp_of_mem fun {x y} hx hy hxy e => hxy ?_
  have h1 := hf x (List.mem_range.1 hx)
  have h2 := hf y (List.mem_range.1 hy)
  rw [e] at h1; omega
 have := len_sub hnd (m := List.range G.length) (fun x hx => by
  obtain ⟨p, hp, rfl⟩ := List.mem_map.1 hx
  have h1 := hf p (List.mem_range.1 hp)
  refine List.mem_range.2 (h.lt _ (Nat.pos_of_ne_zero fun e => ?_))
  have := h.white _ e
  omega)
 simpa using this
theorem mid_parts (hG : RG G) {k : Nat} {C : List Nat} {s : TS} {a : Nat} (h : Pre G C s a (k + 1)) (hm : s.met a = 0) {j : Nat} (hj : j ≤ (row G a).length) : (midT G k s a j).parts.length ≤ G.length := by
 obtain ⟨new, hM⟩ := mid_any hG h hm j hj
 exact wf_parts_len hM.wf
end
end Go.Proofs.YtlklmpjakeedcaaGreatDoor.Cp
set_option linter.unusedVariables false
set_option linter.unusedSimpArgs false
set_option linter.unnecessarySimpa false
namespace Go.Proofs.YtlklmpjakeedcaaGreatDoor

theorem self_row {x : List (List Int)} (h : Cp.rightI x = true) {a : Nat} (ha : a < x.length) : (x.getD a []).contains (a : Int) = (Cp.row (Cp.toG x) a).contains a := by
 have h1 := Cp.toG_row ha
 have h2 : x.getD a [] = x[a] := by simp [ha]
 have h3 := (Cp.right_iff.1 h).2 x[a] (List.getElem_mem ha)
 rw [h2, h1]
 have : (a : Int) ∈ x[a] ↔ a ∈ x[a].map Int.toNat := by
  rw [List.mem_map]
  refine ⟨fun k => ⟨_, k, by simp⟩, fun ⟨z, hz, e⟩ => ?_⟩
  have := (h3.1 z hz).1
  rw [show (a : Int) = z by omega]; exact hz
 by_cases k : (a : Int) ∈ x[a]
 ·rw [List.contains_iff_mem.2 k, List.contains_iff_mem.2 (this.1 k)]
 ·have k2 : a ∉ x[a].map Int.toNat := fun m => k (this.2 m)
  rw [show x[a].contains (a : Int) = false by simpa using k, show (x[a].map Int.toNat).contains a = false by simpa using k2]

end Go.Proofs.YtlklmpjakeedcaaGreatDoor
set_option linter.unusedVariables false
set_option linter.unusedSimpArgs false
set_option linter.unnecessarySimpa false
namespace Go.Proofs.YtlklmpjakeedcaaGreatDoor
open Go.RowKit Go.MapKept Go.Shelf

/-- A row of a graph in memory. -/
theorem graph_row {w : World} {a : Option Addr} {VG : List Is} {G : List (List Nat)} (hVG : VG.map (·.2.2) = Cp.intsG G) (hr : IntRows w a VG) {c : Nat} (hc : c < G.length) :
  ∃ b o ra rc, a = some ⟨b, o, none⟩ ∧ w.cell? ⟨b, o + c, none⟩ = some (.slice ra (Cp.row G c).length rc) ∧ Ints w ra (natI (Cp.row G c)) ∧ (Cp.row G c).length ≤ 9223372036854775807 := by
 have hlen : c < VG.length := by
  have := congrArg List.length hVG
  rw [List.length_map, Cp.intsG_len] at this
  omega
 obtain ⟨b, o, e, h1, h2, h3⟩ := hr c hlen
 have hrow : VG[c].2.2 = natI (Cp.row G c) := by
  have h1 : (VG.map (·.2.2))[c]? = (Cp.intsG G)[c]? := by rw [hVG]
  have h3 : Cp.row G c = G[c] := by unfold Cp.row; simp [hc]
  rw [h3]
  simpa [Cp.intsG, hlen, hc, natI] using h1
 rw [hrow] at h2 h3
 rw [natI_len] at h3
 refine ⟨b, o, VG[c].1, VG[c].2.1, e, ?_, h2, h3⟩
 rw [h1, Is.cell, hrow, natI_len]
def bsOf (n : Nat) (met : Nat → Bool) : List Bool := (List.range n).map met
theorem bsOf_false (n : Nat) : List.replicate n false = bsOf n (fun _ => false) := by
 unfold bsOf
 rw [List.map_const', List.length_range]
end Go.Proofs.YtlklmpjakeedcaaGreatDoor
set_option linter.unusedVariables false
set_option linter.unusedSimpArgs false
set_option linter.unnecessarySimpa false
namespace Go.Proofs.YtlklmpjakeedcaaGreatDoor
open Go.RowKit Go.MapKept Go.Shelf

set_option maxRecDepth 100000 in
set_option maxHeartbeats 2000000 in
theorem all_any (w : World) (a : Option Addr) (n c : Nat) :
  Calls Tryz.prog 179 #[.slice a n c] w fun e w' => e = .returned (.func (.func 186) #[] #[.pointer (some ⟨w.heap.size, 0, none⟩)]) ∧ w' = w.alloc (.cells #[.slice a n c] 157) := by
 go_enter Tryz.func179, Tryz.ntmps179
 go_wp2
 go_ret
 exact ⟨rfl, rfl⟩

section
attribute [local go_sem] Oper.semAt_some
set_option maxRecDepth 100000 in
set_option maxHeartbeats 8000000 in
theorem Edges_gives (w0 w : World) (ga : Option Addr) (n gc : Nat) (VG : List Is) (G : List (List Nat)) (hG : Cp.RG G) (hn : n = G.length) (hVG : VG.map (·.2.2) = Cp.intsG G) (hrows : IntRows w0 ga VG) (hgc : n ≤ gc ∧ gc ≤ 9223372036854775807) (b0 : Nat)
  (hb0 : w.heap[b0]? = some (.cells #[.slice ga n gc] 157 (0, 0))) (hc : Chg [] w0 w) :
  Gives Tryz.prog 186 #[.pointer (some ⟨b0, 0, none⟩)] (fun e : Nat × Nat => #[.int .i64 e.1, .int .i64 e.2]) (fun pre x _ => pre ++ [x] <+: Cp.edges G) (fun _ _ A B => Chg [] w0 A → Chg [] w0 B) (fun xs => xs = Cp.edges G) (fun _ => True) w := by
 intro m l J Jx W hW hJ hJx hY h0
 have hn64 : n ≤ 64 := by rw [hn]; exact hG.few
 have y0 := cells1 (hW.heap hb0 (by simp))
 have H := Lib.hid (And.intro hG (And.intro hn (And.intro hVG (And.intro hrows (And.intro hY (And.intro (hc.tr hW) h0))))))
 show CallsIn Fence.wide (m + 1) Tryz.prog 186 #[.func (.yield l) #[] #[], .pointer (some ⟨b0, 0, none⟩)] W _
 clear hG hn hVG hrows hb0 hc hW hJ hJx hY h0
 refine callsIn_of_wp Tryz.func186 rfl trivial ?_ rfl
 simp only [Tryz.ntmps186, List.size_toArray, List.length_cons, List.length_nil, Nat.reduceAdd, Nat.reduceSub, Array.replicate_succ, Array.replicate_zero, List.push_toArray, List.append_toArray, List.nil_append, List.cons_append]
 gi_wp2_with fail
 clear y0
 gi_loopg [9] n (fun d iv wr => ∃ i : Nat, d = n - i ∧ i ≤ n ∧ iv = .int .i64 i ∧ Hid (J (Cp.edgesTo G i 0) wr ∧ Chg [] w0 wr))
 case atStart => exact ⟨0, rfl, Nat.zero_le _, rfl, Lib.hid ⟨by have := H.out.2.2.2.2.2.2; simpa [Cp.edgesTo] using this, H.out.2.2.2.2.2.1⟩⟩
 case round =>
  obtain ⟨i, rfl, hi, rfl, hin⟩ := hrel
  obtain ⟨wq, rfl⟩ : ∃ wz, wz = wr := ⟨_, rfl⟩
  by_cases hlt : i < n
  ·have hiG : i < G.length := by rw [← H.out.2.1]; exact hlt
   obtain ⟨b, o, ra, rc, rfl, k1, k2, k3⟩ := graph_row H.out.2.2.1 H.out.2.2.2.1 (c := i) hiG
   replace k1 := hin.out.2.kp.2 _ _ k1
   obtain ⟨q, hq⟩ : ∃ q, q = (Cp.row G i).length := ⟨_, rfl⟩
   rw [← hq] at k1 k3
   have HR := Lib.hid (And.intro k2 hq)
   clear k2 hq hiG
   gi_wp2_with fail
   clear k1
   gi_loopg [16] q (fun d jv wr => ∃ j : Nat, d = q - j ∧ j ≤ q ∧ jv = .int .i64 j ∧ Hid (J (Cp.edgesTo G i j) wr ∧ Chg [] w0 wr))
   case atStart => exact ⟨0, rfl, Nat.zero_le _, rfl, hin⟩
   case round =>
    obtain ⟨j, rfl, hj, rfl, hin2⟩ := hrel
    obtain ⟨ws, rfl⟩ : ∃ wz, wz = wr := ⟨_, rfl⟩
    by_cases hlt2 : j < q
    ·have hjr : j < (Cp.row G i).length := by rw [← HR.out.2]; exact hlt2
     obtain ⟨bz, oz, rfl, hz⟩ := (HR.out.1.keep hin2.out.2.kp) j (by rw [natI_len]; exact hjr)
     obtain ⟨y, hy⟩ : ∃ y, y = (Cp.row G i)[j] := ⟨_, rfl⟩
     have hz' : ws.cell? ⟨bz, oz + j, none⟩ = some (.int .i64 (y : Nat)) := by
      rw [hz]; simp [natI, hy]
     have hpre : Cp.edgesTo G i j ++ [(i, y)] <+: Cp.edges G := by
      obtain ⟨r, hr⟩ := Cp.edgesTo_pre (G := G) (i := i) (j := j + 1) (by rw [← H.out.2.1]; omega)
      rw [Cp.edgesTo_succ hjr, ← hy] at hr
      exact ⟨r, hr⟩
     have hsucc : Cp.edgesTo G i (j + 1) = Cp.edgesTo G i j ++ [(i, y)] := by rw [Cp.edgesTo_succ hjr, ← hy]
     obtain ⟨fn, tmps, assign, body, hyy, hR⟩ := H.out.2.2.2.2.1 (Cp.edgesTo G i j) (i, y) ws hin2.out.1 hpre
     have HB := Lib.hid hsucc
     clear hz hy hpre hsucc hjr
     gi_wp2_with fail
     refine hR.mono ?_
     clear hR hyy hz'
     rintro e w4 (⟨rfl, hJ4, hk4⟩ | ⟨rfl, hJx4⟩)
     ·have H4 := Lib.hid (And.intro hJ4 (hk4 hin2.out.2))
      clear hJ4 hk4
      gi_wp2_with fail
      gi_roundg (q - (j + 1))
      case measure => omega
      case rel => exact ⟨j + 1, rfl, by omega, by go_num, Lib.hid ⟨by rw [HB.out]; exact H4.out.1, H4.out.2⟩⟩
     ·gi_wp2_with fail
      refine bodyPost_ret (v := .tuple #[]) (by simp [results, Tryz.results186, go_sem]) rfl ?_
      exact ⟨⟨_, rfl⟩, .inr ⟨_, trivial, hJx4⟩⟩
    ·obtain rfl : j = q := by omega
     gi_wp2_with fail
     gi_roundg (n - (i + 1))
     case measure => omega
     case rel => exact ⟨i + 1, rfl, by omega, by go_num, Lib.hid ⟨by rw [Cp.edgesTo_zero, ← HR.out.2]; exact hin2.out.1, hin2.out.2⟩⟩
  ·obtain rfl : i = n := by omega
   gi_wp2_with fail
   go_end0
   exact ⟨⟨_, rfl⟩, .inl ⟨_, rfl, by have := hin.out.1; rw [H.out.2.1, Cp.edgesTo_all] at this; exact this⟩⟩
end
end Go.Proofs.YtlklmpjakeedcaaGreatDoor

/-
  Things that are put aside; something done with each; whether a number is a graph's.
  Conditions: the stack lies in a cell, its row is of its own.
-/
import Derived.Test.YtplpboknmhgpiaaCEdCpR
set_option linter.unusedVariables false
set_option linter.unusedSimpArgs false
set_option linter.unnecessarySimpa false
namespace Go.Proofs.Ytplpboknmhgpiaa
open Go.RowKit Go.MapKept Go.Shelf

/-- A number more is put aside. -/
def PushP (B : Nat) (w : World) (b o : Nat) (cs : Array Value) (t : TypeId) (A : Is) (x : Int) (e : Ending) (w' : World) : Prop :=
  e = .returned (.tuple #[]) ∧ ∃ A' : Is, A'.2.2 = A.2.2 ++ [x] ∧ FreshInts B w' A'.1 A'.2.1 A'.2.2 ∧ w'.heap[b]? = some (.cells (cs.setIfInBounds o A'.cell) t (0, 0)) ∧ (∀ k, A'.own = some k → A.own = some k ∨ w.heap.size ≤ k) ∧ Chg (b :: A.own.toList) w w'

set_option maxRecDepth 100000 in
set_option maxHeartbeats 4000000 in
theorem push_any (w : World) (B b o : Nat) (cs : Array Value) (t : TypeId) (A : Is) (x : Int) (hb : w.heap[b]? = some (.cells cs t (0, 0))) (ho : cs[o]? = some A.cell) (ht : t ≠ 3) (hB : B ≤ w.heap.size) (hA : FreshInts B w A.1 A.2.1 A.2.2) (hl : A.2.2.length ≤ 100000) :
    Calls Try.prog 27 #[.pointer (some ⟨b, o, none⟩), .int .i64 x] w (PushP B w b o cs t A x) := by
  obtain ⟨i0, hin, hz0, hz1, hz2⟩ := info_parts Try.infoInt
  obtain ⟨aa, ac, zs⟩ := A
  obtain ⟨q, hq⟩ : ∃ q, q = zs.length := ⟨_, rfl⟩
  simp only [Is.cell] at ho
  rw [← hq] at ho hl
  have hcell : w.cell? ⟨b, o, none⟩ = some (.slice aa q ac) := by rw [cell_of_cells hb]; exact ho
  have hfree : w.frozen? ⟨b, o, none⟩ = false := free_of_cells hb o
  have hrow := hA
  unfold FreshInts at hrow
  rw [← hq] at hrow
  have H := Lib.hid (And.intro hb (And.intro ho (And.intro ht (And.intro hB (And.intro hrow (And.intro hq (And.intro hcell hfree)))))))
  clear hb ho ht hB hA hrow hq hcell hfree
  go_enter Try.func27, Try.ntmps27
  have hcell := H.out.2.2.2.2.2.2.1
  have hcA := (Chg.refl [] w).alloc (Obj.cells #[.int .i64 x] 3)
  have hrowA := hcA.row H.out.2.2.2.2.1 (fun _ _ => by simp)
  have hbA := hcA.heap H.out.1 (by simp)
  have h1 : ∀ u ∈ [Value.int .i64 x], u.oneCell' = true := by simp [Value.oneCell']
  have h2 : q + 1 ≤ maxLen ∧ (q + 1) * 8 ≤ 140737488355328 := by simp only [maxLen]; omega
  have hnew := cells_at (w := w.alloc (Obj.cells #[.int .i64 x] 3)) (heap_alloc_same _ _)
  have H4 := Lib.hid (And.intro hrowA (And.intro h1 (And.intro h2 (And.intro hnew (And.intro (Nat.le_trans H.out.2.2.2.1 hcA.size) (And.intro hbA hcA))))))
  clear hcA hrowA hbA h1 h2 hnew
  go_wp2_with (at_builtin; refine wpList_append_own_at _ rfl _ _ 26 rfl B 3 i0 _ 1 8 Try.underlying26 hin hz0 hz1 hz2 rfl (by decide) (.slice aa q ac) q (zs.map (Value.int .i64)) rfl H4.out.1 ⟨w.heap.size, 0, none⟩ 1 1 [.int .i64 x] rfl rfl H4.out.2.2.2.1 H4.out.2.1 H4.out.2.2.1.1 H4.out.2.2.1.2 H4.out.2.2.2.2.1 ?_; intro v' w5 hr5 hg5 hn5 hb5; obtain ⟨a5, c5, rfl⟩ := ownsRow_slice hr5; have hh5 := grown_heap hg5 H4.out.2.2.2.2.2.1 (ownsRow_ne H4.out.1 H4.out.2.2.2.2.2.1 H.out.2.2.1); have hcell5 : w5.cell? ⟨b, o, none⟩ = some (.slice aa q ac) := (by rw [cell_of_cells hh5]; exact H.out.2.1); have hfree5 := free_of_cells hh5 o; have HW := Lib.hid (And.intro hr5 (And.intro hg5 (And.intro hh5 hb5))); clear hr5 hg5 hn5 hb5 hh5 hcell)
  refine bodyPost_end (v := .tuple #[]) (by simp [results, Try.results27, go_sem]) rfl ?_
  have hset := heap_setCell_same HW.out.2.2.1 o (.slice a5 (q + 1) c5)
  have hcs := (Chg.refl [b] w5).setCell (p := ⟨b, o, none⟩) (.inl (by simp)) (.slice a5 (q + 1) c5)
  have hq := H.out.2.2.2.2.2.1
  have hlen : (zs ++ [x]).length = q + 1 := by rw [List.length_append, ← hq]; rfl
  refine ⟨rfl, (a5, c5, zs ++ [x]), rfl, ?_, ?_, fun k hk => ?_, ?_⟩
  · show FreshInts B _ a5 c5 (zs ++ [x])
    unfold FreshInts
    rw [hlen, List.map_append]
    exact hcs.row HW.out.1 (fun k hk hm => by
      rw [List.mem_singleton.1 hm] at hk
      exact ownsRow_ne HW.out.1 HW.out.2.2.1 H.out.2.2.1 hk)
  · show (w5.setCell ⟨b, o, none⟩ (.slice a5 (q + 1) c5)).heap[b]? = some (Obj.cells (cs.setIfInBounds o (.slice a5 (zs ++ [x]).length c5)) t (0, 0))
    rw [hlen]; exact hset
  · have hk' : (Value.slice a5 (zs ++ [x]).length c5).ownBlock = some k := hk
    rw [hlen] at hk'
    rcases HW.out.2.2.2 with e | e
    · refine .inl ?_
      show (Value.slice aa zs.length ac).ownBlock = some k
      rw [← hq, ← e]; exact hk'
    · rw [hk', World.size_alloc] at e
      simp only [Option.some.injEq] at e
      exact .inr (by omega)
  · have h1 : Chg (b :: (Value.slice aa zs.length ac).ownBlock.toList) w w5 := (H4.out.2.2.2.2.2.2.any).tr ((Chg.refl _ _).grown HW.out.2.1 (fun k hk => .inl (by rw [hq] at hk; rw [hk]; simp)))
    exact h1.trans hcs (fun j hj => .inl (by rw [List.mem_singleton.1 hj]; simp))

/-- The last number is taken. -/
def PopP (B : Nat) (w : World) (b o : Nat) (cs : Array Value) (t : TypeId) (A : Is) (l : List Int) (x : Int) (e : Ending) (w' : World) : Prop :=
  e = .returned (.int .i64 x) ∧ FreshInts B w' A.1 A.2.1 l ∧ w'.heap[b]? = some (.cells (cs.setIfInBounds o (Is.cell (A.1, A.2.1, l))) t (0, 0)) ∧ (Is.own (A.1, A.2.1, l) = A.own) ∧ Chg [b] w w'

set_option maxRecDepth 100000 in
set_option maxHeartbeats 4000000 in
theorem pop_any (w : World) (B b o : Nat) (cs : Array Value) (t : TypeId) (A : Is) (l : List Int) (x : Int) (hb : w.heap[b]? = some (.cells cs t (0, 0))) (ho : cs[o]? = some A.cell) (ht : t ≠ 3) (hA : FreshInts B w A.1 A.2.1 A.2.2) (hx : A.2.2 = l ++ [x]) :
    Calls Try.prog 28 #[.pointer (some ⟨b, o, none⟩)] w (PopP B w b o cs t A l x) := by
  obtain ⟨aa, ac, zs⟩ := A
  obtain rfl : zs = l ++ [x] := hx
  obtain ⟨q, hq⟩ : ∃ q, q = l.length := ⟨_, rfl⟩
  have hlen : (l ++ [x]).length = q + 1 := by rw [List.length_append, ← hq]; rfl
  simp only [Is.cell] at ho
  rw [hlen] at ho
  obtain ⟨hi, _, hc1, hc2⟩ := ownInts_read hA.own
  rw [hlen] at hc1
  obtain ⟨g, og, rfl, hxc⟩ := hi q (by rw [hlen]; omega)
  have hrow := hA
  unfold FreshInts at hrow
  rw [hlen] at hrow
  obtain ⟨g', hg'⟩ : ∃ g', (some ⟨g, og, none⟩ : Option Addr) = some ⟨g', 0, none⟩ := by
    rcases hrow.2 with ⟨h0, _⟩ | ⟨g', cap, cur, h0, _⟩
    · cases h0
    · simp only [Value.slice.injEq] at h0; exact ⟨g', h0.1⟩
  simp only [Option.some.injEq, Addr.mk.injEq, and_true] at hg'
  obtain ⟨rfl, rfl⟩ := hg'
  have hxx : w.cell? ⟨g, q, none⟩ = some (.int .i64 x) := by
    rw [Nat.zero_add] at hxc
    rw [hxc]
    simp [hq]
  have hcell : w.cell? ⟨b, o, none⟩ = some (.slice (some ⟨g, 0, none⟩) (q + 1) ac) := by rw [cell_of_cells hb]; exact ho
  have hfree : w.frozen? ⟨b, o, none⟩ = false := free_of_cells hb o
  have hc3 : q + 1 ≤ ac := hc1
  have hmx : ac ≤ 9223372036854775807 := by have hc4 : ac ≤ maxLen := hc2; simp only [maxLen] at hc4; omega
  have hw1 : wrap64 (q : Int) = (q : Int) := (IntWalk.i64_left _).symm.trans (IntWalk.i64_in _ (by omega))
  have H := Lib.hid (And.intro hb (And.intro ht (And.intro hrow hq)))
  clear hb ho ht hA hq hxc hi hlen hc2 hc1
  go_enter Try.func28, Try.ntmps28
  go_wp2_with fail
  go_ret
  have hc := (Chg.refl [b] w).setCell (p := ⟨b, o, none⟩) (.inl (by simp)) (.slice (some ⟨g, 0, none⟩) q ac)
  have hq := H.out.2.2.2
  have hr1 : w.ownsRow B 3 1 (.slice (some ⟨g, 0, none⟩) q ac) q (l.map (Value.int .i64)) := by
    have := row_take H.out.2.2.1 (show q ≤ q + 1 by omega) (by simp)
    rw [Nat.mul_one, List.map_append, List.take_append_of_le_length (by rw [List.length_map]; omega), List.take_of_length_le (by rw [List.length_map]; omega)] at this
    exact this
  refine ⟨rfl, ?_, ?_, ?_, hc⟩
  · show FreshInts B _ (some ⟨g, 0, none⟩) ac l
    unfold FreshInts
    rw [← hq]
    exact hc.row hr1 (fun k hk hm => by
      rw [List.mem_singleton.1 hm] at hk
      exact ownsRow_ne hr1 H.out.1 H.out.2.1 hk)
  · show (w.setCell ⟨b, o, none⟩ (.slice (some ⟨g, 0, none⟩) q ac)).heap[b]? = some (Obj.cells (cs.setIfInBounds o (.slice (some ⟨g, 0, none⟩) l.length ac)) t (0, 0))
    rw [← hq]; exact heap_setCell_same H.out.1 o _
  · rfl

set_option maxRecDepth 100000 in
set_option maxHeartbeats 4000000 in
/-- Something is done with each of so many numbers. -/
theorem each_any (w : World) (n : Nat) (hn : n ≤ 9223372036854775807) (f : FuncId) (b lb : Array Value) (eg : ∀ args w, (callFunc f args).run Try.prog w = .ok (.enter f args) w) (I : Nat → World → Prop) (h0 : I 0 w) (hstep : ∀ k, k < n → ∀ W, I k W → Calls Try.prog f (b.push (.int .i64 k) ++ lb) W fun e W' => e = .returned (.tuple #[]) ∧ I (k + 1) W') :
    Calls Try.prog 29 #[.int .i64 n, .func (.func f) b lb] w fun e w' => e = .returned (.tuple #[]) ∧ I n w' := by
  have H := Lib.hid hstep
  have H0 := Lib.hid h0
  clear hstep h0
  go_enter Try.func29, Try.ntmps29
  go_wp2_with fail
  go_loopg [6] n (fun d iv wr => ∃ k : Nat, d = n - k ∧ k ≤ n ∧ iv = .int .i64 k ∧ Hid (I k wr))
  case atStart => exact ⟨0, rfl, Nat.zero_le _, rfl, H0⟩
  case round =>
    obtain ⟨k, rfl, hk, rfl, hin⟩ := hrel
    obtain ⟨wq, rfl⟩ : ∃ wq, wq = wr := ⟨_, rfl⟩
    by_cases hlt : k < n
    · have hcall := eg (b.push (.int .i64 k) ++ lb) wq
      go_wp2_with fail
      refine (H.out k hlt wq hin.out).mono ?_
      rintro e w2 ⟨rfl, hI⟩
      have HI := Lib.hid hI
      clear hI hcall
      go_wp2_with fail
      go_roundg (n - (k + 1))
      case measure => omega
      case rel => exact ⟨k + 1, rfl, by omega, by go_num, HI⟩
    · obtain rfl : k = n := by omega
      go_wp2_with fail
      refine bodyPost_end (v := .tuple #[]) (by simp [results, Try.results29, go_sem]) rfl ?_
      exact ⟨rfl, hin.out⟩

set_option maxRecDepth 100000 in
set_option maxHeartbeats 4000000 in
theorem number_any (w : World) (a : Option Addr) (n c : Nat) (x : Int) (hn : n ≤ 9223372036854775807) :
    Calls Try.prog 26 #[.slice a n c, .int .i64 x] w fun e w' => e = .returned (.bool (decide (0 ≤ x) && decide (x < n))) ∧ Chg [] w w' := by
  go_enter Try.func26, Try.ntmps26
  by_cases h1 : 0 ≤ x
  · go_wp2_with fail
    go_ret
    exact ⟨ret_bool (by simp [h1]), Chg.refl _ _⟩
  · go_wp2_with fail
    go_ret
    exact ⟨ret_bool (by simp; omega), Chg.refl _ _⟩
end Go.Proofs.Ytplpboknmhgpiaa

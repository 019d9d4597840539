/-
  The walks over package seed: Grow, End, Read, Len.
  Conditions: as in the texts before.
-/
import Derived.Test.YtffjfkjlahdedaaSnsSeedE
set_option linter.unusedVariables false
set_option linter.unusedSimpArgs false
set_option linter.unnecessarySimpa false
namespace Go.Proofs.Ytffjfkjlahdedaa
open Go.RowKit Go.MapKept

theorem head_empty {NB : Nat} {w : World} {b m : Nat} {v : Value} (h : StoreAt NB w b v m []) : ∃ a c, v = .slice a 0 c := by
  obtain ⟨a, c, rfl⟩ := ownsRow_slice h.row
  exact ⟨a, c, rfl⟩

set_option maxRecDepth 100000 in
set_option maxHeartbeats 800000 in
theorem end_empty {NB : Nat} (w : World) (b m : Nat) (v fv : Value) (h : StoreAt NB w b v m []) :
    Calls Try.prog 28 #[.pointer (some ⟨b, 0, none⟩), fv] w fun r w' => r = .returned (.int .i64 5) ∧ Chg [] w w' := by
  obtain ⟨a, c, rfl⟩ := head_empty h
  have hb := lt_of_block h.head
  have c0 := cell_of_cells h.head 0
  have c1 := cell_of_cells h.head 1
  simp at c0 c1
  clear h
  go_enter Try.func28, Try.ntmps28
  go_wp2_with fail
  refine (made_yes _ _ _ c1).mono ?_
  rintro e w' ⟨rfl, rfl⟩
  go_wp2_with fail
  refine (last_none _ _ _ _ c0).mono ?_
  rintro e w1 ⟨rfl, hc⟩
  have HC := Lib.hid hc
  clear hc
  go_wp2
  go_ret
  exact ⟨rfl, HC.out.alloc _⟩

theorem StoreAt.chg0 {NB : Nat} {w w' : World} {b m : Nat} {v : Value} {s : St} (h : StoreAt NB w b v m s) (hc : Chg [] w w') : StoreAt NB w' b v m s := h.keep hc

def growSt (s : St) (q : Int × Int) (f : Found) (e l : Int) (t : List Tw) : St := s ++ [(q, if mayGrow f e l then some (e, l, t) else f)]
def growErr (f : Found) (e l : Int) : Int := if mayGrow f e l then 0 else 2

theorem grow1_any {NB : Nat} (w : World) (b m Bs Bx : Nat) (v : Value) (s : St) (q : Int × Int) (f : Found) (e l : Int) (a : Option Addr) (n c : Nat) (t : List Tw) (h : StoreAt NB w b v m (s ++ [(q, f)])) (hBs : w.heap[Bs]? = some (.cells #[.pointer (some ⟨b, 0, none⟩)] 24 (0, 0)))
    (hBx : w.heap[Bx]? = some (.cells #[.int .i64 e, .int .i64 l, .slice a n c] 36 (0, 0))) (ht : Tree w (.slice a n c) t) :
    Calls Try.prog 29 #[.agg #[.int .i64 q.1, .int .i64 q.2], .pointer (some ⟨Bs, 0, none⟩), .pointer (some ⟨Bx, 0, none⟩)] w fun r w' => r = .returned (.int .i64 (growErr f e l)) ∧ StoreAt NB w' b v m (growSt s q f e l t) ∧ Chg (own b v m) w w' := by
  unfold growErr growSt
  cases hm : mayGrow f e l
  · exact (grow1_no w b m Bs Bx v s q f e l a n c t h hBs hBx ht hm).mono fun r w' ⟨h1, h2⟩ => ⟨h1, h.keep h2, h2.any⟩
  · exact grow1_yes w b m Bs Bx v s q f e l a n c t h hBs hBx ht hm

set_option maxRecDepth 100000 in
set_option maxHeartbeats 800000 in
theorem end_grow {NB : Nat} (w : World) (b m Bs Bx : Nat) (v : Value) (s : St) (q : Int × Int) (f : Found) (e l : Int) (a : Option Addr) (n c : Nat) (t : List Tw) (h : StoreAt NB w b v m (s ++ [(q, f)])) (hBs : w.heap[Bs]? = some (.cells #[.pointer (some ⟨b, 0, none⟩)] 24 (0, 0)))
    (hBx : w.heap[Bx]? = some (.cells #[.int .i64 e, .int .i64 l, .slice a n c] 36 (0, 0))) (ht : Tree w (.slice a n c) t) (hs : s.length ≤ 1099511627776) :
    Calls Try.prog 28 #[.pointer (some ⟨b, 0, none⟩), .func (.func 29) #[] #[.pointer (some ⟨Bs, 0, none⟩), .pointer (some ⟨Bx, 0, none⟩)]] w fun r w' => r = .returned (.int .i64 (growErr f e l)) ∧ StoreAt NB w' b v m (growSt s q f e l t) ∧ Chg (own b v m) w w' := by
  obtain ⟨g, cp, rfl, hn, hcm, p0, p1⟩ := pairs_last h
  have hb := lt_of_block h.head
  have c0 := cell_of_cells h.head 0
  have c1 := cell_of_cells h.head 1
  simp at c0 c1
  have H := Lib.hid (And.intro h (And.intro hBs (And.intro hBx (And.intro ht hs))))
  clear h hBs hBx ht
  go_enter Try.func28, Try.ntmps28
  go_wp2_with fail
  refine (made_yes _ _ _ c1).mono ?_
  rintro r w' ⟨rfl, rfl⟩
  go_wp2_with fail
  refine (last_some _ _ _ _ _ _ _ c0 hs p0 p1).mono ?_
  rintro r w1 ⟨rfl, hc⟩
  have HC := Lib.hid hc
  clear hc c0 c1 p0 p1
  go_wp2_with fail
  have hc2 : Chg [] w (w1.alloc (.cells #[.int .i64 q.1, .int .i64 q.2] 71)) := HC.out.alloc _
  refine (grow1_any _ b m Bs Bx _ s q f e l a n c t (H.out.1.keep hc2) (hc2.heap H.out.2.1 (by simp)) (hc2.heap H.out.2.2.1 (by simp)) ⟨hc2.row H.out.2.2.2.1.1 (by simp), H.out.2.2.2.1.2⟩).mono ?_
  rintro r w3 ⟨rfl, hst, hc3⟩
  have HC2 := Lib.hid (And.intro hc2 (And.intro hst hc3))
  clear hc2 hst hc3
  go_wp2
  go_ret
  exact ⟨rfl, HC2.out.2.1, HC2.out.1.any.tr HC2.out.2.2⟩

def lastOf (s : St) : Option ((Int × Int) × Found) := s.getLast?
def St.grow (s : St) (e l : Int) (t : List Tw) : St := match s.getLast? with | none => s | some (q, f) => growSt s.dropLast q f e l t
def St.growErr (s : St) (e l : Int) : Int := match s.getLast? with | none => 5 | some (_, f) => Ytffjfkjlahdedaa.growErr f e l

set_option maxRecDepth 100000 in
set_option maxHeartbeats 800000 in
theorem grow_any {NB : Nat} (w : World) (b m : Nat) (v : Value) (s : St) (e l : Int) (a : Option Addr) (n c : Nat) (t : List Tw) (h : StoreAt NB w b v m s) (ht : Tree w (.slice a n c) t) (hs : s.length ≤ 1099511627776) :
    Calls Try.prog 11 #[.pointer (some ⟨b, 0, none⟩), .agg #[.int .i64 e, .int .i64 l, .slice a n c]] w fun r w' => r = .returned (.int .i64 (s.growErr e l)) ∧ StoreAt NB w' b v m (s.grow e l t) ∧ Chg (own b v m) w w' := by
  have hc : Chg [] w ((w.alloc (.cells #[.pointer (some ⟨b, 0, none⟩)] 24)).alloc (.cells #[.int .i64 e, .int .i64 l, .slice a n c] 36)) := ((Chg.refl _ _).alloc _).alloc _
  have hB1 : ((w.alloc (.cells #[.pointer (some ⟨b, 0, none⟩)] 24)).alloc (.cells #[.int .i64 e, .int .i64 l, .slice a n c] 36)).heap[w.heap.size]? = some (.cells #[.pointer (some ⟨b, 0, none⟩)] 24 (0, 0)) := heap_alloc_lt (heap_alloc_same w _) _
  have hB2 := heap_alloc_same (w.alloc (.cells #[.pointer (some ⟨b, 0, none⟩)] 24)) (.cells #[.int .i64 e, .int .i64 l, .slice a n c] 36)
  rw [World.size_alloc] at hB2
  have H := Lib.hid (And.intro h (And.intro hc (And.intro hB1 (And.intro hB2 (And.intro ht hs)))))
  clear h hc hB1 hB2 ht hs
  rcases List.eq_nil_or_concat s with rfl | ⟨s0, x, rfl⟩
  · go_enter Try.func11, Try.ntmps11
    go_wp2_with fail
    refine (end_empty _ b m v _ (H.out.1.keep H.out.2.1)).mono ?_
    rintro r w1 ⟨rfl, hc1⟩
    have HC := Lib.hid hc1
    clear hc1
    go_wp2
    go_ret
    exact ⟨rfl, H.out.1.keep (H.out.2.1.tr HC.out), (H.out.2.1.tr HC.out).any⟩
  · obtain ⟨q, f⟩ := x
    have hsl : s0.length ≤ 1099511627776 := by have := H.out.2.2.2.2.2; simp at this; omega
    go_enter Try.func11, Try.ntmps11
    go_wp2_with fail
    refine (end_grow _ b m _ _ v s0 q f e l a n c t (by have := H.out.1.keep H.out.2.1; simpa using this) H.out.2.2.1 H.out.2.2.2.1 ⟨H.out.2.1.row H.out.2.2.2.2.1.1 (by simp), H.out.2.2.2.2.1.2⟩ hsl).mono ?_
    rintro r w1 ⟨rfl, hst, hc1⟩
    have HC := Lib.hid (And.intro hst hc1)
    clear hc1 hst
    go_wp2
    go_ret
    refine ⟨by simp [St.growErr], by simpa [St.grow] using HC.out.1, H.out.2.1.any.tr HC.out.2⟩
end Go.Proofs.Ytffjfkjlahdedaa

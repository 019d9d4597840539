/-
  left.of: a right grammar at work.
  Conditions: the grammar reads as data, within the reach.
-/
import Derived.Test.YtibgfgfmljhimaaLf0
import Derived.Test.YtibgfgfmljhimaaGRnd
set_option linter.unusedVariables false
set_option linter.unusedSimpArgs false
set_option linter.unnecessarySimpa false
namespace Go.Proofs.Ytibgfgfmljhimaa
open Go.RowKit Go.MapKept Go.Shelf

structure LWork (W : World) (B R : Nat) (a1 : Option Addr) (n1 c1 : Nat) (a2 : Option Addr) (n2 c2 : Nat) (g : Gr) : Prop where
  box : W.heap[B]? = some (.cells #[.slice a1 n1 c1, .slice a2 n2 c2, .slice (some ⟨R, 0, none⟩) n2 n2] 156 (0, 0))
  gram : GramAt W a1 n1 c1 a2 n2 c2 g
  row : W.heap[R]? = some (rowB (nullB g))
  right : rightB g = true
theorem LWork.chg {W W' : World} {B R : Nat} {a1 : Option Addr} {n1 c1 : Nat} {a2 : Option Addr} {n2 c2 : Nat} {g : Gr} (h : LWork W B R a1 n1 c1 a2 n2 c2 g) (hc : Chg [] W W') : LWork W' B R a1 n1 c1 a2 n2 c2 g :=
  ⟨hc.heap h.box (by simp), h.gram.keep hc.kp, hc.heap h.row (by simp), h.right⟩
def LOf (w : World) (a1 : Option Addr) (n1 c1 : Nat) (a2 : Option Addr) (n2 c2 : Nat) (g : Gr) (e : Ending) (w' : World) : Prop :=
  Chg [] w w' ∧ if rightB g then ∃ B R, w.heap.size ≤ B ∧ w.heap.size ≤ R ∧ e = .returned (.tuple #[.pointer (some ⟨B, 0, none⟩), .bool true]) ∧ LWork w' B R a1 n1 c1 a2 n2 c2 g else e = .returned (.tuple #[.pointer none, .bool false])

section
attribute [local go_sem] Oper.semAt_some
set_option maxRecDepth 100000 in
set_option maxHeartbeats 4000000 in
theorem ofLeft_any (w : World) (a1 : Option Addr) (n1 c1 : Nat) (a2 : Option Addr) (n2 c2 : Nat) (g : Gr) (hg : GramAt w a1 n1 c1 a2 n2 c2 g) (hre : Reach g) :
    Calls Try.prog 111 #[.agg #[.slice a1 n1 c1, .slice a2 n2 c2]] w (LOf w a1 n1 c1 a2 n2 c2 g) := by
  have H := Lib.hid (And.intro hg (And.intro hre hg.e2))
  clear hg hre
  go_enter Try.func111, Try.ntmps111
  obtain ⟨x0, x1⟩ := cells2 (heap_alloc_same w (.cells #[.slice a1 n1 c1, .slice a2 n2 c2] 25))
  go_wp2_with fail
  refine (Right_any _ a1 n1 c1 a2 n2 c2 g (H.out.1.keep ((Chg.refl [] w).alloc _).kp)).mono ?_
  rintro e w1 ⟨rfl, hc1⟩
  have H1 := Lib.hid (And.intro (hc1.heap (heap_alloc_same w _) (by simp)) (((Chg.refl [] w).alloc _).tr0 hc1))
  clear hc1 x0 x1
  obtain ⟨x0, x1⟩ := cells2 H1.out.1
  cases hr : rightB g with
  | false =>
    have HR := Lib.hid hr
    clear hr
    go_wp2_with fail
    refine bodyPost_ret (v := .tuple #[.pointer none, .bool false]) (by simp [results, Try.results111, go_sem]) rfl ?_
    exact ⟨H1.out.2, by rw [HR.out]; rfl⟩
  | true =>
    have hn2 : n2 ≤ 2048 := by have := (right_sizes hr).2.2; have := H.out.2.2; omega
    have HR := Lib.hid hr
    clear hr
    have hz := run_falses n2 (by omega)
    obtain ⟨x0', x1'⟩ := cells2 (heap_alloc_lt H1.out.1 (rowB (List.replicate n2 false)))
    go_wp2_with fail
    go_region
    obtain ⟨w4, e4⟩ : ∃ w4, w4 = ((w1.alloc (rowB (List.replicate n2 false))).alloc (.cells #[.slice a1 n1 c1, .slice a2 n2 c2, .slice (some ⟨w1.heap.size, 0, none⟩) n2 n2] 156)).drew := ⟨_, rfl⟩
    have hc4 : Chg [] w1 w4 := by rw [e4]; exact (((Chg.refl _ w1).alloc _).alloc _).drew
    have hrow : w4.heap[w1.heap.size]? = some (rowB (List.replicate n2 false)) := by rw [e4]; exact heap_alloc_lt (heap_alloc_same _ _) _
    have hbox : w4.heap[w1.heap.size + 1]? = some (.cells #[.slice a1 n1 c1, .slice a2 n2 c2, .slice (some ⟨w1.heap.size, 0, none⟩) n2 n2] 156 (0, 0)) := by
      rw [e4]
      have := heap_alloc_same (w1.alloc (rowB (List.replicate n2 false))) (.cells #[.slice a1 n1 c1, .slice a2 n2 c2, .slice (some ⟨w1.heap.size, 0, none⟩) n2 n2] 156)
      rwa [World.size_alloc] at this
    have hbg := hc4.heap H1.out.1 (by simp)
    have H4 := Lib.hid (And.intro hrow (And.intro hbox (And.intro hbg (H1.out.2.tr hc4))))
    simp only [← e4]
    clear e4 hrow hbox hbg hc4 hz x0 x1 x0' x1'
    obtain ⟨x0, x1⟩ := cells2 H4.out.2.2.1
    go_wp2_with fail
    refine (nullNodes_any _ a1 n1 c1 a2 n2 c2 g (H.out.1.keep H4.out.2.2.2.kp) H.out.2.1).mono ?_
    rintro e w5 ⟨al, cl, rfl, hf5, hc5⟩
    obtain ⟨ll, hll⟩ : ∃ ll, ll = (nodesN g).length := ⟨_, rfl⟩
    rw [← hll]
    have hll3 : ll ≤ 2048 := by
      rw [hll]
      unfold nodesN
      split
      · exact Nat.le_trans (pickL_le _ _) (by have := H.out.2.2; omega)
      · exact Nat.zero_le _
    have hbt : toldAt g 0 = List.replicate n2 false := by rw [H.out.2.2, toldAt_zero]
    have H5 := Lib.hid (And.intro hf5 (And.intro hll (And.intro (hc5.heap H4.out.1 (by simp)) (And.intro (hc5.heap H4.out.2.1 (by simp)) (And.intro hc5 hbt)))))
    have hl5 := hc5.size
    have hl4 := lt_of_block H4.out.2.1
    clear hf5 hll hc5 hbt x0 x1
    go_wp2_with fail
    go_loopg [19] ll (fun d iv wr => ∃ k : Nat, d = ll - k ∧ k ≤ ll ∧ iv = .int .i64 k ∧ Hid (Chg [w1.heap.size] w5 wr ∧ wr.heap[w1.heap.size]? = some (rowB (toldAt g k))))
    case atStart => exact ⟨0, rfl, Nat.zero_le _, rfl, Lib.hid ⟨Chg.refl _ _, by rw [H5.out.2.2.2.2.2]; exact H5.out.2.2.1⟩⟩
    case round =>
      obtain ⟨k, rfl, hk, rfl, hin⟩ := hrel
      obtain ⟨wq, rfl⟩ : ∃ wz, wz = wr := ⟨_, rfl⟩
      by_cases hkl : k < ll
      · have hints := ownInts_read H5.out.1.own
        have hkn : k < (nodesN g).length := by have := H5.out.2.1; omega
        obtain ⟨bl, ol, rfl, hcell⟩ := hints.1 k hkn
        obtain ⟨z, hz⟩ : ∃ z, z = (nodesN g)[k] := ⟨_, rfl⟩
        rw [← hz] at hcell
        have hLk : (nodesN g)[k]? = some z := by rw [hz]; exact List.getElem?_eq_getElem hkn
        obtain ⟨q, rfl, hq⟩ := nodesN_at hLk
        have hbl : w4.heap.size ≤ bl := by
          rcases H5.out.1.2 with ⟨h0, h1⟩ | ⟨G, cap, cur, h0, hb, _⟩
          · cases h0
          · cases h0; exact hb
        have hc1 := hin.out.1.cell hcell (by simp; omega)
        obtain ⟨u, hu⟩ : ∃ u, (toldAt g k)[q]? = some u := ⟨_, List.getElem?_eq_getElem (by rw [toldAt_len]; exact hq)⟩
        have hcu := rowB_cell hin.out.2 hu
        have hfu := rowB_free hin.out.2 q
        have hqn : q < n2 := by have := H.out.2.2; omega
        have hbx := cell_of_cells (hin.out.1.heap H5.out.2.2.2.1 (by simp)) 2
        simp at hbx
        have HZ := Lib.hid hLk
        clear hints hcell hLk hu hq
        clear hz hkn
        go_wp2_with fail
        go_roundg (ll - (k + 1))
        case measure => omega
        case rel =>
          refine ⟨k + 1, rfl, by omega, by go_num, Lib.hid ⟨hin.out.1.setCell (p := ⟨w1.heap.size, q, none⟩) (.inl (by simp)) _, ?_⟩⟩
          rw [toldAt_succ HZ.out]
          exact rowB_set _ hin.out.2
      · obtain rfl : k = ll := by omega
        go_wp2_with fail
        refine bodyPost_ret (v := .tuple #[.pointer (some ⟨w1.heap.size + 1, 0, none⟩), .bool true]) (by simp [results, Try.results111, go_sem]) rfl ?_
        have hcw : Chg [] w wq := (H4.out.2.2.2.tr H5.out.2.2.2.2.1).trans hin.out.1 (fun j hj => .inr (by have := H1.out.2.size; simp at hj; omega))
        refine ⟨hcw, ?_⟩
        rw [if_pos HR.out]
        have := H1.out.2.size
        refine ⟨w1.heap.size + 1, w1.heap.size, by omega, by omega, rfl, hin.out.1.heap H5.out.2.2.2.1 (by simp), H.out.1.keep hcw.kp, ?_, HR.out⟩
        rw [← told_null HR.out, ← H5.out.2.1]
        exact hin.out.2
end
end Go.Proofs.Ytibgfgfmljhimaa

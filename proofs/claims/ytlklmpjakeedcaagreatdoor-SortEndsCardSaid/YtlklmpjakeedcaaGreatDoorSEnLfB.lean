/-
 left.of: a right grammar at work.
 Conditions: the grammar reads as data, within the reach.
-/
import Derived.Test.YtlklmpjakeedcaaGreatDoorSEnRf1
import Derived.Test.YtlklmpjakeedcaaGreatDoorSEnGMix
set_option linter.unusedVariables false
set_option linter.unusedSimpArgs false
set_option linter.unnecessarySimpa false
namespace Go.Proofs.YtlklmpjakeedcaaGreatDoor
open Go.RowKit Go.MapKept Go.Shelf

structure LWork (W : World) (B R : Nat) (a1 : Option Addr) (n1 c1 : Nat) (a2 : Option Addr) (n2 c2 : Nat) (g : Gr) : Prop where
 box : W.heap[B]? = some (.cells #[.slice a1 n1 c1, .slice a2 n2 c2, .slice (some ⟨R, 0, none⟩) n2 n2] 110 (0, 0))
 gram : GramAt W a1 n1 c1 a2 n2 c2 g
 row : W.heap[R]? = some (rowB (nullB g))
 right : rightB g = true
theorem LWork.chg {W W' : World} {B R : Nat} {a1 : Option Addr} {n1 c1 : Nat} {a2 : Option Addr} {n2 c2 : Nat} {g : Gr} (h : LWork W B R a1 n1 c1 a2 n2 c2 g) (hc : Chg [] W W') : LWork W' B R a1 n1 c1 a2 n2 c2 g :=
 ⟨hc.heap h.box (by simp), h.gram.keep hc.kp, hc.heap h.row (by simp), h.right⟩
def LOf (w : World) (a1 : Option Addr) (n1 c1 : Nat) (a2 : Option Addr) (n2 c2 : Nat) (g : Gr) (e : Ending) (w' : World) : Prop :=
 Chg [] w w' ∧ if rightB g then ∃ B R, w.heap.size ≤ B ∧ w.heap.size ≤ R ∧ e = .returned (.tuple #[.pointer (some ⟨B, 0, none⟩), .bool true]) ∧ LWork w' B R a1 n1 c1 a2 n2 c2 g else e = .returned (.tuple #[.pointer none, .bool false])

section
attribute [local go_sem] Oper.semAt_some
set_option maxRecDepth 100000 in
set_option maxHeartbeats 4000000 in
theorem ofLeft_any (w : World) (a1 : Option Addr) (n1 c1 : Nat) (a2 : Option Addr) (n2 c2 : Nat) (g : Gr) (hg : GramAt w a1 n1 c1 a2 n2 c2 g) (hre : Reach g) :
  Calls Tryz.prog 41 #[.agg #[.slice a1 n1 c1, .slice a2 n2 c2]] w (LOf w a1 n1 c1 a2 n2 c2 g) := by
 have H := Lib.hid (And.intro hg (And.intro hre hg.e2))
 clear hg hre
 go_enter Tryz.func41, Tryz.ntmps41
 obtain ⟨x0, x1⟩ := cells2 (heap_alloc_same w (.cells #[.slice a1 n1 c1, .slice a2 n2 c2] 31))
 go_wp2_with fail
 refine (Right_any _ a1 n1 c1 a2 n2 c2 g (H.out.1.keep ((Chg.refl [] w).alloc _).kp)).mono ?_
 rintro e w1 ⟨rfl, hc1⟩
 have H1 := Lib.hid (And.intro (hc1.heap (heap_alloc_same w _) (by simp)) (((Chg.refl [] w).alloc _).tr0 hc1))
 clear hc1 x0 x1
 obtain ⟨x0, x1⟩ := cells2 H1.out.1
 cases hr : rightB g with
 | false =>
  have HR := Lib.hid hr
  clear hr
  go_wp2_with fail
  refine bodyPost_ret (v := .tuple #[.pointer none, .bool false]) (by simp [results, Tryz.results41, go_sem]) rfl ?_
  exact ⟨H1.out.2, by rw [HR.out]; rfl⟩
 | true =>
  have hn2 : n2 ≤ 2048 := by have := (right_sizes hr).2.2; have := H.out.2.2; omega
  have HR := Lib.hid hr
  clear hr
  have hz := run_falses n2 (by omega)
  obtain ⟨x0', x1'⟩ := cells2 (heap_alloc_lt H1.out.1 (rowB (List.replicate n2 false)))
  go_wp2_with fail
  go_region
  obtain ⟨w4, e4⟩ : ∃ w4, w4 = ((w1.alloc (rowB (List.replicate n2 false))).alloc (.cells #[.slice a1 n1 c1, .slice a2 n2 c2, .slice (some ⟨w1.heap.size, 0, none⟩) n2 n2] 110)).drew := ⟨_, rfl⟩
  have hc4 : Chg [] w1 w4 := by rw [e4]; exact (((Chg.refl _ w1).alloc _).alloc _).drew
  have hrow : w4.heap[w1.heap.size]? = some (rowB (List.replicate n2 false)) := by rw [e4]; exact heap_alloc_lt (heap_alloc_same _ _) _
  have hbox : w4.heap[w1.heap.size + 1]? = some (.cells #[.slice a1 n1 c1, .slice a2 n2 c2, .slice (some ⟨w1.heap.size, 0, none⟩) n2 n2] 110 (0, 0)) := by
   rw [e4]
   have := heap_alloc_same (w1.alloc (rowB (List.replicate n2 false))) (.cells #[.slice a1 n1 c1, .slice a2 n2 c2, .slice (some ⟨w1.heap.size, 0, none⟩) n2 n2] 110)
   rwa [World.size_alloc] at this
  have hbg := hc4.heap H1.out.1 (by simp)
  have H4 := Lib.hid (And.intro hrow (And.intro hbox (And.intro hbg (H1.out.2.tr hc4))))
  simp only [← e4]
  clear e4 hrow hbox hbg hc4 hz x0 x1 x0' x1'
  obtain ⟨x0, x1⟩ := cells2 H4.out.2.2.1
  go_wp2_with fail
  refine (nullNodes_any _ a1 n1 c1 a2 n2 c2 g (H.out.1.keep H4.out.2.2.2.kp) H.out.2.1).mono ?_
  rintro e w5 ⟨al, cl, rfl, hf5, hc5⟩
  obtain ⟨ll, hll⟩ : ∃ ll, ll = (nodesN g).length := ⟨_, rfl⟩
  rw [← hll]
  have hll3 : ll ≤ 2048 := by
   rw [hll]
   unfold nodesN
   split
   ·exact Nat.le_trans (pickL_le _ _) (by have := H.out.2.2; omega)
   ·exact Nat.zero_le _
  have hbt : toldAt g 0 = List.replicate n2 false := by rw [H.out.2.2, toldAt_zero]
  have H5 := Lib.hid (And.intro hf5 (And.intro hll (And.intro (hc5.heap H4.out.1 (by simp)) (And.intro (hc5.heap H4.out.2.1 (by simp)) (And.intro hc5 hbt)))))
  have hl5 := hc5.size
  have hl4 := lt_of_block H4.out.2.1
  clear hf5 hll hc5 hbt x0 x1
  go_wp2_with fail
  go_loopg [19] ll (fun d iv wr => ∃ k : Nat, d = ll - k ∧ k ≤ ll ∧ iv = .int .i64 k ∧ Hid (Chg [w1.heap.size] w5 wr ∧ wr.heap[w1.heap.size]? = some (rowB (toldAt g k))))
  case atStart => exact ⟨0, rfl, Nat.zero_le _, rfl, Lib.hid ⟨Chg.refl _ _, by rw [H5.out.2.2.2.2.2]; exact H5.out.2.2.1⟩⟩
  case round =>
   obtain ⟨k, rfl, hk, rfl, hin⟩ := hrel
   obtain ⟨wq, rfl⟩ : ∃ wz, wz = wr := ⟨_, rfl⟩
   by_cases hkl : k < ll
   ·have hints := ownInts_read H5.out.1.own
    have hkn : k < (nodesN g).length := by have := H5.out.2.1; omega
    obtain ⟨bl, ol, rfl, hcell⟩ := hints.1 k hkn
    obtain ⟨z, hz⟩ : ∃ z, z = (nodesN g)[k] := ⟨_, rfl⟩
    rw [← hz] at hcell
    have hLk : (nodesN g)[k]? = some z := by rw [hz]; exact List.getElem?_eq_getElem hkn
    obtain ⟨q, rfl, hq⟩ := nodesN_at hLk
    have hbl : w4.heap.size ≤ bl := by
     rcases H5.out.1.2 with ⟨h0, h1⟩ | ⟨G, cap, cur, h0, hb, _⟩
     ·cases h0
     ·cases h0; exact hb
    have hc1 := hin.out.1.cell hcell (by simp; omega)
    obtain ⟨u, hu⟩ : ∃ u, (toldAt g k)[q]? = some u := ⟨_, List.getElem?_eq_getElem (by rw [toldAt_len]; exact hq)⟩
    have hcu := rowB_cell hin.out.2 hu
    have hfu := rowB_free hin.out.2 q
    have hqn : q < n2 := by have := H.out.2.2; omega
    have hbx := cell_of_cells (hin.out.1.heap H5.out.2.2.2.1 (by simp)) 2
    simp at hbx
    have HZ := Lib.hid hLk
    clear hints hcell hLk hu hq
    clear hz hkn
    go_wp2_with fail
    go_roundg (ll - (k + 1))
    case measure => omega
    case rel =>
     refine ⟨k + 1, rfl, by omega, by go_num, Lib.hid ⟨hin.out.1.setCell (p := ⟨w1.heap.size, q, none⟩) (.inl (by simp)) _, ?_⟩⟩
     rw [toldAt_succ HZ.out]
     exact rowB_set _ hin.out.2
   ·obtain rfl : k = ll := by omega
    go_wp2_with fail
    refine bodyPost_ret (v := .tuple #[.pointer (some ⟨w1.heap.size + 1, 0, none⟩), .bool true]) (by simp [results, Tryz.results41, go_sem]) rfl ?_
    have hcw : Chg [] w wq := (H4.out.2.2.2.tr H5.out.2.2.2.2.1).trans hin.out.1 (fun j hj => .inr (by have := H1.out.2.size; simp at hj; omega))
    refine ⟨hcw, ?_⟩
    rw [if_pos HR.out]
    have := H1.out.2.size
    refine ⟨w1.heap.size + 1, w1.heap.size, by omega, by omega, rfl, hin.out.1.heap H5.out.2.2.2.1 (by simp), H.out.1.keep hcw.kp, ?_, HR.out⟩
    rw [← told_null HR.out, ← H5.out.2.1]
    exact hin.out.2
end
end Go.Proofs.YtlklmpjakeedcaaGreatDoor
set_option linter.unusedVariables false
set_option linter.unusedSimpArgs false
set_option linter.unnecessarySimpa false
namespace Go.Proofs.YtlklmpjakeedcaaGreatDoor
open Go.RowKit Go.MapKept Go.Shelf

/-- What lay below n₀ lies as it lay, and each block of a node. -/
structure KeepL (n₀ : Nat) (A B : World) : Prop where
 size : A.heap.size ≤ B.heap.size
 old : ∀ k o, (k < n₀ ∨ ∃ cs, o = .cells cs 65 (0, 0)) → A.heap[k]? = some o → B.heap[k]? = some o
theorem KeepL.refl (n₀ : Nat) (A : World) : KeepL n₀ A A := ⟨Nat.le_refl _, fun _ _ _ h => h⟩
theorem KeepL.trans {n₀ : Nat} {A B C : World} (h : KeepL n₀ A B) (k : KeepL n₀ B C) : KeepL n₀ A C := ⟨Nat.le_trans h.size k.size, fun j o hj ho => k.old j o hj (h.old j o hj ho)⟩
theorem KeepL.of_chg {n₀ : Nat} {S : List Nat} {A B : World} (h : Chg S A B) (hS : ∀ k ∈ S, n₀ ≤ k ∧ ∀ cs, A.heap[k]? ≠ some (.cells cs 65 (0, 0))) : KeepL n₀ A B :=
 ⟨h.size, fun k o hk ho => h.heap ho (fun hm => by
  obtain ⟨h1, h2⟩ := hS k hm
  rcases hk with h | ⟨cs, rfl⟩
  ·omega
  ·exact h2 cs ho)⟩
theorem KeepL.of_chg0 {n₀ : Nat} {A B : World} (h : Chg [] A B) : KeepL n₀ A B := .of_chg h (by simp)
theorem KeepL.of_turn {n₀ B' : Nat} {A B : World} (h : Turn B' A B) (hn : n₀ ≤ B') : KeepL n₀ A B := by
 refine ⟨h.kp.1, fun k o hk ho => ?_⟩
 rcases hk with hk | ⟨cs, rfl⟩
 ·obtain ⟨l, hl, hc⟩ := h.chg
  exact hc.heap ho (by simp; omega)
 ·exact h.heap ho rfl
theorem KeepL.kp {w W : World} (h : KeepL w.heap.size w W) : Kp w W := by
 refine ⟨h.size, fun p v hc => ?_⟩
 obtain ⟨o, ho, _⟩ := cells_of_cell hc
 exact (World.cell?_of_block ((h.old _ _ (.inl (World.block_lt_of_cell? _ _ hc)) ho).trans ho.symm)).trans hc
theorem LWork.keepL {W W' : World} {B R : Nat} {a1 : Option Addr} {n1 c1 : Nat} {a2 : Option Addr} {n2 c2 : Nat} {g : Gr} (h : LWork W B R a1 n1 c1 a2 n2 c2 g) (hc : KeepL W.heap.size W W') : LWork W' B R a1 n1 c1 a2 n2 c2 g :=
 ⟨hc.old _ _ (.inl (lt_of_block h.box)) h.box, h.gram.keep hc.kp, hc.old _ _ (.inl (lt_of_block h.row)) h.row, h.right⟩

section
attribute [local go_sem] Oper.semAt_some
set_option maxRecDepth 100000 in
set_option maxHeartbeats 8000000 in
theorem visit_in (w00 : World) (B R : Nat) (a1 : Option Addr) (n1 c1 : Nat) (a2 : Option Addr) (n2 c2 : Nat) (g : Gr) (hw : LWork w00 B R a1 n1 c1 a2 n2 c2 g) (L : List Int) (m l : Nat) (J Jx : List Int → World → Prop)
  (hJ : ∀ s A B, J s A → Chg [] A B → J s B)
  (hY : ∀ pre x W1, J pre W1 → pre ++ [x] <+: L → YieldAt Fence.wide m Tryz.prog l #[.int .i64 x] W1 fun e W' =>
   (e = .returned (.bool true) ∧ J (pre ++ [x]) W' ∧ KeepL w00.heap.size W1 W') ∨ (e = .returned (.bool false) ∧ Jx (pre ++ [x]) W')) :
  ∀ (d n : Nat), g.nodes.length - n ≤ d → n < g.nodes.length → ∀ (pre : List Int) (W : World), KeepL w00.heap.size w00 W → J pre W → pre ++ ownG g n <+: L →
   CallsIn Fence.wide (m + 1) Tryz.prog 107 #[.pointer (some ⟨B, 0, none⟩), .int .i64 n, .func (.yield l) #[] #[]] W fun e W' =>
    (e = .returned (.bool true) ∧ J (pre ++ ownG g n) W' ∧ KeepL w00.heap.size W W') ∨ (e = .returned (.bool false) ∧ ∃ p, Jx p W') := by
 have hf : Falls g.nodes := falls_right hw.right
 intro d
 induction d with
 | zero => intro n h1 h2; omega
 | succ d ih =>
  intro n hd hn pre W hk h0 hpre
  have e0 : ownG g n = (n : Int) :: kidsOwn g.nodes[n].k (mayG g) (ownG g) g.nodes[n].kids := ownN_eq hf _ hn
  obtain ⟨x, hx⟩ : ∃ x, x = g.nodes[n] := ⟨_, rfl⟩
  rw [← hx] at e0
  obtain ⟨own, hown⟩ : ∃ own, own = ownG g n := ⟨_, rfl⟩
  rw [← hown] at hpre e0 ⊢
  have hX : pre ++ [(n : Int)] <+: L := by
   refine List.IsPrefix.trans ?_ hpre
   rw [e0]
   exact ⟨_, by rw [List.append_assoc]; rfl⟩
  obtain ⟨fn, tmps, assign, body, hy, hR⟩ := hY pre n W h0 hX
  have H := Lib.hid (And.intro hw (And.intro hk (And.intro e0 (And.intro hx (And.intro hpre (And.intro hf ih))))))
  have hn2 : n < n2 := by rw [hw.gram.e2]; exact hn
  clear hk h0 hX hx hpre hown hf ih e0
  refine callsIn_of_wp Tryz.func107 rfl trivial ?_ rfl
  simp only [Tryz.ntmps107, List.size_toArray, List.length_cons, List.length_nil, Nat.reduceAdd, Nat.reduceSub, Array.replicate_succ, Array.replicate_zero, List.push_toArray, List.append_toArray, List.nil_append, List.cons_append]
  gi_wp2_with fail
  refine hR.mono ?_
  clear hR hy
  rintro e w4 (⟨rfl, hJ4, hk4⟩ | ⟨rfl, hJx4⟩)
  ·have hk04 := H.out.2.1.trans hk4
   have hw4 := H.out.1.keepL hk04
   obtain ⟨bn, on, ak, nk, ck, rfl, hx⟩ := hw.gram.nodes n hn
   have hxe := H.out.2.2.2.1
   rw [← hxe] at hx
   have hlk := Lib.hid hx.ints
   replace hx := hx.keep hk04.kp
   obtain ⟨h0, h1, h2, h3, h4, h5, h6, h7, h8, q1, q2, q3, q4⟩ := hx
   have x1 := cell_of_cells hw4.box 1
   simp at x1
   have H4 := Lib.hid (And.intro hw4 (And.intro hk4 (And.intro hJ4 (And.intro q1 (And.intro q4 hk04)))))
   have hmax : maxLen ≤ 9223372036854775807 := by simp [maxLen]
   have hnk : nk ≤ 9223372036854775807 := by omega
   clear hw4 hJ4 q1 q2 q3 q4 hk4 hk04 hxe hmax
   gi_wp2_with fail
   obtain ⟨wA, eA⟩ : ∃ wA, wA = w4.alloc (.cells #[.int .i64 x.k, .int .u64 x.c0, .int .u64 x.c1, .int .u64 x.c2, .int .u64 x.c3, .string x.s, .int .i64 x.r, .int .i64 x.l, .slice ak nk ck] 65) := ⟨_, rfl⟩
   have hcA : Chg [] w4 wA := by rw [eA]; exact (Chg.refl _ _).alloc _
   have hbA : wA.heap[w4.heap.size]? = some (.cells #[.int .i64 x.k, .int .u64 x.c0, .int .u64 x.c1, .int .u64 x.c2, .int .u64 x.c3, .string x.s, .int .i64 x.r, .int .i64 x.l, .slice ak nk ck] 65 (0, 0)) := by rw [eA]; exact heap_alloc_same _ _
   have HA := Lib.hid (And.intro hbA (And.intro (hJ _ _ _ H4.out.2.2.1 hcA) (And.intro (H4.out.2.1.trans (.of_chg0 hcA)) (H4.out.2.2.2.2.2.trans (.of_chg0 hcA)))))
   simp only [← eA]
   clear eA hcA hbA h0 h1 h2 h3 h4 h5 h6 h7 h8 x1
   gi_loopg [25] nk (fun d iv wr => ∃ (i : Nat) (p : List Int), d = nk - i ∧ i ≤ nk ∧ iv = .int .i64 i ∧ Hid (J p wr ∧ p ++ kidsOwn x.k (mayG g) (ownG g) (x.kids.drop i) = pre ++ own ∧ KeepL w00.heap.size wA wr))
   case atStart => exact ⟨0, pre ++ [(n : Int)], rfl, Nat.zero_le _, rfl, Lib.hid ⟨HA.out.2.1, by rw [H.out.2.2.1, List.append_assoc]; rfl, KeepL.refl _ _⟩⟩
   case round =>
    obtain ⟨i, p, rfl, hi, rfl, hin⟩ := hrel
    obtain ⟨wq, rfl⟩ : ∃ wz, wz = wr := ⟨_, rfl⟩
    have hkq := HA.out.2.2.2.trans hin.out.2.2
    by_cases hlt : i < nk
    ·have hik : i < x.kids.length := by have := H4.out.2.2.2.1; omega
     obtain ⟨bk, ok, rfl, hck⟩ := (hlk.out.keep hkq.kp) i hik
     obtain ⟨z, hz⟩ : ∃ z, z = x.kids[i] := ⟨_, rfl⟩
     rw [← hz] at hck
     have hdrop : x.kids.drop i = z :: x.kids.drop (i + 1) := by rw [hz]; exact List.drop_eq_getElem_cons hik
     have hzk : z ∈ x.kids := by rw [hz]; exact List.getElem_mem hik
     have hzk' := hzk
     have hxe := H.out.2.2.2.1
     rw [hxe] at hzk'
     obtain ⟨zn, hzn1, hzn2⟩ := H.out.2.2.2.2.2.1 n hn z hzk' |> fun h => (⟨z.toNat, by omega, by omega⟩ : ∃ q : Nat, z = (q : Int) ∧ n < q ∧ q < g.nodes.length)
     subst hzn1
     have heq := hin.out.2.1
     rw [hdrop] at heq
     simp only [kidsOwn] at heq
     have hpz : p ++ ownG g zn <+: L := by
      refine List.IsPrefix.trans ?_ H.out.2.2.2.2.1
      rw [← heq, ← List.append_assoc]
      exact List.prefix_append _ _
     have hrec := H.out.2.2.2.2.2.2 zn (by omega) hzn2.2 p wq hkq hin.out.1 hpz
     have HQ := Lib.hid (And.intro heq hzn2)
     clear hz hdrop hzk hzk' hxe heq hpz hzn2
     gi_wp2_with fail
     refine ⟨trivial, (callsIn_wide.2 (callsIn_wide.1 hrec)).mono ?_⟩
     clear hrec hck
     rintro e w5 (⟨rfl, hJ5, hk5⟩ | ⟨rfl, hJx5⟩)
     ·have hkA5 := hin.out.2.2.trans hk5
      have hk05 := HA.out.2.2.2.trans hkA5
      have k0 := cell_of_cells (hkA5.old _ _ (.inr ⟨_, rfl⟩) HA.out.1) 0
      simp at k0
      have hw5 := hw.keepL hk05
      have r2 := cell_of_cells hw5.box 2
      simp at r2
      have rz := rowB_cell hw5.row (nullB_at HQ.out.2.2)
      obtain ⟨mz, hmz⟩ : ∃ mz, mz = mayG g (zn : Int) := ⟨_, rfl⟩
      rw [← hmz] at rz
      have hzn2 : zn < n2 := by rw [hw.gram.e2]; exact HQ.out.2.2
      have H5 := Lib.hid (And.intro hJ5 (And.intro hkA5 hmz))
      clear hJ5 hk5 hkA5 hk05 hw5 hmz
      by_cases hk6 : x.k = 6
      ·have hk6' : (x.k == 6) = true := by simpa using hk6
       have HK6 := Lib.hid hk6
       clear hk6
       cases mz with
       | true =>
        gi_wp2_with fail
        gi_roundg (nk - (i + 1))
        case measure => omega
        case rel =>
         refine ⟨i + 1, p ++ ownG g zn, rfl, by omega, by go_num, Lib.hid ⟨H5.out.1, ?_, H5.out.2.1⟩⟩
         have := HQ.out.1
         rw [if_neg (fun h => by have h2 := h.2; rw [← H5.out.2.2] at h2; cases h2)] at this
         rw [List.append_assoc]
         exact this
       | false =>
        gi_wp2_with fail
        refine bodyPost_ret (v := .bool true) (by simp [results, Tryz.results107, go_sem]) rfl ?_
        have he := HQ.out.1
        rw [if_pos ⟨HK6.out, H5.out.2.2.symm⟩, List.append_nil] at he
        refine .inl ⟨rfl, ?_, HA.out.2.2.1.trans H5.out.2.1⟩
        rw [← he]
        exact H5.out.1
      ·have hk6' : (x.k == 6) = false := by simpa using hk6
       gi_wp2_with fail
       gi_roundg (nk - (i + 1))
       case measure => omega
       case rel =>
        refine ⟨i + 1, p ++ ownG g zn, rfl, by omega, by go_num, Lib.hid ⟨H5.out.1, ?_, H5.out.2.1⟩⟩
        have := HQ.out.1
        rw [if_neg (fun h => hk6 h.1)] at this
        rw [List.append_assoc]
        exact this
     ·gi_wp2_with fail
      refine bodyPost_ret (v := .bool false) (by simp [results, Tryz.results107, go_sem]) rfl ?_
      exact .inr ⟨rfl, _, hJx5.choose_spec⟩
    ·obtain rfl : i = nk := by omega
     gi_wp2_with fail
     refine bodyPost_ret (v := .bool true) (by simp [results, Tryz.results107, go_sem]) rfl ?_
     have he := hin.out.2.1
     rw [show x.kids.drop i = [] from List.drop_eq_nil_of_le (by have := H4.out.2.2.2.1; omega)] at he
     simp only [kidsOwn, List.append_nil] at he
     refine .inl ⟨rfl, ?_, HA.out.2.2.1.trans hin.out.2.2⟩
     rw [← he]
     exact hin.out.1
  ·gi_wp2_with fail
   refine bodyPost_ret (v := .bool false) (by simp [results, Tryz.results107, go_sem]) rfl ?_
   exact .inr ⟨rfl, _, hJx4⟩

theorem ownLeft_any (w : World) (q : Option Addr) (n : Int) :
  Calls Tryz.prog 74 #[.pointer q, .int .i64 n] w fun e w' => e = .returned (.func (.func 106) #[] #[.pointer (some ⟨w.heap.size, 0, none⟩), .pointer (some ⟨w.heap.size + 1, 0, none⟩)]) ∧
   w' = (w.alloc (.cells #[.pointer q] 76)).alloc (.cells #[.int .i64 n] 3) := by
 go_enter Tryz.func74, Tryz.ntmps74
 go_wp2
 go_ret
 exact ⟨rfl, rfl⟩

theorem Own_gives (w00 w : World) (B R : Nat) (a1 : Option Addr) (n1 c1 : Nat) (a2 : Option Addr) (n2 c2 : Nat) (g : Gr) (hw : LWork w00 B R a1 n1 c1 a2 n2 c2 g) (hk : KeepL w00.heap.size w00 w) (n : Nat) (hn : n < g.nodes.length) (b0 b1 : Nat)
  (hb0 : w.heap[b0]? = some (.cells #[.pointer (some ⟨B, 0, none⟩)] 76 (0, 0))) (hb1 : w.heap[b1]? = some (.cells #[.int .i64 n] 3 (0, 0))) :
  Gives Tryz.prog 106 #[.pointer (some ⟨b0, 0, none⟩), .pointer (some ⟨b1, 0, none⟩)] (fun x : Int => #[.int .i64 x]) (fun pre x _ => pre ++ [x] <+: ownG g n) (fun _ _ => KeepL w00.heap.size) (fun xs => xs = ownG g n) (fun _ => True) w := by
 intro m l J Jx W hW hJ hJx hY h0
 have hv := visit_in w00 B R a1 n1 c1 a2 n2 c2 g hw (ownG g n) m l J Jx hJ (fun pre x W1 h1 h2 => hY pre x W1 h1 h2) g.nodes.length n (by omega) hn [] W (hk.trans (.of_chg0 hW)) h0 (by simp)
 have y0 := cells1 (hW.heap hb0 (by simp))
 have y1 := cells1 (hW.heap hb1 (by simp))
 show CallsIn Fence.wide (m + 1) Tryz.prog 106 #[.func (.yield l) #[] #[], .pointer (some ⟨b0, 0, none⟩), .pointer (some ⟨b1, 0, none⟩)] W _
 clear hW hJ hJx hY h0 hk
 refine callsIn_of_wp Tryz.func106 rfl trivial ?_ rfl
 simp only [Tryz.ntmps106, List.size_toArray, List.length_cons, List.length_nil, Nat.reduceAdd, Nat.reduceSub, Array.replicate_succ, Array.replicate_zero, List.push_toArray, List.append_toArray, List.nil_append, List.cons_append]
 gi_wp2_with fail
 refine ⟨trivial, (callsIn_wide.2 (callsIn_wide.1 hv)).mono ?_⟩
 clear hv
 rintro e w5 (⟨rfl, hJ5, hk5⟩ | ⟨rfl, p, hJx5⟩)
 ·gi_wp2_with fail
  go_end0
  exact ⟨⟨_, rfl⟩, .inl ⟨_, rfl, hJ5⟩⟩
 ·gi_wp2_with fail
  go_end0
  exact ⟨⟨_, rfl⟩, .inr ⟨_, trivial, hJx5⟩⟩
end
end Go.Proofs.YtlklmpjakeedcaaGreatDoor

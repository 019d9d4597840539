/-
 The document's answer of layer 12: the rules that some nodes call; the nodes and the calls at a node's own place.
 Conditions: none.
-/
import Derived.Test.YtlklmpjakeedcaaGreatDoorSEnSf1
import Derived.Test.YtlklmpjakeedcaaGreatDoorSEnLf4
import Derived.Test.YtlklmpjakeedcaaGreatDoorSEnGMix
import Derived.Test.YtlklmpjakeedcaaGreatDoorSEnGFresh
set_option linter.unusedVariables false
set_option linter.unusedSimpArgs false
set_option linter.unnecessarySimpa false
namespace Go.Proofs.YtlklmpjakeedcaaGreatDoor
open Go.RowKit Go.MapKept Go.Shelf

theorem heap_set_other {w : World} {b k i : Nat} (h : k ≠ b) {u : Value} : (w.setCell ⟨b, i, none⟩ u).heap[k]? = w.heap[k]? :=
 Below.heap_setCell _ _ _ _ (fun e => h (by first | exact e | exact e.symm))
/-- Which of n rules some nodes call. -/
def metN (n : Nat) (ns : List Nd) (l : List Int) : List Bool := (List.range n).map fun r => l.any fun k => isCall ns k r
theorem metN_len (n : Nat) (ns : List Nd) (l : List Int) : (metN n ns l).length = n := by simp [metN]
theorem metN_nil (n : Nat) (ns : List Nd) : metN n ns [] = List.replicate n false := by
 apply List.ext_getElem
 ·simp [metN]
 ·intro i h1 h2
  simp [metN]
theorem metN_skip {n : Nat} {ns : List Nd} {l : List Int} {q : Nat} (hq : q < ns.length) (hk : ns[q].k ≠ 5) : metN n ns (l ++ [(q : Int)]) = metN n ns l := by
 refine List.map_congr_left (fun r _ => ?_)
 rw [List.any_append]
 simp [isCall_at hq, hk]
theorem metN_put {n : Nat} {ns : List Nd} {l : List Int} {q : Nat} (hq : q < ns.length) (hk : ns[q].k = 5) {r : Nat} (hr : ns[q].r = r) : metN n ns (l ++ [(q : Int)]) = (metN n ns l).set r true := by
 refine List.ext_getElem (by simp [metN]) (fun i h1 h2 => ?_)
 have hi : i < n := by simpa [metN] using h1
 rw [List.getElem_set]
 simp only [metN, List.getElem_map, List.getElem_range, List.any_append, List.any_cons, List.any_nil, Bool.or_false, isCall_at hq, hk, hr]
 by_cases e : r = i
 ·subst e; simp
 ·have : ¬ ((r : Int) = (i : Int)) := by omega
  simp [e, this]
def callsOf (g : Gr) (zs : List Int) : List Int := pickL g.rules.length (fun r => zs.any fun k => isCall g.nodes k r)
/-- Nodes that are there, calls of rules that are there. -/
def Goods (g : Gr) (zs : List Int) : Prop := ∀ z ∈ zs, ∃ q : Nat, z = q ∧ ∃ h : q < g.nodes.length, g.nodes[q].k = 5 → ∃ r : Nat, g.nodes[q].r = r ∧ r < g.rules.length

set_option maxRecDepth 100000 in
set_option maxHeartbeats 16000000 in
theorem ref12calls_any (w : World) (a1 : Option Addr) (n1 c1 : Nat) (a2 : Option Addr) (n2 c2 : Nat) (g : Gr) (hg : GramAt w a1 n1 c1 a2 n2 c2 g) (hn1 : n1 ≤ 1099511627776) (la : Option Addr) (ln lc : Nat) (zs : List Int) (hl : ln = zs.length) (hls : ln ≤ 9223372036854775807) (hz : Ints w la zs) (hgood : Goods g zs) :
  Calls Tryz.prog 116 #[.agg #[.slice a1 n1 c1, .slice a2 n2 c2], .slice la ln lc] w (ToldInts w (callsOf g zs)) := by
 obtain ⟨i0, hi0, hz0, hz1, hz2⟩ := info_parts Tryz.infoInt
 have hmk := run_falses n1 (by omega)
 obtain ⟨A, hA⟩ : ∃ A, A = callsOf g zs := ⟨_, rfl⟩
 rw [← hA]
 have hsm := hg.small
 have H := Lib.hid (And.intro hg (And.intro hz (And.intro hgood (And.intro hl (And.intro hg.e1 hA)))))
 have hc2 : n2 ≤ 9223372036854775807 := hsm.2
 clear hg hz hgood hl hA hsm
 go_enter Tryz.func116, Tryz.ntmps116
 go_wp2_with fail
 have hb1 : ((w.alloc (.cells #[.slice a1 n1 c1, .slice a2 n2 c2] 31)).alloc (rowB (List.replicate n1 false))).heap[w.heap.size]? = some (.cells #[.slice a1 n1 c1, .slice a2 n2 c2] 31 (0, 0)) := heap_alloc_lt (heap_alloc_same _ _) _
 have hb2 : ((w.alloc (.cells #[.slice a1 n1 c1, .slice a2 n2 c2] 31)).alloc (rowB (List.replicate n1 false))).heap[w.heap.size + 1]? = some (rowB (List.replicate n1 false)) := by
  have := heap_alloc_same (w.alloc (.cells #[.slice a1 n1 c1, .slice a2 n2 c2] 31)) (.cells ((List.replicate n1 false).map Value.bool).toArray 4)
  rw [World.size_alloc] at this
  exact this
 have hc0 : Chg [] w ((w.alloc (.cells #[.slice a1 n1 c1, .slice a2 n2 c2] 31)).alloc (rowB (List.replicate n1 false))) := ((Chg.refl [] w).alloc _).alloc _
 obtain ⟨w0, e0⟩ : ∃ w0, w0 = ((w.alloc (.cells #[.slice a1 n1 c1, .slice a2 n2 c2] 31)).alloc (rowB (List.replicate n1 false))) := ⟨_, rfl⟩
 rw [← e0] at hb1 hb2 hc0 ⊢
 obtain ⟨B, hB⟩ : ∃ B, B = w.heap.size + 1 := ⟨_, rfl⟩
 rw [← hB] at hb2 ⊢
 have H0 := Lib.hid (And.intro hb1 (And.intro hb2 (And.intro hc0 hB)))
 clear e0 hb1 hb2 hc0 hB hmk
 go_loopg [6] ln (fun dd iv wr => ∃ i : Nat, dd = ln - i ∧ i ≤ ln ∧ iv = .int .i64 i ∧ Hid (wr.heap[w.heap.size]? = some (.cells #[.slice a1 n1 c1, .slice a2 n2 c2] 31 (0, 0)) ∧ wr.heap[B]? = some (rowB (metN n1 g.nodes (zs.take i))) ∧ Chg [] w wr))
 case atStart => exact ⟨0, rfl, Nat.zero_le _, rfl, Lib.hid ⟨H0.out.1, by rw [List.take_zero, metN_nil]; exact H0.out.2.1, H0.out.2.2.1⟩⟩
 case round =>
  obtain ⟨i, rfl, hi, rfl, hin⟩ := hrel
  obtain ⟨wq, rfl⟩ : ∃ wq, wq = wr := ⟨_, rfl⟩
  by_cases hil : i < ln
  ·have hiz : i < zs.length := by have := H.out.2.2.2.1; omega
   obtain ⟨x0, x1⟩ := cells2 hin.out.1
   obtain ⟨bl, ol, rfl, hlc⟩ := (H.out.2.1.keep hin.out.2.2.kp) i hiz
   obtain ⟨q, hq, hqn, hqc⟩ := H.out.2.2.1 _ (List.getElem_mem hiz)
   rw [hq] at hlc
   obtain ⟨bn, on, ak, nk, ck, rfl, hxa⟩ := (H.out.1.keep hin.out.2.2.kp).nodes q hqn
   obtain ⟨kq, hkq⟩ : ∃ kq, kq = g.nodes[q].k := ⟨_, rfl⟩
   have p0 := hxa.k
   have p6 := hxa.r
   rw [← hkq] at p0 hqc
   obtain ⟨rq, hrq⟩ : ∃ rq, rq = g.nodes[q].r := ⟨_, rfl⟩
   rw [← hrq] at p6 hqc
   have hq2 : q < n2 := by have := H.out.1.e2; omega
   have hqi : (q : Int) < n2 := by omega
   have hbl := World.block_lt_of_cell? _ _ hlc
   have hbn := World.block_lt_of_cell? _ _ p0
   simp only at hbl hbn
   have htk : zs.take (i + 1) = zs.take i ++ [(q : Int)] := by rw [List.take_succ_eq_append_getElem hiz, hq]
   have HT := Lib.hid (And.intro htk (And.intro hkq (And.intro hqc hrq)))
   have HT2 := Lib.hid hqn
   clear htk hkq hqc hq hxa hrq
   by_cases h5 : kq = 5
   ·subst h5
    obtain ⟨r, hr, hrn⟩ := HT.out.2.2.1 rfl
    rw [hr] at p6
    have hrg : g.nodes[q].r = (r : Int) := by rw [← hr]; exact HT.out.2.2.2.symm
    have hrl : r < n1 := by have := H.out.2.2.2.2.1; omega
    have hri : (r : Int) < n1 := by omega
    obtain ⟨bv, hbv⟩ : ∃ bv, (metN n1 g.nodes (zs.take i))[r]? = some bv := ⟨_, List.getElem?_eq_getElem (by rw [metN_len]; exact hrl)⟩
    have yb := rowB_cell hin.out.2.1 hbv
    have fb := rowB_free hin.out.2.1 r
    have hBl := lt_of_block hin.out.2.1
    have HR := Lib.hid hrg
    clear hr hbv hrn hrg
    go_wp2_with fail
    go_region
    go_wp2_with fail
    go_region
    go_wp2_with fail
    go_roundg (ln - (i + 1))
    case measure => omega
    case rel =>
     have hneT : w.heap.size ≠ B := by have := H0.out.2.2.2; omega
     exact ⟨i + 1, rfl, by omega, by go_num, Lib.hid ⟨(by show (wq.setCell ⟨B, r, none⟩ (.bool true)).heap[w.heap.size]? = _; rw [heap_set_other hneT]; exact hin.out.1), by rw [HT.out.1, metN_put hqn HT.out.2.1.symm HR.out]; exact rowB_set true hin.out.2.1, (hin.out.2.2.setCell (p := ⟨B, r, none⟩) (.inr (by have := H0.out.2.2.2; simp only; omega)) _).drew.drew⟩⟩
   ·have e5 : (kq == 5) = false := by simpa using h5
    go_wp2_with fail
    go_region
    go_wp2_with fail
    go_roundg (ln - (i + 1))
    case measure => omega
    case rel => exact ⟨i + 1, rfl, by omega, by go_num, Lib.hid ⟨hin.out.1, by rw [HT.out.1, metN_skip HT2.out (by rw [← HT.out.2.1]; exact h5)]; exact hin.out.2.1, hin.out.2.2.drew⟩⟩
  ·obtain rfl : ln = i := by omega
   have htl : zs.take ln = zs := List.take_of_length_le (by have := H.out.2.2.2.1; omega)
   have hbR := hin.out.2.1
   rw [htl] at hbR
   obtain ⟨F, hF⟩ : ∃ F : Nat → Bool, F = fun r => zs.any fun k => isCall g.nodes k r := ⟨_, rfl⟩
   have hAF : A = pickL n1 F := by rw [H.out.2.2.2.2.2, H.out.2.2.2.2.1, hF]; rfl
   have hbs : ∀ k, k < n1 → (metN n1 g.nodes zs)[k]? = some (F k) := fun k hk => by rw [hF]; simp [metN, hk]
   obtain ⟨bs, hbsE⟩ : ∃ bs, bs = metN n1 g.nodes zs := ⟨_, rfl⟩
   rw [← hbsE] at hbs hbR
   have HX := Lib.hid (And.intro hin.out.1 (And.intro hbR (And.intro hin.out.2.2 (And.intro hAF hbs))))
   clear htl hbR hin hF hAF hbs hbsE
   go_wp2_with fail
   go_loopg [8, 7] n1 (fun d iv ov wr => ∃ (k : Nat) (a' : Option Addr) (c' q : Nat), d = n1 - k ∧ k ≤ n1 ∧ iv = .int .i64 k ∧ ov = .slice a' q c' ∧ q ≤ k ∧ Hid (wr.heap[B]? = some (rowB bs) ∧ Chg [] w wr ∧ FreshInts w.heap.size wr a' c' (pickL k F) ∧ q = (pickL k F).length))
   case atStart => exact ⟨0, none, 0, 0, rfl, by omega, rfl, rfl, Nat.le_refl _, Lib.hid ⟨HX.out.2.1, HX.out.2.2.1, World.ownsRow_nil _ _ _ _, rfl⟩⟩
   case round =>
    obtain ⟨k, a', c', q, rfl, hk, rfl, rfl, hqk, hin2⟩ := hrel
    obtain ⟨wp, rfl⟩ : ∃ wz, wz = wr := ⟨_, rfl⟩
    by_cases hlt : k < n1
    ·obtain ⟨r, hr⟩ : ∃ r, r = F k := ⟨_, rfl⟩
     have hcl : bs[k]? = some r := by rw [hr]; exact HX.out.2.2.2.2 k hlt
     have hce := rowB_cell hin2.out.1 hcl
     have hBl := lt_of_block hin2.out.1
     have HR := Lib.hid hr
     have hki : (k : Int) < n1 := by omega
     clear hr hcl
     cases r with
     | true =>
      have hrow3 : World.ownsRow wp w.heap.size 3 1 (.slice a' q c') q ((pickL k F).map (Value.int .i64)) := by
       have h9 := hin2.out.2.2.1
       unfold FreshInts at h9
       rw [← hin2.out.2.2.2] at h9
       exact h9
      have h1' : ∀ u ∈ [Value.int .i64 (k : Int)], u.oneCell' = true := by simp [Value.oneCell']
      have h2' : q + 1 ≤ maxLen ∧ (q + 1) * 8 ≤ 140737488355328 := by simp only [maxLen]; omega
      have hnew := cells_at (w := wp.alloc (.cells #[.int .i64 k] 3)) (heap_alloc_same _ _)
      have hcA := (Chg.refl [] wp).alloc (.cells #[.int .i64 k] 3)
      have H4 := Lib.hid (And.intro (hcA.row hrow3 (fun _ _ => by simp)) (And.intro h1' (And.intro h2' (And.intro hnew (And.intro (hin2.out.2.1.tr hcA).size (And.intro (hin2.out.2.1.tr hcA) (hcA.heap hin2.out.1 (by simp))))))))
      clear hrow3 h1' h2' hnew hcA
      go_wp2_with (at_builtin; refine wpList_append_own_at _ rfl _ _ 34 rfl w.heap.size 3 i0 _ 1 8 Tryz.underlying34 hi0 hz0 hz1 hz2 rfl (by decide) (.slice a' q c') q ((pickL k F).map (Value.int .i64)) rfl H4.out.1 ⟨wp.heap.size, 0, none⟩ 1 1 [.int .i64 (k : Int)] rfl rfl H4.out.2.2.2.1 H4.out.2.1 H4.out.2.2.1.1 H4.out.2.2.1.2 H4.out.2.2.2.2.1 ?_; intro v' w5 hr5 hg5 hn5 hb5; obtain ⟨a5, c5, rfl⟩ := ownsRow_slice hr5; have H5 := Lib.hid (And.intro hr5 hg5); clear hr5 hg5 hn5 hb5)
      go_roundg (n1 - (k + 1))
      case measure => omega
      case rel =>
       have hnl : pickL (k + 1) F = pickL k F ++ [(k : Int)] := by rw [pickL_succ, if_pos HR.out.symm]
       have hrw := H5.out.1
       rw [show ((pickL k F).map (Value.int .i64) ++ [Value.int .i64 (k : Int)]) = (pickL (k + 1) F).map (Value.int .i64) by rw [hnl, List.map_append]; rfl] at hrw
       have hln : q + 1 = (pickL (k + 1) F).length := by rw [hnl, List.length_append, ← hin2.out.2.2.2]; rfl
       exact ⟨k + 1, a5, c5, q + 1, rfl, by omega, by go_num, rfl, by omega, Lib.hid ⟨grown_heap H5.out.2 H4.out.2.2.2.2.2.2 (ownsRow_ne H4.out.1 H4.out.2.2.2.2.2.2 (by decide)), H4.out.2.2.2.2.2.1.grown H5.out.2 (fun y hy => .inr (row_beyond H4.out.1 hy).1), by unfold FreshInts; rw [← hln]; exact hrw, hln⟩⟩
     | false =>
      go_wp2_with fail
      go_roundg (n1 - (k + 1))
      case measure => omega
      case rel =>
       have hnl : pickL (k + 1) F = pickL k F := by rw [pickL_succ, if_neg (by rw [← HR.out]; simp), List.append_nil]
       exact ⟨k + 1, a', c', q, rfl, by omega, by go_num, rfl, by omega, Lib.hid ⟨hin2.out.1, hin2.out.2.1, by rw [hnl]; exact hin2.out.2.2.1, by rw [hnl]; exact hin2.out.2.2.2⟩⟩
    ·obtain rfl : n1 = k := by omega
     go_wp2_with fail
     go_ret
     exact ⟨a', q, c', rfl, by rw [HX.out.2.2.2.1]; exact hin2.out.2.2.2, by rw [HX.out.2.2.2.1]; exact hin2.out.2.2.1, hin2.out.2.1⟩
end Go.Proofs.YtlklmpjakeedcaaGreatDoor
set_option linter.unusedVariables false
set_option linter.unusedSimpArgs false
set_option linter.unnecessarySimpa false
namespace Go.Proofs.YtlklmpjakeedcaaGreatDoor
open Go.RowKit Go.MapKept Go.Shelf

/-- Numbers told, with their count. -/
def ToldF (B : Nat) (w : World) (a : Option Addr) (l c : Nat) (zs : List Int) : Prop := l = zs.length ∧ FreshInts B w a c zs
theorem ToldF.chg0 {B : Nat} {w w' : World} {a : Option Addr} {l c : Nat} {zs : List Int} (h : ToldF B w a l c zs) (hc : Chg [] w w') : ToldF B w' a l c zs := ⟨h.1, hc.row h.2 (fun _ _ => by simp)⟩
theorem ref12Own_all (w : World) (a1 : Option Addr) (n1 c1 : Nat) (a2 : Option Addr) (n2 c2 : Nat) (g : Gr) (hg : GramAt w a1 n1 c1 a2 n2 c2 g) (hr : rightB g = true) (az : Option Addr) (nz cz : Nat) (hnz : nz = g.rules.length) (hz : Ints w az (ranksL g g.rules.length)) (n : Nat) (hn : n < g.nodes.length) :
  Calls Tryz.prog 117 #[.agg #[.slice a1 n1 c1, .slice a2 n2 c2], .int .i64 (n : Int), .slice az nz cz] w (ToldInts w (ownG g n)) :=
 ref12Own_any a1 n1 c1 a2 n2 c2 g hr az nz cz (ranksL g g.rules.length) (ranksL_len _ _) (by rw [ranksL_len, hnz]) (mayG g) (by rw [ranks_all hr]; rfl) g.nodes.length n (by omega) hn w hg hz
theorem good_own {g : Gr} (hr : rightB g = true) {n : Nat} (hn : n < g.nodes.length) : Goods g (ownG g n) := fun z hz => by
 obtain ⟨q, rfl, h1, h2⟩ := ownN_in (falls_right hr) (mayG g) hn z hz
 refine ⟨q, rfl, h2, fun hk => ?_⟩
 obtain ⟨r1, r2⟩ := right_call hr h2 hk
 exact ⟨g.nodes[q].r.toNat, by omega, by omega⟩
theorem pickL_ext {n m : Nat} {F : Nat → Bool} (h : n ≤ m) (hf : ∀ r, n ≤ r → r < m → F r = false) : pickL m F = pickL n F := by
 induction m with
 | zero =>
  obtain rfl : n = 0 := (by omega)
  rfl
 | succ m ih =>
  by_cases e : n = m + 1
  ·rw [e]
  ·rw [pickL_succ, hf m (by omega) (by omega), ih (by omega) (fun r h1 h2 => hf r h1 (by omega))]
   simp
theorem callsOf_own {g : Gr} (hr : rightB g = true) {n : Nat} (hn : n < g.nodes.length) : callsOf g (ownG g n) = callsG g n := by
 unfold callsOf callsG
 refine (pickL_ext (right_sizes hr).2.1 (fun r h1 h2 => ?_)).symm
 rw [List.any_eq_false]
 intro z hz
 obtain ⟨q, rfl, hq, hc⟩ := good_own hr hn z hz
 rw [isCall_at hq]
 intro h
 simp only [Bool.and_eq_true, decide_eq_true_eq] at h
 obtain ⟨r', e1, e2⟩ := hc h.1
 have := h.2
 omega

set_option maxRecDepth 100000 in
set_option maxHeartbeats 16000000 in
theorem ref12Graph_any (w : World) (a1 : Option Addr) (n1 c1 : Nat) (a2 : Option Addr) (n2 c2 : Nat) (g : Gr) (hg : GramAt w a1 n1 c1 a2 n2 c2 g) :
  Calls Tryz.prog 83 #[.agg #[.slice a1 n1 c1, .slice a2 n2 c2]] w (NewRowsI w (graphG g)) := by
 obtain ⟨j0, hj0, hy0, hy1, hy2⟩ := info_parts Tryz.infoInts
 have hR := fun W (hW : Chg [] w W) => refRight_any W a1 n1 c1 a2 n2 c2 g (hg.keep hW.kp)
 have H := Lib.hid (And.intro hg hg.e1)
 clear hg
 go_enter Tryz.func83, Tryz.ntmps83
 cases hr : rightB g with
 | false =>
  rw [hr] at hR
  have HR := Lib.hid hr
  clear hr
  go_wp2_with fail
  refine (hR _ ((Chg.refl [] w).alloc _)).mono ?_
  rintro e w1 ⟨rfl, h1⟩
  have HC := Lib.hid (((Chg.refl [] w).alloc (.cells #[.slice a1 n1 c1, .slice a2 n2 c2] 31)).tr h1)
  clear h1 hR
  go_wp2_with fail
  go_ret
  have e0 : graphG g = [] := by simp [graphG, HR.out]
  rw [e0]
  exact ⟨none, 0, [], rfl, rfl, OwnIs.nil _ _, HC.out⟩
 | true =>
  rw [hr] at hR
  have HR := Lib.hid hr
  have hn32 : n1 ≤ 32 := by have := (right_sizes hr).2.1; have := H.out.2; omega
  clear hr
  go_wp2_with fail
  refine (hR _ ((Chg.refl [] w).alloc _)).mono ?_
  rintro e w1 ⟨rfl, h1⟩
  have hb := h1.heap (heap_alloc_same w (.cells #[.slice a1 n1 c1, .slice a2 n2 c2] 31)) (by simp)
  have hcw := ((Chg.refl [] w).alloc (.cells #[.slice a1 n1 c1, .slice a2 n2 c2] 31)).tr h1
  have HC := Lib.hid (And.intro hcw hb)
  obtain ⟨x0, x1⟩ := cells2 hb
  clear h1 hR hb hcw
  go_wp2_with fail
  refine (refRanks_any w1 a1 n1 c1 a2 n2 c2 g (H.out.1.keep HC.out.1.kp) HR.out).mono ?_
  rintro e w2 ⟨ra, rc, rfl, hf, h2⟩
  have hrl1 : (ranksL g g.rules.length).length = n1 := by rw [ranksL_len, ← H.out.2]
  rw [hrl1]
  have HZ := Lib.hid (And.intro (show FreshInts 0 w2 ra rc _ from row_base hf (Nat.zero_le _)) (And.intro (HC.out.1.tr h2) (h2.heap HC.out.2 (by simp))))
  clear hrl1 hf h2 x0 x1
  go_wp2_with fail
  go_loopg [5, 4] n1 (fun d iv ov wr => ∃ (i : Nat) (oa : Option Addr) (oc : Nat), d = n1 - i ∧ i ≤ n1 ∧ iv = .int .i64 i ∧ ov = .slice oa i oc ∧ Hid (∃ VS : List Is, VS.length = i ∧ VS.map (·.2.2) = (g.rules.take i).map (fun r => callsG g r.body) ∧ OwnIs w.heap.size wr oa oc VS ∧ Chg [] w wr ∧ wr.heap[w.heap.size]? = some (.cells #[.slice a1 n1 c1, .slice a2 n2 c2] 31 (0, 0)) ∧ FreshInts 0 wr ra rc (ranksL g g.rules.length)))
  case atStart => exact ⟨0, none, 0, rfl, Nat.zero_le _, rfl, rfl, Lib.hid ⟨[], rfl, rfl, OwnIs.nil _ _, HZ.out.2.1, HZ.out.2.2, HZ.out.1⟩⟩
  case round =>
   obtain ⟨i, oa, oc, rfl, hi, rfl, rfl, hin⟩ := hrel
   obtain ⟨wq, rfl⟩ : ∃ wz, wz = wr := ⟨_, rfl⟩
   obtain ⟨VS, v1, v2, v3, v4, v5, v6⟩ := hin.out
   obtain ⟨x0, x1⟩ := cells2 v5
   by_cases hlt : i < n1
   ·have hir : i < g.rules.length := by have := H.out.2; omega
    obtain ⟨q, hq, hqn⟩ := right_body HR.out hir
    obtain ⟨bR, oR, rfl, hname, hbody⟩ := (H.out.1.keep v4.kp).rules i hir
    rw [hq] at hbody
    obtain ⟨OV, hOV⟩ : ∃ OV, OV = ownG g q := ⟨_, rfl⟩
    obtain ⟨CV, hCV⟩ : ∃ CV, CV = callsG g q := ⟨_, rfl⟩
    have HO : Hid (∀ W, Chg [] wq W → Calls Tryz.prog 117 #[.agg #[.slice (some ⟨bR, oR, none⟩) n1 c1, .slice a2 n2 c2], .int .i64 (q : Int), .slice ra n1 rc] W (ToldInts W OV)) := Lib.hid fun W hW => by
     rw [hOV]
     exact ref12Own_all W _ n1 c1 a2 n2 c2 g (H.out.1.keep (v4.tr hW).kp) HR.out ra n1 rc H.out.2 ((ownInts_read v6.own).1.keep hW.kp) q hqn
    have HC9 : Hid (∀ W, Chg [] wq W → ∀ a l c, l = OV.length → FreshInts wq.heap.size W a c OV → Calls Tryz.prog 116 #[.agg #[.slice (some ⟨bR, oR, none⟩) n1 c1, .slice a2 n2 c2], .slice a l c] W (ToldInts W CV)) := Lib.hid fun W hW a l c hl hf => by
     rw [hCV, ← callsOf_own HR.out hqn, ← hOV]
     exact ref12calls_any W _ n1 c1 a2 n2 c2 g (H.out.1.keep (v4.tr hW).kp) (by omega) a l c OV hl (by rw [hl, hOV]; have := ownN_few HR.out (mayG g) hqn; unfold ownG; omega) (ownInts_read hf.own).1 (by rw [hOV]; exact good_own HR.out hqn)
    have hv2 : (g.rules.take (i + 1)).map (fun r => callsG g r.body) = (g.rules.take i).map (fun r => callsG g r.body) ++ [CV] := by
     rw [List.take_succ_eq_append_getElem hir, List.map_append, hCV, ← hq]; rfl
    have HI := Lib.hid (And.intro v5 (And.intro hbody (And.intro v4 (And.intro v3 (And.intro v1 (And.intro v2 (And.intro v6 hv2)))))))
    have hbl := World.block_lt_of_cell? _ _ hbody
    simp only at hbl
    have hlc := (H.out.1).le1
    have hii : (i : Int) < n1 := by omega
    clear hin v1 v2 v3 v4 v5 v6 hname hbody hOV hCV hv2 hq hqn
    go_wp2_with fail
    refine wp_region_tail2 (by kernel_rfl) (by kernel_rfl) [18, 19, 20, 21, 22, 23, 24, 25, 26, 27, 28, 29, 30] (by kernel_rfl) (fun rI rV rW => match rI with | 0 => rV = .slice oa i oc | 1 => rV = .agg #[.slice (some ⟨bR, oR, none⟩) n1 c1, .slice a2 n2 c2] | 2 => rV = .agg #[.slice (some ⟨bR, oR, none⟩) n1 c1, .slice a2 n2 c2] | 3 => rV = .pointer (some ⟨w.heap.size, 0, none⟩) | 4 => rV = .slice (some ⟨bR, oR, none⟩) n1 c1 | 5 => rV = .int .i64 i | 6 => rV = .pointer (some ⟨bR, oR + i * 2, none⟩) | 7 => rV = .pointer (some ⟨bR, oR + i * 2 + 1, none⟩) | 8 => rV = .int .i64 q | 9 => rV = .slice ra n1 rc | 10 => ∃ r28 q28 c28, rV = .slice r28 q28 c28 ∧ ToldF wq.heap.size rW r28 q28 c28 OV | 11 => ∃ r29 q29 c29, rV = .slice r29 q29 c29 ∧ ToldF wq.heap.size rW r29 q29 c29 CV | 12 => ∃ b30 r30 q30 c30, rV = .slice (some ⟨b30, 0, none⟩) 1 1 ∧ rW.heap[b30]? = some (.cells #[.slice r30 q30 c30] 34 (0, 0)) ∧ ToldF wq.heap.size rW r30 q30 c30 CV | _ => True) ?hS8 ?hstep8 ?hdone8
    case hS8 =>
     intro rI rV rW rW' hc rP
     match rI, rP with
     | 0, rP => exact rP
     | 1, rP => exact rP
     | 2, rP => exact rP
     | 3, rP => exact rP
     | 4, rP => exact rP
     | 5, rP => exact rP
     | 6, rP => exact rP
     | 7, rP => exact rP
     | 8, rP => exact rP
     | 9, rP => exact rP
     | 10, rP => exact (by obtain ⟨r28, q28, c28, e9, hp⟩ := rP; exact ⟨r28, q28, c28, e9, hp.chg0 hc⟩)
     | 11, rP => exact (by obtain ⟨r29, q29, c29, e9, hp⟩ := rP; exact ⟨r29, q29, c29, e9, hp.chg0 hc⟩)
     | 12, rP => exact (by obtain ⟨b30, r30, q30, c30, e9, hp⟩ := rP; exact ⟨b30, r30, q30, c30, e9, ⟨hc.heap hp.1 (by simp), hp.2.chg0 hc⟩⟩)
     | _ + 13, _ => trivial
    case hstep8 =>
     intro rI rH us W hC hdep K hK
     have hiN : rI < 13 := rH
     simp only [actU, Act.put, List.setIfInBounds_toArray, List.set_cons_succ, List.set_cons_zero, Nat.reduceAdd] at hK ⊢
     obtain ⟨x0, x1⟩ := cells2 (hC.heap HI.out.1 (by simp))
     have hbd := hC.cell HI.out.2.1 (by simp)
     rcases (show rI = 0 ∨ rI = 1 ∨ rI = 2 ∨ rI = 3 ∨ rI = 4 ∨ rI = 5 ∨ rI = 6 ∨ rI = 7 ∨ rI = 8 ∨ rI = 9 ∨ rI = 10 ∨ rI = 11 ∨ rI = 12 by omega) with rfl | rfl | rfl | rfl | rfl | rfl | rfl | rfl | rfl | rfl | rfl | rfl | rfl
     ·simp only [List.getD_cons_succ, List.getD_cons_zero, List.setIfInBounds_toArray, List.set_cons_succ, List.set_cons_zero] at hK ⊢
      refine wpOp_at rfl rfl ?_
      go_simp
      exact hK _ _ _ rfl (Chg.refl _ _) rfl
     ·simp only [List.getD_cons_succ, List.getD_cons_zero, List.setIfInBounds_toArray, List.set_cons_succ, List.set_cons_zero] at hK ⊢
      refine wpOp_at rfl rfl ?_
      go_simp
      exact hK _ _ _ rfl (Chg.refl _ _) rfl
     ·simp only [List.getD_cons_succ, List.getD_cons_zero, List.setIfInBounds_toArray, List.set_cons_succ, List.set_cons_zero] at hK ⊢
      refine wpOp_at rfl rfl ?_
      go_simp
      exact hK _ _ _ rfl (Chg.refl _ _) rfl
     ·simp only [List.getD_cons_succ, List.getD_cons_zero, List.setIfInBounds_toArray, List.set_cons_succ, List.set_cons_zero] at hK ⊢
      refine wpOp_at rfl rfl ?_
      go_simp
      exact hK _ _ _ rfl (Chg.refl _ _) rfl
     ·have l3 := hdep 3 (by kernel_rfl)
      replace l3 : us 3 = .pointer (some ⟨w.heap.size, 0, none⟩) := l3
      simp only [List.getD_cons_succ, List.getD_cons_zero, List.setIfInBounds_toArray, List.set_cons_succ, List.set_cons_zero, l3] at hK ⊢
      refine wpOp_at rfl rfl ?_
      go_simp
      exact hK _ _ _ rfl (Chg.refl _ _) rfl
     ·simp only [List.getD_cons_succ, List.getD_cons_zero, List.setIfInBounds_toArray, List.set_cons_succ, List.set_cons_zero] at hK ⊢
      refine wpOp_at rfl rfl ?_
      go_simp
      exact hK _ _ _ rfl (Chg.refl _ _) rfl
     ·have l4 := hdep 4 (by kernel_rfl)
      replace l4 : us 4 = .slice (some ⟨bR, oR, none⟩) n1 c1 := l4
      have l5 := hdep 5 (by kernel_rfl)
      replace l5 : us 5 = .int .i64 i := l5
      simp only [List.getD_cons_succ, List.getD_cons_zero, List.setIfInBounds_toArray, List.set_cons_succ, List.set_cons_zero, l4, l5] at hK ⊢
      refine wpOp_at rfl rfl ?_
      go_simp
      exact hK _ _ _ rfl (Chg.refl _ _) rfl
     ·have l6 := hdep 6 (by kernel_rfl)
      replace l6 : us 6 = .pointer (some ⟨bR, oR + i * 2, none⟩) := l6
      simp only [List.getD_cons_succ, List.getD_cons_zero, List.setIfInBounds_toArray, List.set_cons_succ, List.set_cons_zero, l6] at hK ⊢
      refine wpOp_at rfl rfl ?_
      go_simp
      exact hK _ _ _ rfl (Chg.refl _ _) rfl
     ·have l7 := hdep 7 (by kernel_rfl)
      replace l7 : us 7 = .pointer (some ⟨bR, oR + i * 2 + 1, none⟩) := l7
      simp only [List.getD_cons_succ, List.getD_cons_zero, List.setIfInBounds_toArray, List.set_cons_succ, List.set_cons_zero, l7] at hK ⊢
      refine wpOp_at rfl rfl ?_
      go_simp
      exact hK _ _ _ rfl (Chg.refl _ _) rfl
     ·simp only [List.getD_cons_succ, List.getD_cons_zero, List.setIfInBounds_toArray, List.set_cons_succ, List.set_cons_zero] at hK ⊢
      refine wpOp_at rfl rfl ?_
      go_simp
      exact hK _ _ _ rfl (Chg.refl _ _) rfl
     ·have l2 := hdep 2 (by kernel_rfl)
      replace l2 : us 2 = .agg #[.slice (some ⟨bR, oR, none⟩) n1 c1, .slice a2 n2 c2] := l2
      have l8 := hdep 8 (by kernel_rfl)
      replace l8 : us 8 = .int .i64 q := l8
      have l9 := hdep 9 (by kernel_rfl)
      replace l9 : us 9 = .slice ra n1 rc := l9
      simp only [List.getD_cons_succ, List.getD_cons_zero, List.setIfInBounds_toArray, List.set_cons_succ, List.set_cons_zero, l2, l8, l9] at hK ⊢
      refine wpOp_at rfl rfl ?_
      go_simp
      refine (HO.out W hC).mono ?_
      rintro e wz ⟨r28, q28, c28, rfl, e28, f28, hz⟩
      exact hK _ _ _ rfl hz ⟨r28, q28, c28, rfl, ⟨e28, row_base f28 hC.size⟩⟩
     ·have l1 := hdep 1 (by kernel_rfl)
      replace l1 : us 1 = .agg #[.slice (some ⟨bR, oR, none⟩) n1 c1, .slice a2 n2 c2] := l1
      have l10 := hdep 10 (by kernel_rfl)
      obtain ⟨r28, q28, c28, l10, p10⟩ := l10
      simp only [List.getD_cons_succ, List.getD_cons_zero, List.setIfInBounds_toArray, List.set_cons_succ, List.set_cons_zero, l1, l10] at hK ⊢
      refine wpOp_at rfl rfl ?_
      go_simp
      refine (HC9.out W hC r28 q28 c28 p10.1 p10.2).mono ?_
      rintro e wz ⟨r29, q29, c29, rfl, e29, f29, hz⟩
      exact hK _ _ _ rfl hz ⟨r29, q29, c29, rfl, ⟨e29, row_base f29 hC.size⟩⟩
     ·have l11 := hdep 11 (by kernel_rfl)
      obtain ⟨r29, q29, c29, l11, p11⟩ := l11
      simp only [List.getD_cons_succ, List.getD_cons_zero, List.setIfInBounds_toArray, List.set_cons_succ, List.set_cons_zero, l11] at hK ⊢
      refine wpOp_at rfl rfl ?_
      go_simp
      exact hK _ _ _ rfl ((Chg.refl _ _).alloc _) ⟨W.heap.size, r29, q29, c29, rfl, ⟨heap_alloc_same _ _, p11.chg0 ((Chg.refl [] W).alloc _)⟩⟩
    case hdone8 =>
     intro us W hC hall
     have l0 := hall 0 (by decide)
     replace l0 : us 0 = .slice oa i oc := l0
     have l1 := hall 1 (by decide)
     replace l1 : us 1 = .agg #[.slice (some ⟨bR, oR, none⟩) n1 c1, .slice a2 n2 c2] := l1
     have l2 := hall 2 (by decide)
     replace l2 : us 2 = .agg #[.slice (some ⟨bR, oR, none⟩) n1 c1, .slice a2 n2 c2] := l2
     have l3 := hall 3 (by decide)
     replace l3 : us 3 = .pointer (some ⟨w.heap.size, 0, none⟩) := l3
     have l4 := hall 4 (by decide)
     replace l4 : us 4 = .slice (some ⟨bR, oR, none⟩) n1 c1 := l4
     have l5 := hall 5 (by decide)
     replace l5 : us 5 = .int .i64 i := l5
     have l6 := hall 6 (by decide)
     replace l6 : us 6 = .pointer (some ⟨bR, oR + i * 2, none⟩) := l6
     have l7 := hall 7 (by decide)
     replace l7 : us 7 = .pointer (some ⟨bR, oR + i * 2 + 1, none⟩) := l7
     have l8 := hall 8 (by decide)
     replace l8 : us 8 = .int .i64 q := l8
     have l9 := hall 9 (by decide)
     replace l9 : us 9 = .slice ra n1 rc := l9
     have l10 := hall 10 (by decide)
     obtain ⟨r28, q28, c28, l10, p10⟩ := l10
     have l11 := hall 11 (by decide)
     obtain ⟨r29, q29, c29, l11, p11⟩ := l11
     have l12 := hall 12 (by decide)
     obtain ⟨b30, r30, q30, c30, l12, p12⟩ := l12
     simp only [actU, Act.put, List.setIfInBounds_toArray, List.set_cons_succ, List.set_cons_zero, Nat.reduceAdd, l0, l1, l2, l3, l4, l5, l6, l7, l8, l9, l10, l11, l12]
     clear hall l0 l1 l2 l3 l4 l5 l6 l7 l8 l9 l10 l11 l12
     obtain ⟨g1, g23⟩ := p12
     obtain ⟨g2, g3⟩ := g23
     have hrow : W.ownsRow w.heap.size 34 1 (.slice oa i oc) i (VS.map Is.cell) := by
      have h9 := (HI.out.2.2.2.1.chg0 hC).row
      rw [HI.out.2.2.2.2.1] at h9
      exact h9
     have hnews := cells_at (w := W) g1
     have hbs : w.heap.size ≤ W.heap.size := (HI.out.2.2.1.tr hC).size
     have h1' : ∀ u ∈ [Value.slice r30 q30 c30], u.oneCell' = true := by simp [Value.oneCell']
     refine wpOp_at rfl rfl ?_
     refine wpOper_append_own_at _ _ 36 rfl w.heap.size 34 j0 _ 1 24 Tryz.underlying36 hj0 hy0 hy1 hy2 rfl (by decide) (.slice oa i oc) i (VS.map Is.cell) rfl hrow ⟨b30, 0, none⟩ 1 1 [.slice r30 q30 c30] rfl rfl hnews h1' (by simp only [maxLen]; omega) (by omega) hbs ?_
     intro v' w8 h81 h82 h83
     obtain ⟨a8, c8, rfl⟩ := ownsRow_slice h81
     have hcell : Is.cell (r30, c30, CV) = .slice r30 q30 c30 := by simp [Is.cell, g2]
     rw [← hcell] at h81
     have hsn := (HI.out.2.2.2.1.chg0 hC).snoc (B' := wq.heap.size) (p := (r30, c30, CV)) (HI.out.2.2.1).size g3 (fun p hp k hk => HI.out.2.2.2.1.lt p hp k hk) (by rw [HI.out.2.2.2.2.1]; exact h81) (by rw [HI.out.2.2.2.2.1]; exact h82)
     have hgr := (HI.out.2.2.1.tr hC).grown h82 (fun k hk => .inr (by have := (row_beyond hrow hk).1; omega))
     have hgm := grown_heap h82 (hC.heap HI.out.1 (by simp)) (ownsRow_ne hrow (hC.heap HI.out.1 (by simp)) (by decide))
     have hcG : Chg (Value.slice oa i oc).ownBlock.toList W w8 := (Chg.refl _ W).grown h82 (fun k hk => .inl (by rw [hk]; simp))
     have hra : FreshInts 0 w8 ra rc (ranksL g g.rules.length) := hcG.rowOf (hC.row HI.out.2.2.2.2.2.2.1 (fun _ _ => by simp)) (fun k hk => row_notrow hrow (by simpa using hk) (by decide))
     have HW := Lib.hid (And.intro hsn (And.intro hgr (And.intro hgm hra)))
     clear h81 h82 h83 hrow hnews hbs h1' hcell hsn hgr hgm hra hcG g1 g2 g3 hC p10 p11
     refine wpOp_at rfl rfl ?_
     go_simp
     go_wp2_with fail
     go_roundg (n1 - (i + 1))
     case measure => omega
     case rel => exact ⟨i + 1, a8, c8, rfl, by omega, by go_num, rfl, Lib.hid ⟨_, by rw [List.length_append, HI.out.2.2.2.2.1]; rfl, by rw [List.map_append, HI.out.2.2.2.2.2.1, HI.out.2.2.2.2.2.2.2]; rfl, HW.out.1, HW.out.2.1, HW.out.2.2.1, HW.out.2.2.2⟩⟩
   ·obtain rfl : n1 = i := by omega
    have e0 : graphG g = (g.rules.take n1).map (fun r => callsG g r.body) := by
     unfold graphG
     rw [if_pos HR.out, List.take_of_length_le (by have := H.out.2; omega)]
    have e1 : n1 = (graphG g).length := by rw [e0, ← v2, List.length_map, v1]
    have HI := Lib.hid (And.intro v2 (And.intro v3 (And.intro v4 (And.intro e0 e1))))
    clear hin v1 v2 v3 v4 v5 v6 e0 e1
    go_wp2_with fail
    go_ret
    exact ⟨oa, oc, VS, congrArg (fun m => Ending.returned (.slice oa m oc)) HI.out.2.2.2.2, HI.out.1.trans HI.out.2.2.2.1.symm, HI.out.2.1, HI.out.2.2.1⟩
end Go.Proofs.YtlklmpjakeedcaaGreatDoor

/-
  The document's answer of layer 12: the rules that some nodes call; the nodes and the calls at a node's own place.
  Conditions: none.
-/
import Derived.Test.YtibgfgfmljhimaaGreatLeSf1
set_option linter.unusedVariables false
set_option linter.unusedSimpArgs false
set_option linter.unnecessarySimpa false
namespace Go.Proofs.YtibgfgfmljhimaaGreat
open Go.RowKit Go.MapKept Go.Shelf

theorem heap_set_other {w : World} {b k i : Nat} (h : k ≠ b) {u : Value} : (w.setCell ⟨b, i, none⟩ u).heap[k]? = w.heap[k]? :=
  Below.heap_setCell _ _ _ _ (fun e => h (by first | exact e | exact e.symm))
/-- Which of n rules some nodes call. -/
def metN (n : Nat) (ns : List Nd) (l : List Int) : List Bool := (List.range n).map fun r => l.any fun k => isCall ns k r
theorem metN_len (n : Nat) (ns : List Nd) (l : List Int) : (metN n ns l).length = n := by simp [metN]
theorem metN_nil (n : Nat) (ns : List Nd) : metN n ns [] = List.replicate n false := by
  apply List.ext_getElem
  · simp [metN]
  · intro i h1 h2
    simp [metN]
theorem metN_skip {n : Nat} {ns : List Nd} {l : List Int} {q : Nat} (hq : q < ns.length) (hk : ns[q].k ≠ 5) : metN n ns (l ++ [(q : Int)]) = metN n ns l := by
  refine List.map_congr_left (fun r _ => ?_)
  rw [List.any_append]
  simp [isCall_at hq, hk]
theorem metN_put {n : Nat} {ns : List Nd} {l : List Int} {q : Nat} (hq : q < ns.length) (hk : ns[q].k = 5) {r : Nat} (hr : ns[q].r = r) : metN n ns (l ++ [(q : Int)]) = (metN n ns l).set r true := by
  refine List.ext_getElem (by simp [metN]) (fun i h1 h2 => ?_)
  have hi : i < n := by simpa [metN] using h1
  rw [List.getElem_set]
  simp only [metN, List.getElem_map, List.getElem_range, List.any_append, List.any_cons, List.any_nil, Bool.or_false, isCall_at hq, hk, hr]
  by_cases e : r = i
  · subst e; simp
  · have : ¬ ((r : Int) = (i : Int)) := by omega
    simp [e, this]
def callsOf (g : Gr) (zs : List Int) : List Int := pickL g.rules.length (fun r => zs.any fun k => isCall g.nodes k r)
/-- Nodes that are there, calls of rules that are there. -/
def Goods (g : Gr) (zs : List Int) : Prop := ∀ z ∈ zs, ∃ q : Nat, z = q ∧ ∃ h : q < g.nodes.length, g.nodes[q].k = 5 → ∃ r : Nat, g.nodes[q].r = r ∧ r < g.rules.length

set_option maxRecDepth 100000 in
set_option maxHeartbeats 16000000 in
theorem ref12calls_any (w : World) (a1 : Option Addr) (n1 c1 : Nat) (a2 : Option Addr) (n2 c2 : Nat) (g : Gr) (hg : GramAt w a1 n1 c1 a2 n2 c2 g) (hn1 : n1 ≤ 1099511627776) (la : Option Addr) (ln lc : Nat) (zs : List Int) (hl : ln = zs.length) (hls : ln ≤ 9223372036854775807) (hz : Ints w la zs) (hgood : Goods g zs) :
    Calls Tryz.prog 102 #[.agg #[.slice a1 n1 c1, .slice a2 n2 c2], .slice la ln lc] w (ToldInts w (callsOf g zs)) := by
  obtain ⟨i0, hi0, hz0, hz1, hz2⟩ := info_parts Tryz.infoInt
  have hmk := run_falses n1 (by omega)
  obtain ⟨A, hA⟩ : ∃ A, A = callsOf g zs := ⟨_, rfl⟩
  rw [← hA]
  have hsm := hg.small
  have H := Lib.hid (And.intro hg (And.intro hz (And.intro hgood (And.intro hl (And.intro hg.e1 hA)))))
  have hc2 : n2 ≤ 9223372036854775807 := hsm.2
  clear hg hz hgood hl hA hsm
  go_enter Tryz.func102, Tryz.ntmps102
  go_wp2_with fail
  have hb1 : ((w.alloc (.cells #[.slice a1 n1 c1, .slice a2 n2 c2] 25)).alloc (rowB (List.replicate n1 false))).heap[w.heap.size]? = some (.cells #[.slice a1 n1 c1, .slice a2 n2 c2] 25 (0, 0)) := heap_alloc_lt (heap_alloc_same _ _) _
  have hb2 : ((w.alloc (.cells #[.slice a1 n1 c1, .slice a2 n2 c2] 25)).alloc (rowB (List.replicate n1 false))).heap[w.heap.size + 1]? = some (rowB (List.replicate n1 false)) := by
    have := heap_alloc_same (w.alloc (.cells #[.slice a1 n1 c1, .slice a2 n2 c2] 25)) (.cells ((List.replicate n1 false).map Value.bool).toArray 4)
    rw [World.size_alloc] at this
    exact this
  have hc0 : Chg [] w ((w.alloc (.cells #[.slice a1 n1 c1, .slice a2 n2 c2] 25)).alloc (rowB (List.replicate n1 false))) := ((Chg.refl [] w).alloc _).alloc _
  obtain ⟨w0, e0⟩ : ∃ w0, w0 = ((w.alloc (.cells #[.slice a1 n1 c1, .slice a2 n2 c2] 25)).alloc (rowB (List.replicate n1 false))) := ⟨_, rfl⟩
  rw [← e0] at hb1 hb2 hc0 ⊢
  obtain ⟨B, hB⟩ : ∃ B, B = w.heap.size + 1 := ⟨_, rfl⟩
  rw [← hB] at hb2 ⊢
  have H0 := Lib.hid (And.intro hb1 (And.intro hb2 (And.intro hc0 hB)))
  clear e0 hb1 hb2 hc0 hB hmk
  go_loopg [6] ln (fun dd iv wr => ∃ i : Nat, dd = ln - i ∧ i ≤ ln ∧ iv = .int .i64 i ∧ Hid (wr.heap[w.heap.size]? = some (.cells #[.slice a1 n1 c1, .slice a2 n2 c2] 25 (0, 0)) ∧ wr.heap[B]? = some (rowB (metN n1 g.nodes (zs.take i))) ∧ Chg [] w wr))
  case atStart => exact ⟨0, rfl, Nat.zero_le _, rfl, Lib.hid ⟨H0.out.1, by rw [List.take_zero, metN_nil]; exact H0.out.2.1, H0.out.2.2.1⟩⟩
  case round =>
    obtain ⟨i, rfl, hi, rfl, hin⟩ := hrel
    obtain ⟨wq, rfl⟩ : ∃ wq, wq = wr := ⟨_, rfl⟩
    by_cases hil : i < ln
    · have hiz : i < zs.length := by have := H.out.2.2.2.1; omega
      obtain ⟨x0, x1⟩ := cells2 hin.out.1
      obtain ⟨bl, ol, rfl, hlc⟩ := (H.out.2.1.keep hin.out.2.2.kp) i hiz
      obtain ⟨q, hq, hqn, hqc⟩ := H.out.2.2.1 _ (List.getElem_mem hiz)
      rw [hq] at hlc
      obtain ⟨bn, on, ak, nk, ck, rfl, hxa⟩ := (H.out.1.keep hin.out.2.2.kp).nodes q hqn
      obtain ⟨kq, hkq⟩ : ∃ kq, kq = g.nodes[q].k := ⟨_, rfl⟩
      have p0 := hxa.k
      have p6 := hxa.r
      rw [← hkq] at p0 hqc
      obtain ⟨rq, hrq⟩ : ∃ rq, rq = g.nodes[q].r := ⟨_, rfl⟩
      rw [← hrq] at p6 hqc
      have hq2 : q < n2 := by have := H.out.1.e2; omega
      have hqi : (q : Int) < n2 := by omega
      have hbl := World.block_lt_of_cell? _ _ hlc
      have hbn := World.block_lt_of_cell? _ _ p0
      simp only at hbl hbn
      have htk : zs.take (i + 1) = zs.take i ++ [(q : Int)] := by rw [List.take_succ_eq_append_getElem hiz, hq]
      have HT := Lib.hid (And.intro htk (And.intro hkq (And.intro hqc hrq)))
      have HT2 := Lib.hid hqn
      clear htk hkq hqc hq hxa hrq
      by_cases h5 : kq = 5
      · subst h5
        obtain ⟨r, hr, hrn⟩ := HT.out.2.2.1 rfl
        rw [hr] at p6
        have hrg : g.nodes[q].r = (r : Int) := by rw [← hr]; exact HT.out.2.2.2.symm
        have hrl : r < n1 := by have := H.out.2.2.2.2.1; omega
        have hri : (r : Int) < n1 := by omega
        obtain ⟨bv, hbv⟩ : ∃ bv, (metN n1 g.nodes (zs.take i))[r]? = some bv := ⟨_, List.getElem?_eq_getElem (by rw [metN_len]; exact hrl)⟩
        have yb := rowB_cell hin.out.2.1 hbv
        have fb := rowB_free hin.out.2.1 r
        have hBl := lt_of_block hin.out.2.1
        have HR := Lib.hid hrg
        clear hr hbv hrn hrg
        go_wp2_with fail
        go_region
        go_wp2_with fail
        go_region
        go_wp2_with fail
        go_roundg (ln - (i + 1))
        case measure => omega
        case rel =>
          have hneT : w.heap.size ≠ B := by have := H0.out.2.2.2; omega
          exact ⟨i + 1, rfl, by omega, by go_num, Lib.hid ⟨(by show (wq.setCell ⟨B, r, none⟩ (.bool true)).heap[w.heap.size]? = _; rw [heap_set_other hneT]; exact hin.out.1), by rw [HT.out.1, metN_put hqn HT.out.2.1.symm HR.out]; exact rowB_set true hin.out.2.1, (hin.out.2.2.setCell (p := ⟨B, r, none⟩) (.inr (by have := H0.out.2.2.2; simp only; omega)) _).drew.drew⟩⟩
      · have e5 : (kq == 5) = false := by simpa using h5
        go_wp2_with fail
        go_region
        go_wp2_with fail
        go_roundg (ln - (i + 1))
        case measure => omega
        case rel => exact ⟨i + 1, rfl, by omega, by go_num, Lib.hid ⟨hin.out.1, by rw [HT.out.1, metN_skip HT2.out (by rw [← HT.out.2.1]; exact h5)]; exact hin.out.2.1, hin.out.2.2.drew⟩⟩
    · obtain rfl : ln = i := by omega
      have htl : zs.take ln = zs := List.take_of_length_le (by have := H.out.2.2.2.1; omega)
      have hbR := hin.out.2.1
      rw [htl] at hbR
      obtain ⟨F, hF⟩ : ∃ F : Nat → Bool, F = fun r => zs.any fun k => isCall g.nodes k r := ⟨_, rfl⟩
      have hAF : A = pickL n1 F := by rw [H.out.2.2.2.2.2, H.out.2.2.2.2.1, hF]; rfl
      have hbs : ∀ k, k < n1 → (metN n1 g.nodes zs)[k]? = some (F k) := fun k hk => by rw [hF]; simp [metN, hk]
      obtain ⟨bs, hbsE⟩ : ∃ bs, bs = metN n1 g.nodes zs := ⟨_, rfl⟩
      rw [← hbsE] at hbs hbR
      have HX := Lib.hid (And.intro hin.out.1 (And.intro hbR (And.intro hin.out.2.2 (And.intro hAF hbs))))
      clear htl hbR hin hF hAF hbs hbsE
      go_wp2_with fail
      go_loopg [8, 7] n1 (fun d iv ov wr => ∃ (k : Nat) (a' : Option Addr) (c' q : Nat), d = n1 - k ∧ k ≤ n1 ∧ iv = .int .i64 k ∧ ov = .slice a' q c' ∧ q ≤ k ∧ Hid (wr.heap[B]? = some (rowB bs) ∧ Chg [] w wr ∧ FreshInts w.heap.size wr a' c' (pickL k F) ∧ q = (pickL k F).length))
      case atStart => exact ⟨0, none, 0, 0, rfl, by omega, rfl, rfl, Nat.le_refl _, Lib.hid ⟨HX.out.2.1, HX.out.2.2.1, World.ownsRow_nil _ _ _ _, rfl⟩⟩
      case round =>
        obtain ⟨k, a', c', q, rfl, hk, rfl, rfl, hqk, hin2⟩ := hrel
        obtain ⟨wp, rfl⟩ : ∃ wz, wz = wr := ⟨_, rfl⟩
        by_cases hlt : k < n1
        · obtain ⟨r, hr⟩ : ∃ r, r = F k := ⟨_, rfl⟩
          have hcl : bs[k]? = some r := by rw [hr]; exact HX.out.2.2.2.2 k hlt
          have hce := rowB_cell hin2.out.1 hcl
          have hBl := lt_of_block hin2.out.1
          have HR := Lib.hid hr
          have hki : (k : Int) < n1 := by omega
          clear hr hcl
          cases r with
          | true =>
            have hrow3 : World.ownsRow wp w.heap.size 3 1 (.slice a' q c') q ((pickL k F).map (Value.int .i64)) := by
              have h9 := hin2.out.2.2.1
              unfold FreshInts at h9
              rw [← hin2.out.2.2.2] at h9
              exact h9
            have h1' : ∀ u ∈ [Value.int .i64 (k : Int)], u.oneCell' = true := by simp [Value.oneCell']
            have h2' : q + 1 ≤ maxLen ∧ (q + 1) * 8 ≤ 140737488355328 := by simp only [maxLen]; omega
            have hnew := cells_at (w := wp.alloc (.cells #[.int .i64 k] 3)) (heap_alloc_same _ _)
            have hcA := (Chg.refl [] wp).alloc (.cells #[.int .i64 k] 3)
            have H4 := Lib.hid (And.intro (hcA.row hrow3 (fun _ _ => by simp)) (And.intro h1' (And.intro h2' (And.intro hnew (And.intro (hin2.out.2.1.tr hcA).size (And.intro (hin2.out.2.1.tr hcA) (hcA.heap hin2.out.1 (by simp))))))))
            clear hrow3 h1' h2' hnew hcA
            go_wp2_with (at_builtin; refine wpList_append_own_at _ rfl _ _ 48 rfl w.heap.size 3 i0 _ 1 8 Tryz.underlying48 hi0 hz0 hz1 hz2 rfl (by decide) (.slice a' q c') q ((pickL k F).map (Value.int .i64)) rfl H4.out.1 ⟨wp.heap.size, 0, none⟩ 1 1 [.int .i64 (k : Int)] rfl rfl H4.out.2.2.2.1 H4.out.2.1 H4.out.2.2.1.1 H4.out.2.2.1.2 H4.out.2.2.2.2.1 ?_; intro v' w5 hr5 hg5 hn5 hb5; obtain ⟨a5, c5, rfl⟩ := ownsRow_slice hr5; have H5 := Lib.hid (And.intro hr5 hg5); clear hr5 hg5 hn5 hb5)
            go_roundg (n1 - (k + 1))
            case measure => omega
            case rel =>
              have hnl : pickL (k + 1) F = pickL k F ++ [(k : Int)] := by rw [pickL_succ, if_pos HR.out.symm]
              have hrw := H5.out.1
              rw [show ((pickL k F).map (Value.int .i64) ++ [Value.int .i64 (k : Int)]) = (pickL (k + 1) F).map (Value.int .i64) by rw [hnl, List.map_append]; rfl] at hrw
              have hln : q + 1 = (pickL (k + 1) F).length := by rw [hnl, List.length_append, ← hin2.out.2.2.2]; rfl
              exact ⟨k + 1, a5, c5, q + 1, rfl, by omega, by go_num, rfl, by omega, Lib.hid ⟨grown_heap H5.out.2 H4.out.2.2.2.2.2.2 (ownsRow_ne H4.out.1 H4.out.2.2.2.2.2.2 (by decide)), H4.out.2.2.2.2.2.1.grown H5.out.2 (fun y hy => .inr (row_beyond H4.out.1 hy).1), by unfold FreshInts; rw [← hln]; exact hrw, hln⟩⟩
          | false =>
            go_wp2_with fail
            go_roundg (n1 - (k + 1))
            case measure => omega
            case rel =>
              have hnl : pickL (k + 1) F = pickL k F := by rw [pickL_succ, if_neg (by rw [← HR.out]; simp), List.append_nil]
              exact ⟨k + 1, a', c', q, rfl, by omega, by go_num, rfl, by omega, Lib.hid ⟨hin2.out.1, hin2.out.2.1, by rw [hnl]; exact hin2.out.2.2.1, by rw [hnl]; exact hin2.out.2.2.2⟩⟩
        · obtain rfl : n1 = k := by omega
          go_wp2_with fail
          go_ret
          exact ⟨a', q, c', rfl, by rw [HX.out.2.2.2.1]; exact hin2.out.2.2.2, by rw [HX.out.2.2.2.1]; exact hin2.out.2.2.1, hin2.out.2.1⟩
end Go.Proofs.YtibgfgfmljhimaaGreat

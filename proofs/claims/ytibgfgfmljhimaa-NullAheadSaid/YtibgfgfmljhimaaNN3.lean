/-
  NullNodes: what the law computes.
  Conditions: the grammar reads as data, within the reach.
-/
import Derived.Test.YtibgfgfmljhimaaNN2
import Derived.Test.YtibgfgfmljhimaaNAw
set_option linter.unusedVariables false
set_option linter.unusedSimpArgs false
set_option linter.unnecessarySimpa false
namespace Go.Proofs.Ytibgfgfmljhimaa
open Go.RowKit Go.MapKept Go.Shelf

set_option maxRecDepth 100000 in
set_option maxHeartbeats 2000000 in
theorem nullRules_wrong (w : World) (a1 : Option Addr) (n1 c1 : Nat) (a2 : Option Addr) (n2 c2 : Nat) (g : Gr) (hg : GramAt w a1 n1 c1 a2 n2 c2 g) (hre : Reach g) (hr : rightB g = false) :
    Calls Try.prog 42 #[.agg #[.slice a1 n1 c1, .slice a2 n2 c2]] w fun e w' => e = .returned (.slice none 0 0) ∧ Chg [] w w' := by
  have H := Lib.hid (And.intro hg (And.intro hre hr))
  clear hg hre hr
  go_enter Try.func42, Try.ntmps42
  obtain ⟨x0, x1⟩ := cells2 (heap_alloc_same w (.cells #[.slice a1 n1 c1, .slice a2 n2 c2] 25))
  go_wp2_with fail
  refine (ofNull_any _ a1 n1 c1 a2 n2 c2 g (H.out.1.keep ((Chg.refl [] w).alloc _).kp) H.out.2.1).mono ?_
  rintro e w2 ⟨hc2, hif⟩
  rw [H.out.2.2] at hif
  obtain rfl : e = _ := hif
  have HC := Lib.hid (((Chg.refl [] w).alloc _).tr0 hc2)
  clear x0 x1 hc2
  go_wp2_with fail
  go_ret
  exact ⟨rfl, HC.out.alloc _⟩
set_option maxRecDepth 100000 in
set_option maxHeartbeats 2000000 in
theorem nullNodes_wrong (w : World) (a1 : Option Addr) (n1 c1 : Nat) (a2 : Option Addr) (n2 c2 : Nat) (g : Gr) (hg : GramAt w a1 n1 c1 a2 n2 c2 g) (hre : Reach g) (hr : rightB g = false) :
    Calls Try.prog 43 #[.agg #[.slice a1 n1 c1, .slice a2 n2 c2]] w fun e w' => e = .returned (.slice none 0 0) ∧ Chg [] w w' := by
  have H := Lib.hid (And.intro hg (And.intro hre hr))
  clear hg hre hr
  go_enter Try.func43, Try.ntmps43
  obtain ⟨x0, x1⟩ := cells2 (heap_alloc_same w (.cells #[.slice a1 n1 c1, .slice a2 n2 c2] 25))
  go_wp2_with fail
  refine (ofNull_any _ a1 n1 c1 a2 n2 c2 g (H.out.1.keep ((Chg.refl [] w).alloc _).kp) H.out.2.1).mono ?_
  rintro e w2 ⟨hc2, hif⟩
  rw [H.out.2.2] at hif
  obtain rfl : e = _ := hif
  have HC := Lib.hid (((Chg.refl [] w).alloc _).tr0 hc2)
  clear x0 x1 hc2
  go_wp2_with fail
  go_ret
  exact ⟨rfl, HC.out⟩

/-! ### Lists -/
/-- What the first k of the told nodes say. -/
def toldAt (g : Gr) (k : Nat) : List Bool := (List.range g.nodes.length).map fun (j : Nat) => decide ((j : Int) ∈ (nodesN g).take k)
theorem toldAt_len (g : Gr) (k : Nat) : (toldAt g k).length = g.nodes.length := by simp [toldAt]
theorem toldAt_zero (g : Gr) : toldAt g 0 = List.replicate g.nodes.length false := by
  apply List.ext_getElem
  · simp [toldAt]
  · intro j h1 h2; simp [toldAt]
theorem nodesN_at {g : Gr} {k : Nat} {z : Int} (h : (nodesN g)[k]? = some z) : ∃ q : Nat, z = q ∧ q < g.nodes.length := by
  have h1 := List.mem_of_getElem? h
  unfold nodesN at h1
  split at h1
  · simp only [pickL, List.mem_map, List.mem_filter, List.mem_range] at h1
    obtain ⟨q, ⟨h2, _⟩, rfl⟩ := h1
    exact ⟨q, rfl, h2⟩
  · cases h1
theorem toldAt_succ {g : Gr} {k q : Nat} (h : (nodesN g)[k]? = some (q : Int)) : toldAt g (k + 1) = (toldAt g k).set q true := by
  apply List.ext_getElem
  · simp [toldAt]
  · intro i h1 h2
    rw [List.getElem_set]
    simp only [toldAt, List.getElem_map, List.getElem_range, List.take_add_one, h, Option.toList_some, List.mem_append, List.mem_singleton]
    by_cases hq : q = i
    · subst hq
      rw [if_pos rfl]; simp
    · rw [if_neg hq]
      have : ¬ ((i : Int) = (q : Int)) := by omega
      simp [this]
theorem toldAt_end {g : Gr} (hr : rightB g = true) : toldAt g (nodesN g).length = mayAt g g.rules.length 0 := by
  apply List.ext_getElem
  · simp [toldAt, mayAt]
  · intro i h1 h2
    have hi : i < g.nodes.length := by simpa [toldAt] using h1
    simp only [toldAt, mayAt, List.getElem_map, List.getElem_range, List.take_length]
    rw [show decide (0 ≤ i) = true by simp, Bool.true_and, Bool.eq_iff_iff, decide_eq_true_eq]
    unfold nodesN
    rw [if_pos hr]
    simp only [pickL, List.mem_map, List.mem_filter, List.mem_range]
    constructor
    · rintro ⟨q, ⟨h3, h4⟩, h5⟩
      obtain rfl : q = i := by omega
      exact h4
    · intro h; exact ⟨i, ⟨hi, h⟩, rfl⟩
/-- The ranks of the first i rules. -/
def rankAt (g : Gr) (i : Nat) : List Int := (List.range i).map fun j => (rankG g j : Int)
theorem rankAt_succ (g : Gr) (i : Nat) : rankAt g (i + 1) = rankAt g i ++ [(rankG g i : Int)] := by simp [rankAt, List.range_succ]
theorem rankAt_len (g : Gr) (i : Nat) : (rankAt g i).length = i := by simp [rankAt]
theorem rankAt_end (g : Gr) : rankAt g g.rules.length = ranksL g g.rules.length := rfl

theorem say_may0 {g : Gr} (h : rightB g = true) {r n : Nat} (hn : n < g.nodes.length) : kindSay g.nodes[n] (callsR g r) (atB (mayAt g r 0)) = mayR g r n := by
  rw [kindSay_may (right_kind h hn), mayR, mayN_eq (falls_right h) _ hn]
  refine kindMay_congr rfl (fun k hk => ?_)
  obtain ⟨k1, k2⟩ := right_kids h hn k hk
  exact atB_may g (by omega) k2

set_option maxRecDepth 100000 in
set_option maxHeartbeats 16000000 in
theorem nullNodesLaw_any (w : World) (a1 : Option Addr) (n1 c1 : Nat) (a2 : Option Addr) (n2 c2 : Nat) (g : Gr) (hg : GramAt w a1 n1 c1 a2 n2 c2 g) (hre : Reach g) :
    Calls Try.prog 8 #[.agg #[.slice a1 n1 c1, .slice a2 n2 c2]] w fun e w' => e = .returned (.bool true) ∧ Chg [] w w' := by
  obtain ⟨i0, hi0, hz0, hz1, hz2⟩ := info_parts Try.infoInt
  have H := Lib.hid (And.intro hg (And.intro hre (And.intro hg.e1 hg.e2)))
  clear hg hre
  go_enter Try.func8, Try.ntmps8
  go_wp2_with fail
  refine (awake11_any _).mono ?_
  rintro e w1 ⟨rfl, hc1⟩
  have hb1 := hc1.heap (heap_alloc_same _ _) (by simp)
  have H1 := Lib.hid (And.intro hb1 (((Chg.refl [] w).alloc _).tr0 hc1))
  clear hc1 hb1
  obtain ⟨x0, x1⟩ := cells2 H1.out.1
  go_wp2_with fail
  refine (size11_any _ a1 n1 c1 a2 n2 c2 g (H.out.1.keep H1.out.2.kp) H.out.2.1).mono ?_
  rintro e w2 ⟨m, rfl, hm1, hm2, hc2⟩
  have H2 := Lib.hid (And.intro (hc2.heap H1.out.1 (by simp)) (H1.out.2.tr hc2))
  clear hc2 x0 x1
  by_cases hm : (300 : Int) < m
  · go_wp2_with fail
    go_ret
    exact ⟨rfl, H2.out.2⟩
  · have hsm : smallG g := by
      by_cases hq : smallG g
      · exact hq
      · exact absurd (hm2 hq) hm
    clear hm1 hm2
    obtain ⟨z1, z2, z3⟩ := kids_few hsm
    have hn1 : n1 ≤ 300 := by have := H.out.2.2.1; omega
    have hn2 : n2 ≤ 300 := by have := H.out.2.2.2; omega
    clear hsm z1 z2 z3
    obtain ⟨x0, x1⟩ := cells2 H2.out.1
    go_wp2_with fail
    refine (Right_any _ a1 n1 c1 a2 n2 c2 g (H.out.1.keep H2.out.2.kp)).mono ?_
    rintro e w3 ⟨rfl, hc3⟩
    have H3 := Lib.hid (And.intro (hc3.heap H2.out.1 (by simp)) (H2.out.2.tr hc3))
    clear hc3 x0 x1
    obtain ⟨x0, x1⟩ := cells2 H3.out.1
    cases hr : rightB g with
    | false =>
      have kx0 := cell_rg x0
      have kx1 := cell_rg x1
      have cA := calls_rg (w := w3) (fun w1 h1 => nullRules_wrong w1 a1 n1 c1 a2 n2 c2 g (H.out.1.keep (H3.out.2.tr h1).kp) H.out.2.1 hr)
      have cB := calls_rg (w := w3) (fun w1 h1 => nullNodes_wrong w1 a1 n1 c1 a2 n2 c2 g (H.out.1.keep (H3.out.2.tr h1).kp) H.out.2.1 hr)
      clear x0 x1
      go_wp2_with fail
      refine wp_region_quiet_below (by kernel_rfl) (by kernel_rfl) ?_
      repeat (go_big_quiet_step (first | (with_reducible exact cA _ _) | (with_reducible exact cB _ _)))
      refine wpQuiet_nil ?_
      intro w4 hw4
      have hc4 := chg_of_rg hw4
      clear hw4 cA cB kx0 kx1
      go_wp2_with fail
      go_ret
      exact ⟨rfl, H3.out.2.tr hc4⟩
    | true =>
      have HR := Lib.hid hr
      clear hr
      have hz := run_falses n2 (by omega)
      have hbl3 := lt_of_block H3.out.1
      go_wp2_with fail
      refine (nullNodes_any _ a1 n1 c1 a2 n2 c2 g (H.out.1.keep (H3.out.2.alloc _).kp) H.out.2.1).mono ?_
      rintro e w4 ⟨al, cl, rfl, hf4, hc4⟩
      have hB4 := hc4.heap (heap_alloc_same w3 _) (by simp)
      obtain ⟨ll, hll⟩ : ∃ ll, ll = (nodesN g).length := ⟨_, rfl⟩
      rw [← hll]
      rw [H.out.2.2.2, ← toldAt_zero] at hB4
      rw [World.size_alloc] at hf4
      have hll3 : ll ≤ 300 := by
        rw [hll]
        unfold nodesN
        split
        · exact Nat.le_trans (pickL_le _ _) (by have := H.out.2.2.2; omega)
        · exact Nat.zero_le _
      have H4 := Lib.hid (And.intro hB4 (And.intro hf4 (And.intro hll (And.intro (hc4.heap (heap_alloc_lt H3.out.1 _) (by simp)) ((H3.out.2.alloc _).tr0 hc4)))))
      have hl4 := hc4.size
      rw [World.size_alloc] at hl4
      clear hz x0 x1 hB4 hf4 hll hc4
      go_wp2_with fail
      -- which nodes are told
      go_loopg [5] ll (fun d iv wr => ∃ k : Nat, d = ll - k ∧ k ≤ ll ∧ iv = .int .i64 k ∧ Hid (Chg [w3.heap.size] w4 wr ∧ wr.heap[w3.heap.size]? = some (rowB (toldAt g k))))
      case atStart => exact ⟨0, rfl, Nat.zero_le _, rfl, Lib.hid ⟨Chg.refl _ _, H4.out.1⟩⟩
      case round =>
        obtain ⟨k, rfl, hk, rfl, hin⟩ := hrel
        obtain ⟨wq, rfl⟩ : ∃ wz, wz = wr := ⟨_, rfl⟩
        by_cases hkl : k < ll
        · have hints := ownInts_read H4.out.2.1.own
          have hkn : k < (nodesN g).length := by have := H4.out.2.2.1; omega
          obtain ⟨bl, ol, rfl, hcell⟩ := hints.1 k hkn
          obtain ⟨z, hz⟩ : ∃ z, z = (nodesN g)[k] := ⟨_, rfl⟩
          rw [← hz] at hcell
          have hLk : (nodesN g)[k]? = some z := by rw [hz]; exact List.getElem?_eq_getElem hkn
          obtain ⟨q, rfl, hq⟩ := nodesN_at hLk
          have hbl : w3.heap.size + 1 ≤ bl := by
            rcases H4.out.2.1.2 with ⟨h0, h1⟩ | ⟨G, cap, cur, h0, hb, _⟩
            · cases h0
            · cases h0; exact hb
          have hc1 := hin.out.1.cell hcell (by simp; omega)
          obtain ⟨u, hu⟩ : ∃ u, (toldAt g k)[q]? = some u := ⟨_, List.getElem?_eq_getElem (by rw [toldAt_len]; exact hq)⟩
          have hcu := rowB_cell hin.out.2 hu
          have hfu := rowB_free hin.out.2 q
          have hqn : q < n2 := by have := H.out.2.2.2; omega
          have HZ := Lib.hid hLk
          clear hints hcell hLk hu hq
          clear hz hkn
          go_wp2_with fail
          go_roundg (ll - (k + 1))
          case measure => omega
          case rel =>
            refine ⟨k + 1, rfl, by omega, by go_num, Lib.hid ⟨hin.out.1.setCell (p := ⟨w3.heap.size, q, none⟩) (.inl (by simp)) _, ?_⟩⟩
            rw [toldAt_succ HZ.out]
            exact rowB_set _ hin.out.2
        · obtain rfl : k = ll := by omega
          have hBq : wq.heap[w3.heap.size]? = some (rowB (mayAt g g.rules.length 0)) := by
            rw [← toldAt_end HR.out, ← H4.out.2.2.1]
            exact hin.out.2
          have H5 := Lib.hid (And.intro hBq (And.intro (hin.out.1.heap H4.out.2.2.2.1 (by simp; omega)) (H4.out.2.2.2.2.trans hin.out.1 (fun j hj => .inr (by have := H3.out.2.size; simp at hj; omega)))))
          clear hBq
          go_wp2_with fail
          -- the ranks
          go_loopg [8, 6, 7] n1 (fun d iv hv rv wr => ∃ (i hi q : Nat) (ra : Option Addr) (rc : Nat), d = n1 - i ∧ i ≤ n1 ∧ iv = .int .i64 i ∧ hv = .int .i64 hi ∧ rv = .slice ra q rc ∧ hi ≤ n1 ∧ q = i ∧ Hid (Chg [] wq wr ∧ FreshInts wq.heap.size wr ra rc (rankAt g i)))
          case atStart => exact ⟨0, 0, 0, none, 0, rfl, Nat.zero_le _, rfl, rfl, rfl, Nat.zero_le _, rfl, Lib.hid ⟨Chg.refl _ _, World.ownsRow_nil _ _ _ _⟩⟩
          case round =>
            obtain ⟨i, hi, q, ra, rc, rfl, hin1, rfl, rfl, rfl, hhi, rfl, hin2⟩ := hrel
            obtain ⟨ws, rfl⟩ : ∃ wz, wz = wr := ⟨_, rfl⟩
            have hcs := H5.out.2.2.tr hin2.out.1
            have hbs := hin2.out.1.heap H5.out.2.1 (by simp)
            obtain ⟨x0, x1⟩ := cells2 hbs
            by_cases hin3 : q < n1
            · have hir : q < g.rules.length := by have := H.out.2.2.1; omega
              obtain ⟨z, hz⟩ : ∃ z, z = rankG g q := ⟨_, rfl⟩
              have hrk : rankI g q = (z : Int) := by simp [rankI, HR.out, hir, hz]
              have hzn : z ≤ n1 := by have := rank_le g q; have := H.out.2.2.1; omega
              obtain ⟨b, hbd, hbl⟩ := right_body HR.out hir
              have hbm : mayG g g.rules[q].body = decide (0 < z) := by rw [rank_body hir, hz]
              rw [hbd] at hbm
              have hp := nullRank_any ws a1 n1 c1 a2 n2 c2 g (H.out.1.keep hcs.kp) H.out.2.1 q
              rw [hrk] at hp
              have HP := Lib.hid (And.intro hz (And.intro hrk (And.intro hbm (And.intro hbl (And.intro hcs (And.intro hbs hp))))))
              have HB := Lib.hid (⟨hir, hbd⟩ : ∃ h : q < g.rules.length, g.rules[q].body = (b : Int))
              clear hz hrk hbm hbd hcs hbs hp
              go_wp2_with fail
              refine HP.out.2.2.2.2.2.2.mono ?_
              rintro e wt ⟨rfl, hct⟩
              have hrow : wt.ownsRow wq.heap.size 3 1 (.slice ra q rc) q ((rankAt g q).map (Value.int .i64)) := by
                have := hct.row hin2.out.2 (fun _ _ => by simp)
                rw [rankAt_len] at this
                exact this
              have h1' : ∀ u ∈ [Value.int .i64 (z : Int)], u.oneCell' = true := by simp [Value.oneCell']
              have h2' : q + 1 ≤ maxLen ∧ (q + 1) * 8 ≤ 140737488355328 := by simp only [maxLen]; omega
              have hnew := cells_at (w := wt.alloc (.cells #[.int .i64 z] 3)) (heap_alloc_same _ _)
              have hsz := (hin2.out.1.tr hct).size
              have HT := Lib.hid (And.intro (World.ownsRow.alloc hrow (.cells #[.int .i64 z] 3)) (And.intro hnew (And.intro h1' (And.intro h2' (And.intro hsz ((hin2.out.1.tr hct).alloc (.cells #[.int .i64 z] 3)))))))
              clear hrow h1' h2' hnew hsz hct x0 x1
              go_wp2_with (at_builtin; refine wpList_append_own_at _ rfl _ _ 30 rfl wq.heap.size 3 i0 _ 1 8 Try.underlying30 hi0 hz0 hz1 hz2 rfl (by decide) (.slice ra q rc) q ((rankAt g q).map (Value.int .i64)) rfl HT.out.1 ⟨wt.heap.size, 0, none⟩ 1 1 [.int .i64 z] rfl rfl HT.out.2.1 HT.out.2.2.1 HT.out.2.2.2.1.1 HT.out.2.2.2.1.2 (by have := HT.out.2.2.2.2.1; rw [World.size_alloc]; omega) ?_; intro v' w5 hr5 hg5 hn5 hb5; obtain ⟨a5, c5, rfl⟩ := ownsRow_slice hr5; have hcw : Chg [] wq w5 := HT.out.2.2.2.2.2.grown hg5 (fun i hi => .inr (row_beyond HT.out.1 hi).1); obtain ⟨x0, x1⟩ := cells2 (hcw.heap H5.out.2.1 (by simp)); have HW := Lib.hid (And.intro hr5 (And.intro hcw (hcw.heap H5.out.1 (by simp)))); clear hr5 hg5 hn5 hb5 hcw)
              have hcw5 := H5.out.2.2.tr HW.out.2.1
              have hp := nullRule_any w5 a1 n1 c1 a2 n2 c2 g (H.out.1.keep hcw5.kp) H.out.2.1 q
              rw [HP.out.2.1] at hp
              refine hp.mono ?_
              rintro e w6 ⟨rfl, hc6⟩
              have hcw6 := hcw5.tr hc6
              have hB6 := hc6.heap HW.out.2.2 (by simp)
              have hb6 := hc6.heap (HW.out.2.1.heap H5.out.2.1 (by simp)) (by simp)
              clear hp x0 x1 hcw5
              obtain ⟨x0, x1⟩ := cells2 hb6
              obtain ⟨hir, hbd⟩ := HB.out
              obtain ⟨b1, o1, rfl, y0, y1⟩ := (H.out.1.rules.keep hcw6.kp) q hir
              rw [hbd] at y1
              have hbl := HP.out.2.2.2.1
              have hcb := rowB_cell hB6 (i := b) (x := mayG g b) (by rw [mayAt_at g hbl]; simp [mayG])
              rw [HP.out.2.2.1] at hcb
              have hbn : b < n2 := by have := H.out.2.2.2; omega
              have H6 := Lib.hid (And.intro hcw6 hc6)
              clear hcw6 hB6 hb6 hbd hbl hc6 y0
              clear hir
              by_cases hz0 : 0 < z
              · rw [decide_eq_true hz0] at hcb
                have hzi : (0 : Int) < z := by omega
                go_wp2_with fail
                go_roundg (n1 - (q + 1))
                case measure => omega
                case rel =>
                  refine ⟨q + 1, max hi z, q + 1, a5, c5, rfl, by omega, by go_num, by congr 1; omega, rfl, by omega, rfl, Lib.hid ⟨HW.out.2.1.tr H6.out.2, ?_⟩⟩
                  have hrw := H6.out.2.row HW.out.1 (fun _ _ => by simp)
                  rw [FreshInts, rankAt_len, rankAt_succ, List.map_append, ← HP.out.1]
                  exact hrw
              · rw [decide_eq_false hz0] at hcb
                obtain rfl : z = 0 := by omega
                go_wp2_with fail
                go_roundg (n1 - (q + 1))
                case measure => omega
                case rel =>
                  refine ⟨q + 1, max hi 0, q + 1, a5, c5, rfl, by omega, by go_num, by congr 1; omega, rfl, by omega, rfl, Lib.hid ⟨HW.out.2.1.tr H6.out.2, ?_⟩⟩
                  have hrw := H6.out.2.row HW.out.1 (fun _ _ => by simp)
                  rw [FreshInts, rankAt_len, rankAt_succ, List.map_append, ← HP.out.1]
                  exact hrw
            · obtain rfl : q = n1 := by omega
              have hRi : Ints ws ra (ranksL g g.rules.length) := by
                have := (ownInts_read (FreshInts.own hin2.out.2)).1
                rw [H.out.2.2.1, rankAt_end] at this
                exact this
              have HS := Lib.hid (And.intro hRi (And.intro hcs (And.intro hbs (hin2.out.1.heap H5.out.1 (by simp)))))
              clear hRi hcs hbs
              go_wp2_with fail
              clear x0 x1
              -- what each node's Kind says
              go_loopg [10] n2 (fun d iv wr => ∃ n : Nat, d = n2 - n ∧ n ≤ n2 ∧ iv = .int .i64 n ∧ Hid (Chg [] ws wr))
              case atStart => exact ⟨0, rfl, Nat.zero_le _, rfl, Lib.hid (Chg.refl _ _)⟩
              case round =>
                obtain ⟨n, rfl, hn, rfl, hin4⟩ := hrel
                obtain ⟨wt, rfl⟩ : ∃ wz, wz = wr := ⟨_, rfl⟩
                obtain ⟨x0, x1⟩ := cells2 (hin4.out.heap HS.out.2.2.1 (by simp))
                by_cases hnn : n < n2
                · have hnl : n < g.nodes.length := by have := H.out.2.2.2; omega
                  have hct := HS.out.2.1.tr hin4.out
                  have hBt := hin4.out.heap HS.out.2.2.2 (by simp)
                  have hcb := rowB_cell hBt (i := n) (x := mayG g n) (by rw [mayAt_at g hnl]; simp [mayG])
                  have cA := calls_rg (w := wt) (fun w1 h1 => says_any w1 a1 q c1 a2 n2 c2 g (H.out.1.keep (hct.tr h1).kp) n hnl w3.heap.size (mayAt g g.rules.length 0) (h1.heap hBt (by simp)) (by rw [mayAt_len, H.out.2.2.2]) ra q rc (ranksL g g.rules.length) (HS.out.1.keep (hin4.out.tr h1).kp) (by rw [ranksL_len, H.out.2.2.1])
                    (fun z hz => by have := right_kids HR.out hnl z hz; have := H.out.2.2.2; omega) (fun h5 => by have := right_calls HR.out _ (List.getElem_mem hnl) h5; have := H.out.2.2.1; omega))
                  rw [callsL_ranks, say_may0 HR.out hnl] at cA
                  have cB := calls_rg (w := wt) (fun w1 h1 => nullNode_any w1 a1 q c1 a2 n2 c2 g (H.out.1.keep (hct.tr h1).kp) H.out.2.1 n)
                  have hnI : nodeI g n = mayG g n := by simp [nodeI, HR.out, hnl]
                  rw [hnI] at cB
                  have hmr : mayR g g.rules.length n = mayG g n := rfl
                  rw [hmr] at cA
                  obtain ⟨b, hb⟩ : ∃ b, b = mayG g n := ⟨_, rfl⟩
                  rw [← hb] at cA cB hcb
                  have kx0 := cell_rg x0
                  have kx1 := cell_rg x1
                  have kb := cell_rg hcb
                  clear hnl hct hBt hcb hnI hmr hb
                  cases b
                  all_goals go_wp2_with fail
                  all_goals refine wp_region_quiet_below (by kernel_rfl) (by kernel_rfl) ?_
                  all_goals repeat (go_big_quiet_step (first | (with_reducible exact cA _ _) | (with_reducible exact cB _ _)))
                  all_goals refine wpQuiet_nil ?_
                  all_goals intro wz hwz
                  all_goals have hcz := chg_of_rg hwz
                  all_goals clear hwz kx0 kx1 kb cA cB x0 x1
                  all_goals go_wp2_with fail
                  all_goals go_roundg (n2 - (n + 1))
                  case measure => omega
                  case rel => exact ⟨n + 1, rfl, by omega, by go_num, Lib.hid (hin4.out.tr hcz)⟩
                  case measure => omega
                  case rel => exact ⟨n + 1, rfl, by omega, by go_num, Lib.hid (hin4.out.tr hcz)⟩
                · obtain rfl : n = n2 := by omega
                  have hsteps := steps_any wt a1 q c1 a2 n c2 g (H.out.1.keep (HS.out.2.1.tr hin4.out).kp) HR.out ra rc (HS.out.1.keep hin4.out.kp) hi hhi
                  go_wp2_with fail
                  refine hsteps.mono ?_
                  rintro e wu ⟨rfl, hcu⟩
                  have HU := Lib.hid ((HS.out.2.1.tr hin4.out).tr hcu)
                  clear hcu hsteps x0 x1
                  go_wp2_with fail
                  go_ret
                  exact ⟨rfl, HU.out⟩
end Go.Proofs.Ytibgfgfmljhimaa

/-
  Layer 11: by the rules of ranks below each number do just those of ranks up to it: the law's test.
  Conditions: the grammar is right and reads as data.
-/
import Derived.Test.YtibgfgfmljhimaaNN1
set_option linter.unusedVariables false
set_option linter.unusedSimpArgs false
set_option linter.unnecessarySimpa false
namespace Go.Proofs.Ytibgfgfmljhimaa
open Go.RowKit Go.MapKept Go.Shelf

/-! ### Lists -/
/-- The ranks below r, of the first i rules. -/
def lowAt (g : Gr) (r i : Nat) : List Int := (List.range g.rules.length).map fun j => if j < i ∧ rankG g j < r then (rankG g j : Int) else 0
theorem lowAt_len (g : Gr) (r i : Nat) : (lowAt g r i).length = g.rules.length := by simp [lowAt]
theorem lowAt_zero (g : Gr) (r : Nat) : lowAt g r 0 = List.replicate g.rules.length 0 := by
  apply List.ext_getElem
  · simp [lowAt]
  · intro j h1 h2; simp [lowAt]
theorem lowAt_put (g : Gr) {r i : Nat} (h : rankG g i < r) : (lowAt g r i).set i (rankG g i : Int) = lowAt g r (i + 1) := by
  apply List.ext_getElem
  · simp [lowAt]
  · intro j h1 h2
    rw [List.getElem_set]
    simp only [lowAt, List.getElem_map, List.getElem_range]
    by_cases hj : i = j
    · subst hj; rw [if_pos rfl, if_pos ⟨by omega, h⟩]
    · rw [if_neg hj]
      by_cases hji : j < i
      · simp [hji, show j < i + 1 by omega]
      · simp [hji, show ¬ j < i + 1 by omega]
theorem lowAt_skip (g : Gr) {r i : Nat} (h : ¬ rankG g i < r) : lowAt g r i = lowAt g r (i + 1) := by
  apply List.ext_getElem
  · simp [lowAt]
  · intro j h1 h2
    simp only [lowAt, List.getElem_map, List.getElem_range]
    by_cases hji : j < i
    · simp [hji, show j < i + 1 by omega]
    · by_cases hj : j = i
      · subst hj; rw [if_neg (by omega), if_neg (by omega)]
      · rw [if_neg (by omega), if_neg (by omega)]
theorem lowAt_end (g : Gr) {r : Nat} (h1 : 1 ≤ r) (h2 : r ≤ g.rules.length + 1) : lowAt g r g.rules.length = ranksL g (r - 1) := by
  apply List.ext_getElem
  · simp [lowAt, ranksL]
  · intro j h3 h4
    have hj : j < g.rules.length := by simpa [lowAt] using h3
    simp only [lowAt, ranksL, List.getElem_map, List.getElem_range]
    have := rk_at (g := g) (m := g.rules.length) (i := j) (j := r - 1) (by omega)
    rw [this]
    unfold rankG
    by_cases hr : rk g g.rules.length j < r
    · rw [if_pos ⟨hj, hr⟩, if_pos (by omega)]
    · rw [if_neg (by omega), if_neg (by omega)]; rfl
/-- What nodes may from m on, the others told as if they did not. -/
def mayAt (g : Gr) (r m : Nat) : List Bool := (List.range g.nodes.length).map fun (j : Nat) => decide (m ≤ j) && mayR g r j
theorem mayAt_len (g : Gr) (r m : Nat) : (mayAt g r m).length = g.nodes.length := by simp [mayAt]
theorem mayAt_start (g : Gr) (r : Nat) : mayAt g r g.nodes.length = List.replicate g.nodes.length false := by
  apply List.ext_getElem
  · simp [mayAt]
  · intro j h1 h2
    have hj : j < g.nodes.length := by simpa [mayAt] using h1
    simp [mayAt, show ¬ g.nodes.length ≤ j by omega]
theorem mayAt_set (g : Gr) (r m : Nat) : (mayAt g r (m + 1)).set m (mayR g r m) = mayAt g r m := by
  apply List.ext_getElem
  · simp [mayAt]
  · intro j h1 h2
    rw [List.getElem_set]
    simp only [mayAt, List.getElem_map, List.getElem_range]
    by_cases hj : m = j
    · subst hj; simp
    · rw [if_neg hj]
      congr 1
      rw [decide_eq_decide]
      omega
theorem mayAt_at (g : Gr) {r m j : Nat} (hj : j < g.nodes.length) : (mayAt g r m)[j]? = some (decide (m ≤ j) && mayR g r j) := by simp [mayAt, hj]
theorem atB_may (g : Gr) {r m : Nat} {k : Int} (h1 : (m : Int) ≤ k) (h2 : k < g.nodes.length) : atB (mayAt g r m) k = mayR g r k := by
  obtain ⟨j, rfl⟩ : ∃ j : Nat, k = j := ⟨k.toNat, by omega⟩
  simp only [atB, Int.toNat_natCast]
  rw [mayAt_at g (by omega)]
  simp; omega
/-- What the Kind says is what may. -/
theorem say_may {g : Gr} (h : rightB g = true) {r n : Nat} (hn : n < g.nodes.length) : kindSay g.nodes[n] (callsR g r) (atB (mayAt g r (n + 1))) = mayR g r n := by
  rw [kindSay_may (right_kind h hn), mayR, mayN_eq (falls_right h) _ hn]
  refine kindMay_congr rfl (fun k hk => ?_)
  obtain ⟨k1, k2⟩ := right_kids h hn k hk
  exact atB_may g (by omega) k2

set_option maxRecDepth 100000 in
set_option maxHeartbeats 8000000 in
theorem steps_any (w : World) (a1 : Option Addr) (n1 c1 : Nat) (a2 : Option Addr) (n2 c2 : Nat) (g : Gr) (hg : GramAt w a1 n1 c1 a2 n2 c2 g) (hr : rightB g = true) (ra : Option Addr) (rc : Nat) (hrs : Ints w ra (ranksL g g.rules.length)) (high : Nat) (hh : high ≤ n1) :
    Calls Try.prog 48 #[.agg #[.slice a1 n1 c1, .slice a2 n2 c2], .slice ra n1 rc, .int .i64 high] w fun e w' => e = .returned (.bool true) ∧ Chg [] w w' := by
  have hn1 : n1 ≤ 32 := by have := (right_sizes hr).2.1; have := hg.e1; omega
  have hn2 : n2 ≤ 2048 := by have := (right_sizes hr).2.2; have := hg.e2; omega
  have H := Lib.hid (And.intro hg (And.intro hr (And.intro hrs (And.intro hg.e1 hg.e2))))
  clear hg hr hrs
  go_enter Try.func48, Try.ntmps48
  go_wp2_with fail
  have hbx := heap_alloc_same w (.cells #[.slice a1 n1 c1, .slice a2 n2 c2] 25)
  have HX := Lib.hid hbx
  clear hbx
  go_loopg [7] (high + 1) (fun d iv wr => ∃ r : Nat, d = high + 2 - r ∧ 1 ≤ r ∧ r ≤ high + 2 ∧ iv = .int .i64 r ∧ Hid (Chg [] (w.alloc (.cells #[.slice a1 n1 c1, .slice a2 n2 c2] 25)) wr))
  case atStart => exact ⟨1, rfl, Nat.le_refl _, by omega, rfl, Lib.hid (Chg.refl _ _)⟩
  case round =>
    obtain ⟨r, rfl, hr1, hr2, rfl, hin⟩ := hrel
    obtain ⟨wq, rfl⟩ : ∃ wq, wq = wr := ⟨_, rfl⟩
    obtain ⟨x0, x1⟩ := cells2 (hin.out.heap HX.out (by simp))
    by_cases hlt : r < high + 2
    · have hz := run_zeros n1 (by omega)
      go_wp2_with fail
      clear hz
      -- the ranks below r
      go_loopg [9] n1 (fun d iv wr => ∃ i : Nat, d = n1 - i ∧ i ≤ n1 ∧ iv = .int .i64 i ∧ Hid (Chg [] wq wr ∧ wr.heap[wq.heap.size]? = some (rowOf n1 (lowAt g r i))))
      case atStart => exact ⟨0, rfl, Nat.zero_le _, rfl, Lib.hid ⟨(Chg.refl _ _).alloc _, by rw [lowAt_zero, ← H.out.2.2.2.1]; exact heap_alloc_same _ _⟩⟩
      case round =>
        obtain ⟨i, rfl, hi, rfl, hin2⟩ := hrel
        obtain ⟨wl, rfl⟩ : ∃ wz, wz = wr := ⟨_, rfl⟩
        by_cases hil : i < n1
        · have hir : i < g.rules.length := by have := H.out.2.2.2.1; omega
          have hil2 : i < (ranksL g g.rules.length).length := by rw [ranksL_len]; exact hir
          obtain ⟨br, orr, rfl, hz⟩ := H.out.2.2.1 i hil2
          obtain ⟨z, hzz⟩ : ∃ z, z = rankG g i := ⟨_, rfl⟩
          have hze : (ranksL g g.rules.length)[i] = (z : Int) := by simp [ranksL, hzz, rankG]
          rw [hze] at hz
          have hz := (((Chg.refl [] w).alloc _).tr (hin.out.tr hin2.out.1)).cell hz (by simp)
          have hc0 := row_cell hin2.out.2 (i := i) (x := (lowAt g r i)[i]'(by rw [lowAt_len]; exact hir)) (List.getElem?_eq_getElem _)
          have hf0 := row_free hin2.out.2 i
          have HZ := Lib.hid (And.intro hzz hir)
          obtain ⟨u, hu⟩ : ∃ u, u = (lowAt g r i)[i]'(by rw [lowAt_len]; exact hir) := ⟨_, rfl⟩
          rw [← hu] at hc0
          clear hzz hze hil2 hu
          by_cases hzr : z < r
          · go_wp2_with fail
            go_roundg (n1 - (i + 1))
            case measure => omega
            case rel =>
              refine ⟨i + 1, rfl, by omega, by go_num, Lib.hid ⟨hin2.out.1.setCell (p := ⟨wq.heap.size, i, none⟩) (.inr (Nat.le_refl _)) _, ?_⟩⟩
              rw [← lowAt_put g (i := i) (by rw [← HZ.out.1]; exact hzr), ← HZ.out.1]
              exact row_set _ hin2.out.2
          · have hzr' : (r : Int) ≤ z := by omega
            go_wp2_with fail
            go_roundg (n1 - (i + 1))
            case measure => omega
            case rel =>
              refine ⟨i + 1, rfl, by omega, by go_num, Lib.hid ⟨hin2.out.1, ?_⟩⟩
              rw [← lowAt_skip g (i := i) (by rw [← HZ.out.1]; exact hzr)]
              exact hin2.out.2
        · obtain rfl : i = n1 := by omega
          have hlow : wl.heap[wq.heap.size]? = some (rowOf i (ranksL g (r - 1))) := by
            rw [← lowAt_end g hr1 (by have := H.out.2.2.2.1; omega), ← H.out.2.2.2.1]
            exact hin2.out.2
          obtain ⟨x0', x1'⟩ := cells2 ((hin.out.tr hin2.out.1).heap HX.out (by simp))
          have hz := run_falses n2 (by omega)
          have hbl := lt_of_block ((hin.out.tr hin2.out.1).heap HX.out (by simp))
          have HL := Lib.hid (And.intro hlow hin2.out.1)
          clear hlow
          go_wp2_with fail
          clear hz
          obtain ⟨w5, e5⟩ : ∃ w5, w5 = wl.alloc (rowB (List.replicate n2 false)) := ⟨_, rfl⟩
          have hc5 : Chg [] wl w5 := by rw [e5]; exact (Chg.refl _ _).alloc _
          have hB5 : w5.heap[wl.heap.size]? = some (rowB (mayAt g (r - 1) n2)) := by
            rw [e5, H.out.2.2.2.2, mayAt_start, ← H.out.2.2.2.2]
            exact heap_alloc_same _ _
          rw [← e5]
          have HM := Lib.hid (And.intro hB5 (And.intro hc5 (hc5.heap HL.out.1 (by simp))))
          have hRB : wq.heap.size < wl.heap.size := lt_of_block HL.out.1
          clear e5 hB5 hc5 x0 x1 x0' x1' hbl
          obtain ⟨bb, hbb⟩ : ∃ bb, bb = decide ((r : Int) ≤ (high : Int) + 1) := ⟨_, rfl⟩
          rw [← hbb]
          clear hbb
          -- the nodes, from the last one on
          go_loopg [11] n2 (fun d iv wr => ∃ m : Nat, d = m ∧ m ≤ n2 ∧ iv = .int .i64 ((m : Int) - 1) ∧ Hid (Chg [wl.heap.size] w5 wr ∧ wr.heap[wl.heap.size]? = some (rowB (mayAt g (r - 1) m))))
          case atStart => exact ⟨n2, rfl, Nat.le_refl _, rfl, Lib.hid ⟨Chg.refl _ _, HM.out.1⟩⟩
          case round =>
            obtain ⟨m, hdm, hm, rfl, hin3⟩ := hrel
            have HDM := Lib.hid hdm
            clear hdm
            obtain ⟨ws, rfl⟩ : ∃ wz, wz = wr := ⟨_, rfl⟩
            have hcws : Chg [] (w.alloc (.cells #[.slice a1 i c1, .slice a2 n2 c2] 25)) ws := ((hin.out.tr HL.out.2).tr HM.out.2.1).trans hin3.out.1 (fun j hj => .inr (by have := (hin.out.tr HL.out.2).size; simp at hj; omega))
            have hbxs := hcws.heap HX.out (by simp)
            obtain ⟨x0, x1⟩ := cells2 hbxs
            cases m with
            | zero => 
              rw [show ((0 : Nat) : Int) - 1 = -1 from rfl]
              have HS := Lib.hid (And.intro hcws hbxs)
              have hsz : wl.heap.size < ws.heap.size := lt_of_block hin3.out.2
              clear hcws hbxs
              go_wp2_with fail
              go_loopg [12] i (fun d iv wr => ∃ k : Nat, d = i - k ∧ k ≤ i ∧ iv = .int .i64 k ∧ Hid (Chg [] ws wr))
              case atStart => exact ⟨0, rfl, Nat.zero_le _, rfl, Lib.hid (Chg.refl _ _)⟩
              case round =>
                obtain ⟨k, rfl, hk, rfl, hin4⟩ := hrel
                obtain ⟨wt, rfl⟩ : ∃ wz, wz = wr := ⟨_, rfl⟩
                obtain ⟨x0, x1⟩ := cells2 (hin4.out.heap HS.out.2 (by simp))
                by_cases hki : k < i
                · have hkr : k < g.rules.length := by have := H.out.2.2.2.1; omega
                  have hkl : k < (ranksL g g.rules.length).length := by rw [ranksL_len]; exact hkr
                  have hkp := (((Chg.refl [] w).alloc _).tr HS.out.1).tr hin4.out
                  obtain ⟨br, orr, rfl, hz⟩ := H.out.2.2.1 k hkl
                  obtain ⟨z, hzz⟩ : ∃ z, z = rankG g k := ⟨_, rfl⟩
                  have hze : (ranksL g g.rules.length)[k] = (z : Int) := by simp [ranksL, hzz, rankG]
                  rw [hze] at hz
                  replace hz := hkp.cell hz (by simp)
                  obtain ⟨b1, o1, rfl, y0, y1⟩ := (H.out.1.rules.keep hkp.kp) k hkr
                  obtain ⟨q, hq, hqn⟩ := right_body H.out.2.1 hkr
                  rw [hq] at y1
                  have hA := rank_upto (g := g) (i := k) (r := r - 1) hkr (by have := H.out.2.2.2.1; omega)
                  rw [hq, ← hzz, show r - 1 + 1 = r by omega] at hA
                  have hcq := rowB_cell (hin4.out.heap hin3.out.2 (by simp)) (i := q) (x := mayR g (r - 1) q) (by rw [mayAt_at g hqn]; simp)
                  rw [hA] at hcq
                  have kx0 := cell_rg x0
                  have ky1 := cell_rg y1
                  have kz := cell_rg hz
                  have kq := cell_rg hcq
                  have hqn2 : q < n2 := by have := H.out.2.2.2.2; omega
                  clear hzz hze hq hqn hA hkp hkl hkr y0 y1 hcq hz x1
                  by_cases hz0 : 0 < z
                  · by_cases hzr : z ≤ r
                    · rw [decide_eq_true (show 0 < z ∧ z ≤ r from ⟨hz0, hzr⟩)] at kq
                      go_wp2_with fail
                      refine wp_region_quiet_below (by kernel_rfl) (by kernel_rfl) ?_
                      repeat (go_big_quiet_step (fail))
                      refine wpQuiet_nil ?_
                      intro w4 hw4
                      have hc4 := chg_of_rg hw4
                      clear hw4 kx0 ky1 kz kq x0
                      go_wp2_with fail
                      go_roundg (i - (k + 1))
                      case measure => omega
                      case rel => exact ⟨k + 1, rfl, by omega, by go_num, Lib.hid (hin4.out.tr hc4)⟩
                    · rw [decide_eq_false (fun h => hzr h.2)] at kq
                      have hzr' : (r : Int) < z := by omega
                      go_wp2_with fail
                      refine wp_region_quiet_below (by kernel_rfl) (by kernel_rfl) ?_
                      repeat (go_big_quiet_step (fail))
                      refine wpQuiet_nil ?_
                      intro w4 hw4
                      have hc4 := chg_of_rg hw4
                      clear hw4 kx0 ky1 kz kq x0
                      go_wp2_with fail
                      go_roundg (i - (k + 1))
                      case measure => omega
                      case rel => exact ⟨k + 1, rfl, by omega, by go_num, Lib.hid (hin4.out.tr hc4)⟩
                  · obtain rfl : z = 0 := by omega
                    rw [decide_eq_false (fun h => hz0 h.1)] at kq
                    go_wp2_with fail
                    refine wp_region_quiet_below (by kernel_rfl) (by kernel_rfl) ?_
                    repeat (go_big_quiet_step (fail))
                    refine wpQuiet_nil ?_
                    intro w4 hw4
                    have hc4 := chg_of_rg hw4
                    clear hw4 kx0 ky1 kz kq x0
                    go_wp2_with fail
                    go_roundg (i - (k + 1))
                    case measure => omega
                    case rel => exact ⟨k + 1, rfl, by omega, by go_num, Lib.hid (hin4.out.tr hc4)⟩
                · obtain rfl : k = i := by omega
                  go_wp2_with fail
                  go_roundg (high + 2 - (r + 1))
                  case measure => omega
                  case rel =>
                    exact ⟨r + 1, rfl, by omega, by omega, by go_num, Lib.hid (HS.out.1.tr hin4.out)⟩
            | succ m =>
              have e1 : ((m + 1 : Nat) : Int) - 1 = (m : Int) := by omega
              rw [e1]
              have hmn : m < g.nodes.length := by have := H.out.2.2.2.2; omega
              have hsay := says_any ws a1 i c1 a2 n2 c2 g (H.out.1.keep (((Chg.refl [] w).alloc _).tr hcws).kp) m hmn wl.heap.size (mayAt g (r - 1) (m + 1)) hin3.out.2 (by rw [mayAt_len, H.out.2.2.2.2]) (some ⟨wq.heap.size, 0, none⟩) i i (ranksL g (r - 1)) (row_ints (hin3.out.1.heap HM.out.2.2 (by simp; omega))) (by rw [ranksL_len, H.out.2.2.2.1])
                (fun z hz => by have := right_kids H.out.2.1 hmn z hz; have := H.out.2.2.2.2; omega) (fun h5 => by have := right_calls H.out.2.1 _ (List.getElem_mem hmn) h5; have := H.out.2.2.2.1; omega)
              rw [callsL_ranks, say_may H.out.2.1 hmn] at hsay
              obtain ⟨b, hb⟩ : ∃ b, b = mayR g (r - 1) m := ⟨_, rfl⟩
              rw [← hb] at hsay
              have HY := Lib.hid (And.intro hsay (And.intro hb (And.intro hcws hmn)))
              have hm2 : m < n2 := by omega
              clear hsay hb hcws hbxs hmn
              go_wp2_with fail
              refine HY.out.1.mono ?_
              rintro e wt ⟨rfl, hct⟩
              have hBt := hct.heap hin3.out.2 (by simp)
              obtain ⟨u, hu⟩ : ∃ u, (mayAt g (r - 1) (m + 1))[m]? = some u := ⟨_, List.getElem?_eq_getElem (by rw [mayAt_len]; exact HY.out.2.2.2)⟩
              have hcm := rowB_cell hBt hu
              have hfm := rowB_free hBt m
              have HT := Lib.hid (And.intro hct hBt)
              clear hct hBt hu x0 x1
              go_wp2_with fail
              go_roundg m
              case measure => have := HDM.out; omega
              case rel =>
                refine ⟨m, rfl, by omega, by go_num, Lib.hid ⟨(hin3.out.1.tr0 HT.out.1).setCell (p := ⟨wl.heap.size, m, none⟩) (.inl (by simp)) _, ?_⟩⟩
                rw [← mayAt_set g (r - 1) m, ← HY.out.2.1]
                exact rowB_set _ HT.out.2
    · obtain rfl : r = high + 2 := by omega
      go_wp2_with fail
      go_ret
      exact ⟨rfl, ((Chg.refl [] w).alloc _).tr hin.out⟩
end Go.Proofs.Ytibgfgfmljhimaa

/-
  The document's answer of layer 11: the ranks.
  Conditions: the grammar is right.
-/
import Derived.Test.YtibgfgfmljhimaaGreatQRf1
import Derived.Test.YtibgfgfmljhimaaGreatQGApp
import Derived.Test.YtibgfgfmljhimaaGreatQNN1
set_option linter.unusedVariables false
set_option linter.unusedSimpArgs false
set_option linter.unnecessarySimpa false
namespace Go.Proofs.YtibgfgfmljhimaaGreat
open Go.RowKit Go.MapKept Go.Shelf

/-- Ranks in the round behind the j-th, the first i rules gone through. -/
def rkAt (g : Gr) (j i : Nat) : List Int := (List.range g.rules.length).map fun (q : Nat) => ((if q < i then rk g (j + 1) q else rk g j q : Nat) : Int)
theorem rkAt_len (g : Gr) (j i : Nat) : (rkAt g j i).length = g.rules.length := by simp [rkAt]
theorem rkAt_get (g : Gr) (j i : Nat) {q : Nat} (hq : q < g.rules.length) : (rkAt g j i)[q]? = some (((if q < i then rk g (j + 1) q else rk g j q : Nat) : Int)) := by simp [rkAt, hq]
theorem rkAt_calls (g : Gr) (j i : Nat) : callsB (rkAt g j i) ((j : Int) + 1) = callsR g j := by
  funext q
  unfold callsB callsR
  by_cases hq : 0 ≤ q
  · rw [decide_eq_true hq, Bool.true_and, Bool.true_and]
    by_cases hl : q.toNat < g.rules.length
    · rw [rkAt_get g j i hl]
      simp only
      have hle := rk_le g j q.toNat
      split
      · rw [rk_step g j hl]
        split
        · rename_i h
          rw [h.1]
          simp
        · rw [Bool.eq_iff_iff]
          simp only [Bool.and_eq_true, decide_eq_true_eq]
          omega
      · rw [Bool.eq_iff_iff]
        simp only [Bool.and_eq_true, decide_eq_true_eq]
        omega
    · rw [rk_out g j (by omega)]
      have : (rkAt g j i)[q.toNat]? = none := by rw [List.getElem?_eq_none_iff, rkAt_len]; omega
      rw [this]
      rfl
  · rw [decide_eq_false hq]; rfl
theorem rkAt_next (g : Gr) (j : Nat) : rkAt g j g.rules.length = rkAt g (j + 1) 0 := by
  unfold rkAt
  refine List.map_congr_left fun q hq => ?_
  rw [if_pos (List.mem_range.1 hq), if_neg (Nat.not_lt_zero _)]
theorem rkAt_skip (g : Gr) (j i : Nat) (h : rk g (j + 1) i = rk g j i) : rkAt g j (i + 1) = rkAt g j i := by
  unfold rkAt
  refine List.map_congr_left fun q hq => ?_
  by_cases e : q = i
  · subst e; rw [if_pos (by omega), if_neg (by omega), h]
  · by_cases e2 : q < i
    · rw [if_pos (by omega), if_pos e2]
    · rw [if_neg (by omega), if_neg e2]
theorem rkAt_put (g : Gr) (j i : Nat) (hi : i < g.rules.length) (h : rk g (j + 1) i = j + 1) : rkAt g j (i + 1) = (rkAt g j i).set i ((j : Int) + 1) := by
  apply List.ext_getElem
  · rw [List.length_set, rkAt_len, rkAt_len]
  · intro q h1 h2
    rw [List.getElem_set]
    simp only [rkAt, List.getElem_map, List.getElem_range]
    by_cases e : i = q
    · subst e; rw [if_pos (by omega), if_pos rfl, h]; rfl
    · rw [if_neg e]
      by_cases e2 : q < i
      · rw [if_pos (by omega), if_pos e2]
      · rw [if_neg (by omega), if_neg e2]

set_option maxRecDepth 100000 in
set_option maxHeartbeats 16000000 in
theorem refRanks_any (w : World) (a1 : Option Addr) (n1 c1 : Nat) (a2 : Option Addr) (n2 c2 : Nat) (g : Gr) (hg : GramAt w a1 n1 c1 a2 n2 c2 g) (hr : rightB g = true) :
    Calls Tryz.prog 89 #[.agg #[.slice a1 n1 c1, .slice a2 n2 c2]] w (ClonedInts w (ranksL g g.rules.length)) := by
  have hn32 : n1 ≤ 32 := by have := (right_sizes hr).2.1; have := hg.e1; omega
  have hmk := run_zeros n1 (by omega)
  have H := Lib.hid (And.intro hg (And.intro hr hg.e1))
  clear hg hr
  go_enter Tryz.func89, Tryz.ntmps89
  go_wp2_with fail
  obtain ⟨B, hB⟩ : ∃ B, B = w.heap.size + 1 := ⟨_, rfl⟩
  have h0 : ((w.alloc (.cells #[.slice a1 n1 c1, .slice a2 n2 c2] 25)).alloc (rowOf n1 (List.replicate n1 0))).ownsRow w.heap.size 3 1 (.slice (some ⟨B, 0, none⟩) n1 n1) n1 ((rkAt g 0 0).map (Value.int .i64)) := by
    have he := H.out.2.2
    have e1 : rkAt g 0 0 = List.replicate n1 0 := by
      apply List.ext_getElem
      · rw [rkAt_len, List.length_replicate, he]
      · intro q h1 h2
        simp [rkAt, rk]
    have h2 := heap_alloc_same (w.alloc (.cells #[.slice a1 n1 c1, .slice a2 n2 c2] 25)) (rowOf n1 (List.replicate n1 0))
    rw [World.size_alloc, ← hB] at h2
    rw [e1]
    exact ⟨by simp, .inr ⟨B, n1, _, rfl, by omega, h2, Nat.le_refl _, by simp only [maxLen]; omega, by simp, by simp⟩⟩
  have hb0 : ((w.alloc (.cells #[.slice a1 n1 c1, .slice a2 n2 c2] 25)).alloc (rowOf n1 (List.replicate n1 0))).heap[w.heap.size]? = some (.cells #[.slice a1 n1 c1, .slice a2 n2 c2] 25 (0, 0)) := heap_alloc_lt (heap_alloc_same _ _) _
  have hc0 : Chg [] w ((w.alloc (.cells #[.slice a1 n1 c1, .slice a2 n2 c2] 25)).alloc (rowOf n1 (List.replicate n1 0))) := ((Chg.refl [] w).alloc _).alloc _
  obtain ⟨w0, e0⟩ : ∃ w0, w0 = ((w.alloc (.cells #[.slice a1 n1 c1, .slice a2 n2 c2] 25)).alloc (rowOf n1 (List.replicate n1 0))) := ⟨_, rfl⟩
  rw [← e0] at h0 hb0 hc0 ⊢
  rw [← hB]
  have H0 := Lib.hid (And.intro h0 (And.intro hb0 (And.intro hc0 hB)))
  clear e0 h0 hb0 hc0 hB hmk
  go_loopg [4] n1 (fun dd iv wr => ∃ j : Nat, dd = n1 - j ∧ j ≤ n1 ∧ iv = .int .i64 ((j : Int) + 1) ∧ Hid (wr.ownsRow w.heap.size 3 1 (.slice (some ⟨B, 0, none⟩) n1 n1) n1 ((rkAt g j 0).map (Value.int .i64)) ∧ wr.heap[w.heap.size]? = some (.cells #[.slice a1 n1 c1, .slice a2 n2 c2] 25 (0, 0)) ∧ Chg [] w wr))
  case atStart => exact ⟨0, rfl, Nat.zero_le _, rfl, Lib.hid ⟨H0.out.1, H0.out.2.1, H0.out.2.2.1⟩⟩
  case round =>
    obtain ⟨j, rfl, hj, rfl, hin⟩ := hrel
    obtain ⟨wq, rfl⟩ : ∃ wq, wq = wr := ⟨_, rfl⟩
    obtain ⟨x0, x1⟩ := cells2 hin.out.2.1
    by_cases hjl : j < n1
    · go_wp2_with fail
      rw [show decide ((j : Int) + 1 ≤ n1) = true from decide_eq_true (by omega)]
      clear x0 x1
      go_loopg [5] n1 (fun dd iv wr => ∃ i : Nat, dd = n1 - i ∧ i ≤ n1 ∧ iv = .int .i64 i ∧ Hid (wr.ownsRow w.heap.size 3 1 (.slice (some ⟨B, 0, none⟩) n1 n1) n1 ((rkAt g j i).map (Value.int .i64)) ∧ wr.heap[w.heap.size]? = some (.cells #[.slice a1 n1 c1, .slice a2 n2 c2] 25 (0, 0)) ∧ Chg [] w wr))
      case atStart => exact ⟨0, rfl, Nat.zero_le _, rfl, hin⟩
      case round =>
        obtain ⟨i, rfl, hi, rfl, hin2⟩ := hrel
        obtain ⟨wr, rfl⟩ : ∃ wz, wz = wr := ⟨_, rfl⟩
        obtain ⟨x0, x1⟩ := cells2 hin2.out.2.1
        by_cases hil : i < n1
        · have hig : i < g.rules.length := by rw [← H.out.2.2]; exact hil
          obtain ⟨hc, hf, -, -, hput⟩ := row_put hin2.out.1 (i := i) (by omega)
          rw [List.getElem?_map, rkAt_get g j i hig, if_neg (Nat.lt_irrefl _), Option.map_some] at hc
          have HP := Lib.hid (And.intro hput hig)
          clear hput
          obtain ⟨bR, oR, rfl, hn, hbd⟩ := (H.out.1.keep hin2.out.2.2.kp).rules i hig
          have kx0 := cell_rg x0
          have kx1 := cell_rg x1
          have kc := cell_rg hc
          have kb := cell_rg hbd
          have hi1 : (i : Int) < n1 := by omega
          have hlc := (H.out.1).le1
          have hi2 : (i : Int) < c1 := by omega
          by_cases hz : rk g j i = 0
          · obtain ⟨q, hq, hqn⟩ := right_body H.out.2.1 hig
            have hmay : mayN g.nodes (callsB (rkAt g j i) ((j : Int) + 1)) q = mayR g j g.rules[i].body := by rw [rkAt_calls, hq]; rfl
            have cA := calls_rg (w := wr) (fun w1 h1 => refMay_any (some ⟨bR, oR, none⟩) n1 c1 a2 n2 c2 g H.out.2.1 (some ⟨B, 0, none⟩) n1 n1 (rkAt g j i) (rkAt_len g j i) (by rw [rkAt_len]; exact H.out.2.2) ((j : Int) + 1) g.nodes.length q (by omega) hqn w1 (H.out.1.keep (hin2.out.2.2.tr h1).kp) (by
              have h9 : OwnInts wr (.slice (some ⟨B, 0, none⟩) n1 n1) (rkAt g j i) := by
                unfold OwnInts
                rw [rkAt_len, ← H.out.2.2]
                exact row_base hin2.out.1 (Nat.zero_le _)
              exact (ownInts_read h9).1.keep h1.kp))
            rw [hmay] at cA
            rw [hq] at kb
            rw [hz] at kc hc
            obtain ⟨fv, hfv⟩ : ∃ fv, fv = mayR g j g.rules[i].body := ⟨_, rfl⟩
            rw [← hfv] at cA
            have HK := Lib.hid (And.intro hfv hz)
            clear hfv hz hq hmay hqn hn hbd
            cases fv with
            | true =>
              go_wp2_with fail
              refine wp_region_quiet_below (by kernel_rfl) (by kernel_rfl) ?_
              repeat (go_big_quiet_step (with_reducible exact cA _ _))
              refine wpQuiet_nil ?_
              intro w7 hw7
              have hc7 := chg_of_rg hw7
              have hc9 := hc7.cell hc (by simp)
              obtain ⟨-, hf9, -, -, hput⟩ := row_put (hc7.row hin2.out.1 (fun _ _ => by simp)) (i := i) (by omega)
              have HW := Lib.hid (And.intro (hput (.int .i64 ((j : Int) + 1))) (And.intro (hc7.heap hin2.out.2.1 (by simp)) (hin2.out.2.2.tr hc7)))
              clear hw7 hc7 cA kx0 kx1 kc kb hc hf hput x0 x1
              go_wp2_with fail
              go_roundg (n1 - (i + 1))
              case measure => omega
              case rel =>
                obtain ⟨⟨p1, p2⟩, p3, p4⟩ := HW.out
                refine ⟨i + 1, rfl, by omega, by go_num, Lib.hid ⟨?_, p2.heap p3 (by have := H0.out.2.2.2; simp; omega), p4.trans p2 (fun y hy => .inr (by have := H0.out.2.2.2; simp at hy; omega))⟩⟩
                rw [rkAt_put g j i HP.out.2 (by rw [rk_step g j HP.out.2, if_pos ⟨HK.out.2, HK.out.1.symm⟩]), List.map_set]
                exact p1
            | false =>
              go_wp2_with fail
              refine wp_region_quiet_below (by kernel_rfl) (by kernel_rfl) ?_
              repeat (go_big_quiet_step (with_reducible exact cA _ _))
              refine wpQuiet_nil ?_
              intro w7 hw7
              have hc7 := chg_of_rg hw7
              have HW := Lib.hid (And.intro (hc7.row hin2.out.1 (fun _ _ => by simp)) (And.intro (hc7.heap hin2.out.2.1 (by simp)) (hin2.out.2.2.tr hc7)))
              clear hw7 hc7 cA kx0 kx1 kc kb hc hf x0 x1
              go_wp2_with fail
              go_roundg (n1 - (i + 1))
              case measure => omega
              case rel =>
                refine ⟨i + 1, rfl, by omega, by go_num, Lib.hid ⟨?_, HW.out.2.1, HW.out.2.2⟩⟩
                rw [rkAt_skip g j i (by rw [rk_step g j HP.out.2, if_neg (fun h => by rw [← HK.out.1] at h; exact absurd h.2 (by simp))])]
                exact HW.out.1
          · obtain ⟨z, hzz⟩ : ∃ z : Nat, z = rk g j i := ⟨_, rfl⟩
            rw [← hzz] at kc hc hz
            have hz1 : ¬ ((z : Int) = 0) := by omega
            have HK := Lib.hid (And.intro hzz hz)
            have hd : ((z : Int) == 0) = false := by simp; exact hz
            clear hzz hz hn
            go_wp2_with fail
            refine wp_region_quiet_below (by kernel_rfl) (by kernel_rfl) ?_
            repeat (go_big_quiet_step (fail))
            refine wpQuiet_nil ?_
            intro w7 hw7
            have hc7 := chg_of_rg hw7
            have HW := Lib.hid (And.intro (hc7.row hin2.out.1 (fun _ _ => by simp)) (And.intro (hc7.heap hin2.out.2.1 (by simp)) (hin2.out.2.2.tr hc7)))
            clear hw7 hc7 kx0 kx1 kc kb hc hf x0 x1 hbd
            go_wp2_with fail
            go_roundg (n1 - (i + 1))
            case measure => omega
            case rel =>
              refine ⟨i + 1, rfl, by omega, by go_num, Lib.hid ⟨?_, HW.out.2.1, HW.out.2.2⟩⟩
              rw [rkAt_skip g j i (by rw [rk_step g j HP.out.2, if_neg (fun h => HK.out.2 (HK.out.1.trans h.1))])]
              exact HW.out.1
        · obtain rfl : i = n1 := by omega
          have h9 := hin2.out.1
          have e9 : rkAt g j i = rkAt g (j + 1) 0 := by rw [← rkAt_next, ← H.out.2.2]
          rw [e9] at h9
          have HW := Lib.hid (And.intro h9 hin2.out.2)
          clear h9 e9
          go_wp2_with fail
          go_roundg (i - (j + 1))
          case measure => omega
          case rel => exact ⟨j + 1, rfl, by omega, by go_num, HW⟩
    · obtain rfl : j = n1 := by omega
      go_wp2_with fail
      go_ret
      obtain ⟨h1, h2, h3⟩ := hin.out
      have he := H.out.2.2
      have e9 : rkAt g j 0 = ranksL g g.rules.length := by
        unfold rkAt
        rw [he]
        simp [ranksL]
      rw [e9] at h1
      have hl : (ranksL g g.rules.length).length = j := by rw [← e9, rkAt_len, he]
      refine ⟨some ⟨B, 0, none⟩, j, congrArg (fun m => Ending.returned (.slice (some ⟨B, 0, none⟩) m j)) hl.symm, ?_, h3⟩
      unfold FreshInts
      rw [hl]
      exact h1
end Go.Proofs.YtibgfgfmljhimaaGreat

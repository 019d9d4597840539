/-
  The document's answer of layer 15: the idle nodes, whether a node is, the first one, whether the grammar is well.
  Conditions: none.
-/
import Derived.Test.YtibgfgfmljhimaaGreatWe9Rf3
import Derived.Test.YtibgfgfmljhimaaGreatWe9WeF
set_option linter.unusedVariables false
set_option linter.unusedSimpArgs false
set_option linter.unnecessarySimpa false
namespace Go.Proofs.YtibgfgfmljhimaaGreat
open Go.RowKit Go.MapKept Go.Shelf

theorem right_star {g : Gr} (h : rightB g = true) {n : Nat} (hn : n < g.nodes.length) (hk : g.nodes[n].k = 8) : g.nodes[n].kids.length = 1 := by
  have h1 := right_node h hn
  unfold nodeB nodeN at h1
  repeat' split at h1
  all_goals first | omega | (rw [Bool.and_eq_true, decide_eq_true_eq] at h1; exact h1.2) | cases h1
theorem idleL_few (g : Gr) : (idleL g).length ≤ 2048 := by
  unfold idleL
  split
  · rename_i h
    have := pickL_le g.nodes.length (idleB g)
    have := (right_sizes h).2.2
    omega
  · simp

set_option maxRecDepth 100000 in
set_option maxHeartbeats 16000000 in
theorem ref15All_any (w : World) (a1 : Option Addr) (n1 c1 : Nat) (a2 : Option Addr) (n2 c2 : Nat) (g : Gr) (hg : GramAt w a1 n1 c1 a2 n2 c2 g) :
    Calls Tryz.prog 76 #[.agg #[.slice a1 n1 c1, .slice a2 n2 c2]] w (ClonedInts w (idleL g)) := by
  obtain ⟨i0, hi0, hz0, hz1, hz2⟩ := info_parts Tryz.infoInt
  obtain ⟨A, hA⟩ : ∃ A, A = idleL g := ⟨_, rfl⟩
  rw [← hA]
  have hR := fun W (hW : Chg [] w W) => refRight_any W a1 n1 c1 a2 n2 c2 g (hg.keep hW.kp)
  have H := Lib.hid (And.intro hg (And.intro hg.e1 (And.intro hg.e2 hA)))
  clear hg hA
  go_enter Tryz.func76, Tryz.ntmps76
  cases hr : rightB g with
  | false =>
    rw [hr] at hR
    have hAv : A = [] := by rw [H.out.2.2.2, idleL, hr]; rfl
    subst hAv
    clear hr
    go_wp2_with fail
    refine (hR _ ((Chg.refl [] w).alloc _)).mono ?_
    rintro e w1 ⟨rfl, h1⟩
    have HC := Lib.hid (((Chg.refl [] w).alloc (.cells #[.slice a1 n1 c1, .slice a2 n2 c2] 25)).tr h1)
    clear h1 hR
    go_wp2_with fail
    go_ret
    exact ⟨none, 0, rfl, World.ownsRow_nil _ _ _ _, HC.out⟩
  | true =>
    rw [hr] at hR
    have hAv : A = pickL g.nodes.length (idleB g) := by rw [H.out.2.2.2, idleL, if_pos hr]
    have HR := Lib.hid (And.intro hr hAv)
    have hs := right_sizes hr
    have hN : n2 ≤ 2048 := by have := H.out.2.2.1; omega
    clear hr hAv hs
    go_wp2_with fail
    refine (hR _ ((Chg.refl [] w).alloc _)).mono ?_
    rintro e w1 ⟨rfl, h1⟩
    have hb := h1.heap (heap_alloc_same w (.cells #[.slice a1 n1 c1, .slice a2 n2 c2] 25)) (by simp)
    have HC := Lib.hid (And.intro (((Chg.refl [] w).alloc (.cells #[.slice a1 n1 c1, .slice a2 n2 c2] 25)).tr h1) hb)
    obtain ⟨x0, x1⟩ := cells2 hb
    clear h1 hR hb
    go_wp2_with fail
    refine (refRanks_any w1 a1 n1 c1 a2 n2 c2 g (H.out.1.keep HC.out.1.kp) HR.out.1).mono ?_
    rintro e w2 ⟨ra, rc, rfl, hf, h2⟩
    obtain ⟨rl, hrl⟩ : ∃ rl, rl = (ranksL g g.rules.length).length := ⟨_, rfl⟩
    have hrl1 : rl = g.rules.length := by rw [hrl, ranksL_len]
    rw [← hrl]
    have HZ := Lib.hid (And.intro (ownInts_read hf.own).1 (And.intro (HC.out.1.tr h2) (And.intro (h2.heap HC.out.2 (by simp)) hrl1)))
    clear hrl hrl1 hf h2 x0 x1
    go_wp2_with fail
    go_loopg [5, 4] n2 (fun dd iv lv wr => ∃ (i : Nat) (b : Option Addr) (d q : Nat), dd = n2 - i ∧ i ≤ n2 ∧ iv = .int .i64 i ∧ lv = .slice b q d ∧ q ≤ i ∧ Hid (q = (pickL i (idleB g)).length ∧ wr.ownsRow w2.heap.size 3 1 (.slice b q d) q ((pickL i (idleB g)).map (Value.int .i64)) ∧ Chg [] w2 wr))
    case atStart => exact ⟨0, none, 0, 0, rfl, Nat.zero_le _, rfl, rfl, Nat.le_refl _, Lib.hid ⟨rfl, World.ownsRow_nil _ _ _ _, Chg.refl _ _⟩⟩
    case round =>
      obtain ⟨i, b, d, q, rfl, hi, rfl, rfl, hqi, hin⟩ := hrel
      obtain ⟨wq, rfl⟩ : ∃ wq, wq = wr := ⟨_, rfl⟩
      obtain ⟨x0, x1⟩ := cells2 (hin.out.2.2.heap HZ.out.2.2.1 (by simp))
      by_cases hil : i < n2
      · have hig : i < g.nodes.length := by have := H.out.2.2.1; omega
        obtain ⟨fv, hfv⟩ : ∃ fv, fv = idleB g i := ⟨_, rfl⟩
        have hcg := HZ.out.2.1.tr hin.out.2.2
        obtain ⟨x, hx⟩ : ∃ x, x = g.nodes[i] := ⟨_, rfl⟩
        obtain ⟨bn, on, ak, nk, ck, rfl, hxa⟩ := (H.out.1.keep hcg.kp).nodes i hig
        rw [← hx] at hxa
        have hplus : x.k = 9 → x.kids.length = 1 := fun h => by rw [hx] at h ⊢; exact right_plus HR.out.1 hig h
        have hstar : x.k = 8 → x.kids.length = 1 := fun h => by rw [hx] at h ⊢; exact right_star HR.out.1 hig h
        have hfx : fv = ((decide (x.k = 8) || decide (x.k = 9)) && mayG g (x.kids.headD 0)) := by
          rw [hfv, idleB, List.getElem?_eq_getElem hig, ← hx]
        have hkids : ∀ z ∈ x.kids, (i : Int) < z ∧ z < g.nodes.length := fun z hz => right_kids HR.out.1 hig z (by rw [hx] at hz; exact hz)
        have hgr := H.out.1
        obtain ⟨p0, p1, p2, p3, p4, p5, p6, p7, p8, hnk, hle, hcap, hik⟩ := hxa
        have hbk := World.block_lt_of_cell? _ _ p0
        simp only at hbk
        have hc2 : n2 ≤ 9223372036854775807 := H.out.1.small.2
        have HQ := Lib.hid (And.intro hplus (And.intro hstar (And.intro hfx (And.intro hfv (And.intro hnk (And.intro hik (And.intro hcg hkids)))))))
        clear hplus hstar hfx hfv hnk hik hcg hkids hx hgr
        obtain ⟨xk, xc0, xc1, xc2, xc3, xs, xr, xl, xkids⟩ := x
        simp only at p0 p1 p2 p3 p4 p5 p6 p7
        obtain ⟨wn, en⟩ : ∃ wn, wn = wq.alloc (.cells #[.int .i64 xk, .int .u64 xc0, .int .u64 xc1, .int .u64 xc2, .int .u64 xc3, .string xs, .int .i64 xr, .int .i64 xl, .slice ak nk ck] 53) := ⟨_, rfl⟩
        have hcn : Chg [] wq wn := by rw [en]; exact (Chg.refl [] wq).alloc _
        have hbn : wn.heap[wq.heap.size]? = some (.cells #[.int .i64 xk, .int .u64 xc0, .int .u64 xc1, .int .u64 xc2, .int .u64 xc3, .string xs, .int .i64 xr, .int .i64 xl, .slice ak nk ck] 53 (0, 0)) := by rw [en]; exact heap_alloc_same _ _
        obtain ⟨BX, hBX⟩ : ∃ BX, BX = wq.heap.size := ⟨_, rfl⟩
        rw [← hBX] at hbn
        have HE := Lib.hid (And.intro en hBX)
        have HN := Lib.hid (And.intro hcn hbn)
        have hx0 := hcn.cell x0 (by simp)
        have hx1 := hcn.cell x1 (by simp)
        clear en hBX hcn hbn
        go_wp2_with fail
        rw [← HE.out.1, ← HE.out.2]
        clear x0 x1 p0 p1 p2 p3 p4 p5 p6 p7 p8
        obtain ⟨y0, y1, y2, y3, y4, y5, y6, y7, y8⟩ := cells9 HN.out.2
        have kx0 := cell_rg hx0
        have kx1 := cell_rg hx1
        have ky0 := cell_rg y0
        have ky8 := cell_rg y8
        clear hx0 hx1 y0 y1 y2 y3 y4 y5 y6 y7 y8
        by_cases h8 : xk = 8
        · subst h8
          obtain ⟨kv, hkv, hkl⟩ : ∃ kv, xkids = [kv] ∧ nk = 1 := by
            have h1 : xkids.length = 1 := HQ.out.2.1 rfl
            obtain ⟨kv, e⟩ := List.length_eq_one_iff.1 h1
            exact ⟨kv, e, by have := HQ.out.2.2.2.2.1; rw [this]; exact h1⟩
          subst hkv
          obtain ⟨bk, ok, rfl, hkc⟩ := (HQ.out.2.2.2.2.2.1.keep HN.out.1.kp) 0 (by simp)
          have hfe : fv = mayG g kv := by rw [HQ.out.2.2.1]; simp
          obtain ⟨kn, hkn, hknl⟩ : ∃ kn : Nat, kv = (kn : Int) ∧ kn < g.nodes.length := by
            have := HQ.out.2.2.2.2.2.2.2 kv (by simp)
            exact ⟨kv.toNat, by omega, by omega⟩
          have cA := calls_rg (w := wn) (fun w1 h1 => refMay_all w1 a1 n1 c1 _ n2 c2 g (H.out.1.keep (HQ.out.2.2.2.2.2.2.1.tr (HN.out.1.tr h1)).kp) HR.out.1 ra rl rc HZ.out.2.2.2 (HZ.out.1.keep (hin.out.2.2.tr (HN.out.1.tr h1)).kp) kn hknl)
          rw [← hkn, ← hfe] at cA
          simp only [List.getElem_cons_zero, Nat.add_zero] at hkc
          have kk := cell_rg hkc
          have hnk1 : 0 < nk := by omega
          clear hkn hknl hfe hkc hkl
          cases fv with
          | true =>
            go_wp2_with fail
            refine wp_region_quiet_below (by kernel_rfl) (by kernel_rfl) ?_
            repeat (go_big_quiet_step (with_reducible exact cA _ _))
            refine wpQuiet_nil ?_
            intro w7 hw7
            have h7 := chg_of_rg hw7
            have H7 := Lib.hid (And.intro (HN.out.1.tr h7) (hin.out.2.2.tr (HN.out.1.tr h7)))
            clear hw7 h7 kx0 kx1 ky0 ky8 cA kk
            have e1 : pickL (i + 1) (idleB g) = pickL i (idleB g) ++ [(i : Int)] := by rw [pickL_succ, if_pos HQ.out.2.2.2.1.symm]
            have HE1 := Lib.hid e1
            clear e1
            have h2' : q + 1 ≤ maxLen ∧ (q + 1) * 8 ≤ 140737488355328 := by simp only [maxLen]; omega
            have hcA := (Chg.refl [] w7).alloc (.cells #[.int .i64 (i : Int)] 3)
            have hrow := (H7.out.1.tr hcA).row hin.out.2.1 (fun _ _ => by simp)
            have hnew := cells_at (w := w7.alloc (.cells #[.int .i64 (i : Int)] 3)) (heap_alloc_same _ _)
            have h1' : ∀ u ∈ [Value.int .i64 (i : Int)], u.oneCell' = true := by simp [Value.oneCell']
            have HA := Lib.hid (And.intro hrow (And.intro hnew (And.intro h1' (And.intro h2' (And.intro (H7.out.2.tr hcA) (H7.out.2.tr hcA).size)))))
            clear hrow hnew h1' h2' hcA
            go_wp2_with (at_builtin; refine wpList_append_own_at _ rfl _ _ 48 rfl w2.heap.size 3 i0 _ 1 8 Tryz.underlying48 hi0 hz0 hz1 hz2 rfl (by decide) (.slice b q d) q _ rfl HA.out.1 ⟨w7.heap.size, 0, none⟩ 1 1 [.int .i64 (i : Int)] rfl rfl HA.out.2.1 HA.out.2.2.1 HA.out.2.2.2.1.1 HA.out.2.2.2.1.2 HA.out.2.2.2.2.2 ?_; intro v' w5 hr5 hg5 hn5 hb5; obtain ⟨a5, c5, rfl⟩ := ownsRow_slice hr5; have HX := Lib.hid (And.intro hr5 hg5); clear hr5 hg5 hn5 hb5)
            go_roundg (n2 - (i + 1))
            case measure => omega
            case rel =>
              refine ⟨i + 1, a5, c5, q + 1, rfl, by omega, by go_num, rfl, by omega, Lib.hid ⟨by rw [HE1.out, List.length_append, ← hin.out.1]; rfl, ?_, ?_⟩⟩
              · rw [HE1.out, List.map_append]
                exact HX.out.1
              · exact HA.out.2.2.2.2.1.grown HX.out.2 (fun y hy => .inr (row_beyond HA.out.1 hy).1)
          | false =>
            go_wp2_with fail
            refine wp_region_quiet_below (by kernel_rfl) (by kernel_rfl) ?_
            repeat (go_big_quiet_step (with_reducible exact cA _ _))
            refine wpQuiet_nil ?_
            intro w7 hw7
            have h7 := chg_of_rg hw7
            have H7 := Lib.hid (And.intro (HN.out.1.tr h7) (hin.out.2.2.tr (HN.out.1.tr h7)))
            clear hw7 h7 kx0 kx1 ky0 ky8 cA kk
            have e1 : pickL (i + 1) (idleB g) = pickL i (idleB g) := by rw [pickL_succ, if_neg (by rw [← HQ.out.2.2.2.1]; simp), List.append_nil]
            have HE1 := Lib.hid e1
            clear e1
            go_wp2_with fail
            go_roundg (n2 - (i + 1))
            case measure => omega
            case rel => exact ⟨i + 1, b, d, q, rfl, by omega, by go_num, rfl, by omega, Lib.hid ⟨by rw [HE1.out]; exact hin.out.1, by rw [HE1.out]; exact H7.out.1.row hin.out.2.1 (fun _ _ => by simp), H7.out.2⟩⟩
        by_cases h9 : xk = 9
        · subst h9
          obtain ⟨kv, hkv, hkl⟩ : ∃ kv, xkids = [kv] ∧ nk = 1 := by
            have h1 : xkids.length = 1 := HQ.out.1 rfl
            obtain ⟨kv, e⟩ := List.length_eq_one_iff.1 h1
            exact ⟨kv, e, by have := HQ.out.2.2.2.2.1; rw [this]; exact h1⟩
          subst hkv
          obtain ⟨bk, ok, rfl, hkc⟩ := (HQ.out.2.2.2.2.2.1.keep HN.out.1.kp) 0 (by simp)
          have hfe : fv = mayG g kv := by rw [HQ.out.2.2.1]; simp
          obtain ⟨kn, hkn, hknl⟩ : ∃ kn : Nat, kv = (kn : Int) ∧ kn < g.nodes.length := by
            have := HQ.out.2.2.2.2.2.2.2 kv (by simp)
            exact ⟨kv.toNat, by omega, by omega⟩
          have cA := calls_rg (w := wn) (fun w1 h1 => refMay_all w1 a1 n1 c1 _ n2 c2 g (H.out.1.keep (HQ.out.2.2.2.2.2.2.1.tr (HN.out.1.tr h1)).kp) HR.out.1 ra rl rc HZ.out.2.2.2 (HZ.out.1.keep (hin.out.2.2.tr (HN.out.1.tr h1)).kp) kn hknl)
          rw [← hkn, ← hfe] at cA
          simp only [List.getElem_cons_zero, Nat.add_zero] at hkc
          have kk := cell_rg hkc
          have hnk1 : 0 < nk := by omega
          clear hkn hknl hfe hkc hkl
          have e89 : ((9 : Int) == 8) = false := by decide
          cases fv with
          | true =>
            go_wp2_with fail
            refine wp_region_quiet_below (by kernel_rfl) (by kernel_rfl) ?_
            repeat (go_big_quiet_step (with_reducible exact cA _ _))
            refine wpQuiet_nil ?_
            intro w7 hw7
            have h7 := chg_of_rg hw7
            have H7 := Lib.hid (And.intro (HN.out.1.tr h7) (hin.out.2.2.tr (HN.out.1.tr h7)))
            clear hw7 h7 kx0 kx1 ky0 ky8 cA kk
            have e1 : pickL (i + 1) (idleB g) = pickL i (idleB g) ++ [(i : Int)] := by rw [pickL_succ, if_pos HQ.out.2.2.2.1.symm]
            have HE1 := Lib.hid e1
            clear e1
            have h2' : q + 1 ≤ maxLen ∧ (q + 1) * 8 ≤ 140737488355328 := by simp only [maxLen]; omega
            have hcA := (Chg.refl [] w7).alloc (.cells #[.int .i64 (i : Int)] 3)
            have hrow := (H7.out.1.tr hcA).row hin.out.2.1 (fun _ _ => by simp)
            have hnew := cells_at (w := w7.alloc (.cells #[.int .i64 (i : Int)] 3)) (heap_alloc_same _ _)
            have h1' : ∀ u ∈ [Value.int .i64 (i : Int)], u.oneCell' = true := by simp [Value.oneCell']
            have HA := Lib.hid (And.intro hrow (And.intro hnew (And.intro h1' (And.intro h2' (And.intro (H7.out.2.tr hcA) (H7.out.2.tr hcA).size)))))
            clear hrow hnew h1' h2' hcA
            go_wp2_with (at_builtin; refine wpList_append_own_at _ rfl _ _ 48 rfl w2.heap.size 3 i0 _ 1 8 Tryz.underlying48 hi0 hz0 hz1 hz2 rfl (by decide) (.slice b q d) q _ rfl HA.out.1 ⟨w7.heap.size, 0, none⟩ 1 1 [.int .i64 (i : Int)] rfl rfl HA.out.2.1 HA.out.2.2.1 HA.out.2.2.2.1.1 HA.out.2.2.2.1.2 HA.out.2.2.2.2.2 ?_; intro v' w5 hr5 hg5 hn5 hb5; obtain ⟨a5, c5, rfl⟩ := ownsRow_slice hr5; have HX := Lib.hid (And.intro hr5 hg5); clear hr5 hg5 hn5 hb5)
            go_roundg (n2 - (i + 1))
            case measure => omega
            case rel =>
              refine ⟨i + 1, a5, c5, q + 1, rfl, by omega, by go_num, rfl, by omega, Lib.hid ⟨by rw [HE1.out, List.length_append, ← hin.out.1]; rfl, ?_, ?_⟩⟩
              · rw [HE1.out, List.map_append]
                exact HX.out.1
              · exact HA.out.2.2.2.2.1.grown HX.out.2 (fun y hy => .inr (row_beyond HA.out.1 hy).1)
          | false =>
            go_wp2_with fail
            refine wp_region_quiet_below (by kernel_rfl) (by kernel_rfl) ?_
            repeat (go_big_quiet_step (with_reducible exact cA _ _))
            refine wpQuiet_nil ?_
            intro w7 hw7
            have h7 := chg_of_rg hw7
            have H7 := Lib.hid (And.intro (HN.out.1.tr h7) (hin.out.2.2.tr (HN.out.1.tr h7)))
            clear hw7 h7 kx0 kx1 ky0 ky8 cA kk
            have e1 : pickL (i + 1) (idleB g) = pickL i (idleB g) := by rw [pickL_succ, if_neg (by rw [← HQ.out.2.2.2.1]; simp), List.append_nil]
            have HE1 := Lib.hid e1
            clear e1
            go_wp2_with fail
            go_roundg (n2 - (i + 1))
            case measure => omega
            case rel => exact ⟨i + 1, b, d, q, rfl, by omega, by go_num, rfl, by omega, Lib.hid ⟨by rw [HE1.out]; exact hin.out.1, by rw [HE1.out]; exact H7.out.1.row hin.out.2.1 (fun _ _ => by simp), H7.out.2⟩⟩
        have hfe : fv = false := by rw [HQ.out.2.2.1]; simp [h8, h9]
        subst hfe
        have e8 : (xk == 8) = false := by simpa using h8
        have e9 : (xk == 9) = false := by simpa using h9
        go_wp2_with fail
        refine wp_region_quiet_below (by kernel_rfl) (by kernel_rfl) ?_
        repeat (go_big_quiet_step (fail))
        refine wpQuiet_nil ?_
        intro w7 hw7
        have h7 := chg_of_rg hw7
        have H7 := Lib.hid (And.intro (HN.out.1.tr h7) (hin.out.2.2.tr (HN.out.1.tr h7)))
        clear hw7 h7 kx0 kx1 ky0 ky8 e8 e9
        have e1 : pickL (i + 1) (idleB g) = pickL i (idleB g) := by rw [pickL_succ, if_neg (by rw [← HQ.out.2.2.2.1]; simp), List.append_nil]
        have HE1 := Lib.hid e1
        clear e1
        go_wp2_with fail
        go_roundg (n2 - (i + 1))
        case measure => omega
        case rel => exact ⟨i + 1, b, d, q, rfl, by omega, by go_num, rfl, by omega, Lib.hid ⟨by rw [HE1.out]; exact hin.out.1, by rw [HE1.out]; exact H7.out.1.row hin.out.2.1 (fun _ _ => by simp), H7.out.2⟩⟩
      · obtain rfl : n2 = i := by omega
        go_wp2_with fail
        go_ret
        have e1 : pickL n2 (idleB g) = A := by rw [HR.out.2, H.out.2.2.1]
        obtain ⟨h1, h2, h3⟩ := hin.out
        rw [e1] at h1 h2
        refine ⟨b, d, congrArg (fun m => Ending.returned (.slice b m d)) h1, ?_, HZ.out.2.1.tr h3⟩
        unfold FreshInts
        rw [← h1]
        exact row_base h2 HZ.out.2.1.size

set_option maxRecDepth 100000 in
set_option maxHeartbeats 4000000 in
theorem ref15Idle_any (w : World) (a1 : Option Addr) (n1 c1 : Nat) (a2 : Option Addr) (n2 c2 : Nat) (g : Gr) (hg : GramAt w a1 n1 c1 a2 n2 c2 g) (n : Int) :
    Calls Tryz.prog 74 #[.agg #[.slice a1 n1 c1, .slice a2 n2 c2], .int .i64 n] w fun e w' => e = .returned (.bool ((idleL g).contains n)) ∧ Chg [] w w' := by
  have hall := fun W (hW : Chg [] w W) => ref15All_any W a1 n1 c1 a2 n2 c2 g (hg.keep hW.kp)
  have hfew := idleL_few g
  obtain ⟨A, hA⟩ : ∃ A, A = idleL g := ⟨_, rfl⟩
  rw [← hA] at hall hfew ⊢
  clear hA hg
  have HW := Lib.hid hfew
  clear hfew
  go_enter Tryz.func74, Tryz.ntmps74
  go_wp2_with fail
  refine (hall _ ((Chg.refl [] w).alloc _)).mono ?_
  rintro e w1 ⟨ra, rc, rfl, hf, h1⟩
  obtain ⟨rl, hrl⟩ : ∃ rl, rl = A.length := ⟨_, rfl⟩
  rw [← hrl]
  have H := Lib.hid (And.intro (((Chg.refl [] w).alloc (.cells #[.slice a1 n1 c1, .slice a2 n2 c2] 25)).tr h1) (And.intro (ownInts_read hf.own).1 hrl))
  have hr2 : rl ≤ 2048 := by have := HW.out; omega
  clear h1 hf hrl hall
  go_wp2_with fail
  go_loopg [6] rl (fun dd iv wr => ∃ i : Nat, dd = rl - i ∧ i ≤ rl ∧ iv = .int .i64 i ∧ Hid (Chg [] w1 wr ∧ (A.take i).contains n = false))
  case atStart => exact ⟨0, rfl, Nat.zero_le _, rfl, Lib.hid ⟨Chg.refl _ _, rfl⟩⟩
  case round =>
    obtain ⟨i, rfl, hi, rfl, hin⟩ := hrel
    obtain ⟨wq, rfl⟩ : ∃ wz, wz = wr := ⟨_, rfl⟩
    by_cases hil : i < rl
    · have hiA : i < A.length := by have := H.out.2.2; omega
      obtain ⟨bz, oz, rfl, hc⟩ := (H.out.2.1.keep hin.out.1.kp) i hiA
      obtain ⟨z, hz⟩ : ∃ z, z = A[i] := ⟨_, rfl⟩
      rw [← hz] at hc
      have htk : A.take (i + 1) = A.take i ++ [z] := by rw [List.take_succ_eq_append_getElem hiA, ← hz]
      have hbz := World.block_lt_of_cell? _ _ hc
      simp only at hbz
      have hii : (i : Int) < rl := by omega
      have HT := Lib.hid (And.intro htk hz)
      clear htk hz
      by_cases hzn : z = n
      · have e1 : (z == n) = true := by simpa using hzn
        have hcon : A.contains n = true := by
          rw [List.contains_eq_mem, decide_eq_true_eq, ← hzn, HT.out.2]
          exact List.getElem_mem _
        have HC := Lib.hid hcon
        clear hzn hcon
        go_wp2_with fail
        go_ret
        exact ⟨by rw [HC.out]; first | rfl | simp, H.out.1.tr hin.out.1⟩
      · have e1 : (z == n) = false := by simpa using hzn
        have hcon : (A.take (i + 1)).contains n = false := by
          rw [HT.out.1]
          have h9 := hin.out.2
          simp only [List.contains_eq_mem, decide_eq_false_iff_not, List.mem_append, List.mem_singleton] at h9 ⊢
          rintro (h | h)
          · exact h9 h
          · exact hzn h.symm
        have HC := Lib.hid hcon
        clear hzn hcon
        go_wp2_with fail
        go_roundg (rl - (i + 1))
        case measure => omega
        case rel => exact ⟨i + 1, rfl, by omega, by go_num, Lib.hid ⟨hin.out.1, HC.out⟩⟩
    · obtain rfl : rl = i := by omega
      have hcon : A.contains n = false := by
        have h9 := hin.out.2
        rw [List.take_of_length_le (by rw [H.out.2.2]; exact Nat.le_refl _)] at h9
        exact h9
      have HC := Lib.hid hcon
      clear hcon
      go_wp2_with fail
      go_ret
      exact ⟨by rw [HC.out]; first | rfl | simp, H.out.1.tr hin.out.1⟩

set_option maxRecDepth 100000 in
set_option maxHeartbeats 4000000 in
theorem ref15Well_any (w : World) (a1 : Option Addr) (n1 c1 : Nat) (a2 : Option Addr) (n2 c2 : Nat) (g : Gr) (hg : GramAt w a1 n1 c1 a2 n2 c2 g) :
    Calls Tryz.prog 75 #[.agg #[.slice a1 n1 c1, .slice a2 n2 c2]] w fun e w' => e = .returned (.bool (wellB g)) ∧ Chg [] w w' := by
  have hall := fun W (hW : Chg [] w W) => ref15All_any W a1 n1 c1 a2 n2 c2 g (hg.keep hW.kp)
  have hR := fun W (hW : Chg [] w W) => refRight_any W a1 n1 c1 a2 n2 c2 g (hg.keep hW.kp)
  have hfew := idleL_few g
  unfold wellB
  obtain ⟨A, hA⟩ : ∃ A, A = idleL g := ⟨_, rfl⟩
  obtain ⟨r, hr⟩ : ∃ r, r = rightB g := ⟨_, rfl⟩
  rw [← hA] at hall hfew ⊢
  rw [← hr] at hR ⊢
  clear hA hr hg
  have HW := Lib.hid hfew
  clear hfew
  go_enter Tryz.func75, Tryz.ntmps75
  cases r with
  | false =>
    go_wp2_with fail
    refine (hR _ ((Chg.refl [] w).alloc _)).mono ?_
    rintro e w1 ⟨rfl, h1⟩
    have HC := Lib.hid (((Chg.refl [] w).alloc (.cells #[.slice a1 n1 c1, .slice a2 n2 c2] 25)).tr h1)
    clear h1 hR hall
    go_wp2_with fail
    go_ret
    exact ⟨rfl, HC.out⟩
  | true =>
    go_wp2_with fail
    refine (hR _ ((Chg.refl [] w).alloc _)).mono ?_
    rintro e w1 ⟨rfl, h1⟩
    have hb := h1.heap (heap_alloc_same w (.cells #[.slice a1 n1 c1, .slice a2 n2 c2] 25)) (by simp)
    have hc1 := ((Chg.refl [] w).alloc (.cells #[.slice a1 n1 c1, .slice a2 n2 c2] 25)).tr h1
    obtain ⟨x0, x1⟩ := cells2 hb
    have HC := Lib.hid hc1
    clear h1 hR hb
    go_wp2_with fail
    refine (hall w1 hc1).mono ?_
    rintro e w2 ⟨ra, rc, rfl, hf, h2⟩
    obtain ⟨rl, hrl⟩ : ∃ rl, rl = A.length := ⟨_, rfl⟩
    rw [← hrl]
    have H2 := Lib.hid (And.intro (HC.out.tr h2) hrl)
    have hr2 : rl ≤ 2048 := by have := HW.out; omega
    clear h2 hf hrl hall hc1 x0 x1
    by_cases h0 : rl = 0
    · have hA : A = [] := List.eq_nil_of_length_eq_zero (by rw [← H2.out.2]; exact h0)
      subst hA
      subst h0
      go_wp2_with fail
      go_ret
      exact ⟨rfl, H2.out.1⟩
    · have hA : A.isEmpty = false := by
        cases A with
        | nil => exact absurd H2.out.2 h0
        | cons => rfl
      have e0 : ((rl : Int) == 0) = false := by simp; omega
      have e1 : (rl == 0) = false := by simpa using h0
      have HA := Lib.hid hA
      clear hA
      go_wp2_with fail
      go_ret
      exact ⟨by rw [HA.out]; first | rfl | simp, H2.out.1⟩

set_option maxRecDepth 100000 in
set_option maxHeartbeats 4000000 in
theorem ref15First_any (w : World) (a1 : Option Addr) (n1 c1 : Nat) (a2 : Option Addr) (n2 c2 : Nat) (g : Gr) (hg : GramAt w a1 n1 c1 a2 n2 c2 g) :
    Calls Tryz.prog 72 #[.agg #[.slice a1 n1 c1, .slice a2 n2 c2]] w fun e w' => e = .returned (.tuple #[.int .i64 ((idleL g).headD 0), .bool (!(idleL g).isEmpty)]) ∧ Chg [] w w' := by
  have hall := fun W (hW : Chg [] w W) => ref15All_any W a1 n1 c1 a2 n2 c2 g (hg.keep hW.kp)
  have hfew := idleL_few g
  obtain ⟨A, hA⟩ : ∃ A, A = idleL g := ⟨_, rfl⟩
  rw [← hA] at hall hfew ⊢
  clear hA hg
  have HW := Lib.hid hfew
  clear hfew
  go_enter Tryz.func72, Tryz.ntmps72
  go_wp2_with fail
  refine (hall _ ((Chg.refl [] w).alloc _)).mono ?_
  rintro e w1 ⟨ra, rc, rfl, hf, h1⟩
  have H := Lib.hid (And.intro (((Chg.refl [] w).alloc (.cells #[.slice a1 n1 c1, .slice a2 n2 c2] 25)).tr h1) (ownInts_read hf.own).1)
  clear h1 hf hall
  cases A with
  | nil =>
    go_wp2_with fail
    refine bodyPost_ret (v := .tuple #[.int .i64 0, .bool false]) (by simp [results, Tryz.results72, go_sem]) rfl ?_
    exact ⟨rfl, H.out.1⟩
  | cons z zs =>
    obtain ⟨bz, oz, rfl, hc⟩ := H.out.2 0 (by simp)
    simp only [List.getElem_cons_zero, Nat.add_zero] at hc
    have hl := HW.out
    simp only [List.length_cons] at hl
    obtain ⟨rl, hrl⟩ : ∃ rl, rl = zs.length := ⟨_, rfl⟩
    rw [← hrl] at hl
    rw [List.length_cons, ← hrl]
    have hbz := World.block_lt_of_cell? _ _ hc
    simp only at hbz
    clear hrl
    go_wp2_with fail
    refine bodyPost_ret (v := .tuple #[.int .i64 z, .bool true]) (by simp [results, Tryz.results72, go_sem]) rfl ?_
    exact ⟨rfl, H.out.1⟩
end Go.Proofs.YtibgfgfmljhimaaGreat

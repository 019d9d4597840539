/-
  LeftOwn: what the law computes.
  Conditions: the grammar reads as data, within the reach; the number is an int.
-/
import Derived.Test.YtibgfgfmljhimaaLo0
import Derived.Test.YtibgfgfmljhimaaLfN
import Derived.Test.YtibgfgfmljhimaaGAny
set_option linter.unusedVariables false
set_option linter.unusedSimpArgs false
set_option linter.unnecessarySimpa false
namespace Go.Proofs.Ytibgfgfmljhimaa
open Go.RowKit Go.MapKept Go.Shelf

set_option maxRecDepth 100000 in
set_option maxHeartbeats 16000000 in
theorem leftOwnLaw_any (w : World) (a1 : Option Addr) (n1 c1 : Nat) (a2 : Option Addr) (n2 c2 : Nat) (g : Gr) (hg : GramAt w a1 n1 c1 a2 n2 c2 g) (hre : Reach g) (n : Int) (hn : I64 n) :
    Calls Try.prog 14 #[.agg #[.slice a1 n1 c1, .slice a2 n2 c2], .int .i64 n] w fun e w' => e = .returned (.bool true) ∧ Chg [] w w' := by
  have H := Lib.hid (And.intro hg (And.intro hre (And.intro hg.e1 hg.e2)))
  clear hg hre hn
  go_enter Try.func14, Try.ntmps14
  go_wp2_with fail
  refine (awake12_any _).mono ?_
  rintro e w1 ⟨rfl, hc1⟩
  have hb1 := hc1.heap (heap_alloc_same _ _) (by simp)
  have H1 := Lib.hid (And.intro hb1 (((Chg.refl [] w).alloc _).tr0 hc1))
  clear hc1 hb1
  obtain ⟨x0, x1⟩ := cells2 H1.out.1
  go_wp2_with fail
  refine (size12_any _ a1 n1 c1 a2 n2 c2 g (H.out.1.keep H1.out.2.kp) H.out.2.1).mono ?_
  rintro e w2 ⟨m, rfl, hm1, hm2, hc2⟩
  have H2 := Lib.hid (And.intro (hc2.heap H1.out.1 (by simp)) (H1.out.2.tr hc2))
  clear hc2 x0 x1
  by_cases hm : (300 : Int) < m
  · go_wp2_with fail
    go_ret
    exact ⟨rfl, H2.out.2⟩
  · clear hm1 hm2
    obtain ⟨LA, hLA⟩ : ∃ LA, LA = toldL g (ownG g) n := ⟨_, rfl⟩
    obtain ⟨LB, hLB⟩ : ∃ LB, LB = toldL g (callsG g) n := ⟨_, rfl⟩
    obtain ⟨ka, hka⟩ : ∃ ka, ka = LA.length := ⟨_, rfl⟩
    obtain ⟨kb, hkb⟩ : ∃ kb, kb = LB.length := ⟨_, rfl⟩
    have HA : Hid (∀ W, Chg [] w2 W → Calls Try.prog 67 #[.agg #[.slice a1 n1 c1, .slice a2 n2 c2], .int .i64 n] W fun e W' => ∃ ta tc, e = .returned (.slice ta ka tc) ∧ FreshInts W.heap.size W' ta tc LA ∧ Chg [] W W') := Lib.hid fun W hW => by
      have h := leftNodes_any W a1 n1 c1 a2 n2 c2 g (H.out.1.keep (H2.out.2.tr hW).kp) H.out.2.1 n
      rw [← hLA] at h
      rw [hka]
      exact h
    have HB : Hid (∀ W, Chg [] w2 W → Calls Try.prog 68 #[.agg #[.slice a1 n1 c1, .slice a2 n2 c2], .int .i64 n] W fun e W' => ∃ ta tc, e = .returned (.slice ta kb tc) ∧ FreshInts W.heap.size W' ta tc LB ∧ Chg [] W W') := Lib.hid fun W hW => by
      have h := leftCalls_any W a1 n1 c1 a2 n2 c2 g (H.out.1.keep (H2.out.2.tr hW).kp) H.out.2.1 n
      rw [← hLB] at h
      rw [hkb]
      exact h
    have HL := Lib.hid (And.intro hLA (And.intro hLB (And.intro hka hkb)))
    clear hLA hLB hka hkb
    obtain ⟨x0, x1⟩ := cells2 H2.out.1
    go_wp2_with fail
    clear x0 x1
    refine wp_region_st (by kernel_rfl) (by kernel_rfl) [22, 23, 24, 25, 26, 27, 5, 6] (by kernel_rfl) (fun rI rV rW => match rI with | 0 => rV = .agg #[.slice a1 n1 c1, .slice a2 n2 c2] | 1 => rV = .int .i64 n | 2 => ∃ ta9 tc9, rV = .slice ta9 ka tc9 ∧ FreshInts w2.heap.size rW ta9 tc9 LA | 3 => rV = .agg #[.slice a1 n1 c1, .slice a2 n2 c2] | 4 => rV = .int .i64 n | 5 => ∃ tb9 td9, rV = .slice tb9 kb td9 ∧ FreshInts w2.heap.size rW tb9 td9 LB | 6 => ∃ ta9 tc9, rV = .slice ta9 ka tc9 ∧ FreshInts w2.heap.size rW ta9 tc9 LA | 7 => ∃ tb9 td9, rV = .slice tb9 kb td9 ∧ FreshInts w2.heap.size rW tb9 td9 LB | _ => True) ?hS4 ?hstep4 ?hdone4
    case hS4 =>
      intro rI rV rW rW' hc rP
      match rI, rP with
      | 0, rP => exact rP
      | 1, rP => exact rP
      | 2, rP => exact (by obtain ⟨ta9, tc9, e9, hp⟩ := rP; exact ⟨ta9, tc9, e9, hc.row hp (fun _ _ => by simp)⟩)
      | 3, rP => exact rP
      | 4, rP => exact rP
      | 5, rP => exact (by obtain ⟨tb9, td9, e9, hp⟩ := rP; exact ⟨tb9, td9, e9, hc.row hp (fun _ _ => by simp)⟩)
      | 6, rP => exact (by obtain ⟨ta9, tc9, e9, hp⟩ := rP; exact ⟨ta9, tc9, e9, hc.row hp (fun _ _ => by simp)⟩)
      | 7, rP => exact (by obtain ⟨tb9, td9, e9, hp⟩ := rP; exact ⟨tb9, td9, e9, hc.row hp (fun _ _ => by simp)⟩)
      | _ + 8, _ => trivial
    case hstep4 =>
      intro rI rH us W hC hdep K hK
      have hiN : rI < 8 := rH
      simp only [actU, Act.put, List.setIfInBounds_toArray, List.set_cons_succ, List.set_cons_zero, Nat.reduceAdd] at hK ⊢
      obtain ⟨x0, x1⟩ := cells2 (hC.heap H2.out.1 (by simp))
      rcases (show rI = 0 ∨ rI = 1 ∨ rI = 2 ∨ rI = 3 ∨ rI = 4 ∨ rI = 5 ∨ rI = 6 ∨ rI = 7 by omega) with rfl | rfl | rfl | rfl | rfl | rfl | rfl | rfl
      · simp only [List.getD_cons_succ, List.getD_cons_zero, List.setIfInBounds_toArray, List.set_cons_succ, List.set_cons_zero] at hK ⊢
        refine wpOp_at rfl rfl ?_
        go_simp
        exact hK _ _ _ rfl (Chg.refl _ _) rfl
      · simp only [List.getD_cons_succ, List.getD_cons_zero, List.setIfInBounds_toArray, List.set_cons_succ, List.set_cons_zero] at hK ⊢
        refine wpOp_at rfl rfl ?_
        go_simp
        exact hK _ _ _ rfl (Chg.refl _ _) rfl
      · have l0 := hdep 0 (by kernel_rfl)
        replace l0 : us 0 = .agg #[.slice a1 n1 c1, .slice a2 n2 c2] := l0
        have l1 := hdep 1 (by kernel_rfl)
        replace l1 : us 1 = .int .i64 n := l1
        simp only [List.getD_cons_succ, List.getD_cons_zero, List.setIfInBounds_toArray, List.set_cons_succ, List.set_cons_zero, l0, l1] at hK ⊢
        refine wpOp_at rfl rfl ?_
        go_simp
        refine (HA.out W hC).mono ?_
        rintro e wz ⟨ta9, tc9, rfl, hf, hz⟩
        exact hK _ _ _ rfl hz ⟨ta9, tc9, rfl, row_base hf hC.size⟩
      · simp only [List.getD_cons_succ, List.getD_cons_zero, List.setIfInBounds_toArray, List.set_cons_succ, List.set_cons_zero] at hK ⊢
        refine wpOp_at rfl rfl ?_
        go_simp
        exact hK _ _ _ rfl (Chg.refl _ _) rfl
      · simp only [List.getD_cons_succ, List.getD_cons_zero, List.setIfInBounds_toArray, List.set_cons_succ, List.set_cons_zero] at hK ⊢
        refine wpOp_at rfl rfl ?_
        go_simp
        exact hK _ _ _ rfl (Chg.refl _ _) rfl
      · have l3 := hdep 3 (by kernel_rfl)
        replace l3 : us 3 = .agg #[.slice a1 n1 c1, .slice a2 n2 c2] := l3
        have l4 := hdep 4 (by kernel_rfl)
        replace l4 : us 4 = .int .i64 n := l4
        simp only [List.getD_cons_succ, List.getD_cons_zero, List.setIfInBounds_toArray, List.set_cons_succ, List.set_cons_zero, l3, l4] at hK ⊢
        refine wpOp_at rfl rfl ?_
        go_simp
        refine (HB.out W hC).mono ?_
        rintro e wz ⟨tb9, td9, rfl, hf, hz⟩
        exact hK _ _ _ rfl hz ⟨tb9, td9, rfl, row_base hf hC.size⟩
      · have l2 := hdep 2 (by kernel_rfl)
        obtain ⟨ta9, tc9, l2, p2⟩ := l2
        simp only [List.getD_cons_succ, List.getD_cons_zero, List.setIfInBounds_toArray, List.set_cons_succ, List.set_cons_zero, l2] at hK ⊢
        refine wpOp_at rfl rfl ?_
        go_simp
        exact hK _ _ _ rfl (Chg.refl _ _) ⟨ta9, tc9, rfl, p2⟩
      · have l5 := hdep 5 (by kernel_rfl)
        obtain ⟨tb9, td9, l5, p5⟩ := l5
        simp only [List.getD_cons_succ, List.getD_cons_zero, List.setIfInBounds_toArray, List.set_cons_succ, List.set_cons_zero, l5] at hK ⊢
        refine wpOp_at rfl rfl ?_
        go_simp
        exact hK _ _ _ rfl (Chg.refl _ _) ⟨tb9, td9, rfl, p5⟩
    case hdone4 =>
      intro us W hC hall
      have l0 := hall 0 (by decide)
      replace l0 : us 0 = .agg #[.slice a1 n1 c1, .slice a2 n2 c2] := l0
      have l1 := hall 1 (by decide)
      replace l1 : us 1 = .int .i64 n := l1
      have l2 := hall 2 (by decide)
      obtain ⟨ta9, tc9, l2, p2⟩ := l2
      have l3 := hall 3 (by decide)
      replace l3 : us 3 = .agg #[.slice a1 n1 c1, .slice a2 n2 c2] := l3
      have l4 := hall 4 (by decide)
      replace l4 : us 4 = .int .i64 n := l4
      have l5 := hall 5 (by decide)
      obtain ⟨tb9, td9, l5, p5⟩ := l5
      have l6 := hall 6 (by decide)
      obtain ⟨ta9, tc9, l6, p6⟩ := l6
      have l7 := hall 7 (by decide)
      obtain ⟨tb9, td9, l7, p7⟩ := l7
      simp only [actU, Act.put, List.setIfInBounds_toArray, List.set_cons_succ, List.set_cons_zero, Nat.reduceAdd, l0, l1, l2, l3, l4, l5, l6, l7]
      clear hall l0 l1 l2 l3 l4 l5 l6 l7
      obtain ⟨w5, rfl⟩ : ∃ w5, w5 = W := ⟨_, rfl⟩
      have hIA := (ownInts_read p6.own).1
      have hIB := (ownInts_read p7.own).1
      have H5 := Lib.hid (And.intro (hC.heap H2.out.1 (by simp)) (And.intro (H2.out.2.tr hC) (And.intro hIA hIB)))
      clear hIA hIB p2 p5 p6 p7 hC HA HB
      obtain ⟨x0, x1⟩ := cells2 H5.out.1
      have hSz := Size_any w5 a1 n1 c1 a2 n2 c2 g n (H.out.1.keep H5.out.2.1.kp)
      by_cases hin : rightB g = true ∧ 0 ≤ n ∧ n < g.nodes.length
      · have hbr : w.heap.size < w5.heap.size := lt_of_block H5.out.1
        obtain ⟨q, rfl⟩ : ∃ q : Nat, n = q := ⟨n.toNat, by omega⟩
        have hr := hin.1
        have hq : q < g.nodes.length := by omega
        have hLA : LA = ownG g q := by rw [HL.out.1]; exact if_pos hin
        have hLB : LB = callsG g q := by rw [HL.out.2.1]; exact if_pos hin
        obtain ⟨z, hz1, hsz, hez, hzn⟩ := size_of hr hq
        obtain ⟨s, hs⟩ : ∃ s, s = sizeG g q := ⟨_, rfl⟩
        rw [← hs] at hSz hsz
        have hq2 : q < n2 := by have := H.out.2.2.2; omega
        have hqz : q + z ≤ n2 := by have := H.out.2.2.2; omega
        have hn1 : n1 ≤ 32 := by have := (right_sizes hr).2.1; have := H.out.2.2.1; omega
        have hn2 : n2 ≤ 2048 := by have := (right_sizes hr).2.2; have := H.out.2.2.2; omega
        have hka : ka = (pickL g.nodes.length (inO g q)).length := by rw [HL.out.2.2.1, hLA, ownG_pick hr hq]
        have hkb : kb = (pickL g.rules.length (calO g q)).length := by rw [HL.out.2.2.2, hLB, callsG_rules hr]
        have hka2 : ka ≤ n2 := by rw [hka]; have := pickL_le g.nodes.length (inO g q); have := H.out.2.2.2; omega
        have hkb2 : kb ≤ n1 := by rw [hkb]; have := pickL_le g.rules.length (calO g q); have := H.out.2.2.1; omega
        have hs0 : (s == 0) = false := by rw [hsz]; simp; omega
        have hwz : IntKind.i64.wrap ((q : Int) + s) = (q : Int) + s := IntWalk.i64_in _ (by omega)
        have HR := Lib.hid (And.intro hr (And.intro hq (And.intro hsz (And.intro hez (And.intro hs (And.intro (hLA.trans (ownG_pick hr hq)) (And.intro (hLB.trans (callsG_rules hr q)) (And.intro hka hkb))))))))
        obtain ⟨bn, on, -, -, -, ha2, -⟩ := H.out.1.nodes q hq
        subst ha2
        clear hsz hs hr hq hin hLA hLB hez hka hkb HL hzn
        go_wp2_with fail
        refine hSz.mono ?_
        clear hSz
        rintro e w6 ⟨rfl, hc6⟩
        have hb6 := hc6.heap H5.out.1 (by simp)
        have hbr6 : w.heap.size < w6.heap.size := lt_of_block hb6
        have hs56 := hc6.size
        clear x0 x1
        obtain ⟨x0, x1⟩ := cells2 hb6
        have hz1' := run_falses n2 (by omega) w6
        have hB1 := heap_alloc_same w6 (rowB (List.replicate n2 false))
        have hu1 := rowB_cell hB1 (i := q) (x := false) (by simp [hq2])
        have hf1 := rowB_free hB1 q
        have hB2 := rowB_set true hB1 (i := q)
        have hb2 := heap_set_ne (c := w6.heap.size) (i := q) (u := .bool true) (heap_alloc_lt hb6 (rowB (List.replicate n2 false))) (by omega)
        obtain ⟨y0, y1⟩ := cells2 hb2
        have hz2' := run_falses n1 (by omega) ((w6.alloc (rowB (List.replicate n2 false))).setCell ⟨w6.heap.size, q, none⟩ (.bool true))
        have hc9 := (((hc6.tr ((Chg.refl [] w6).alloc (rowB (List.replicate n2 false)))).setCell (p := ⟨w6.heap.size, q, none⟩) (.inr hc6.size) (.bool true)).alloc (rowB (List.replicate n1 false)))
        have hB9 := heap_alloc_lt hB2 (rowB (List.replicate n1 false))
        have hB9' := heap_alloc_same ((w6.alloc (rowB (List.replicate n2 false))).setCell ⟨w6.heap.size, q, none⟩ (.bool true)) (rowB (List.replicate n1 false))
        have hH9 := Lib.hid (And.intro hc9 (And.intro hB9 hB9'))
        have hsz9 : ((w6.alloc (rowB (List.replicate n2 false))).setCell ⟨w6.heap.size, q, none⟩ (.bool true)).heap.size = w6.heap.size + 1 := by simp [World.setCell]
        have HS9 := Lib.hid hsz9
        clear hc9 hB9 hB9' hB1 hB2 hb2 hsz9
        go_wp2_with fail
        clear hz1' hz2' hu1 hf1 x0 x1 y0 y1
        obtain ⟨w9, e9⟩ : ∃ w9, w9 = ((w6.alloc (rowB (List.replicate n2 false))).setCell ⟨w6.heap.size, q, none⟩ (.bool true)).alloc (rowB (List.replicate n1 false)) := ⟨_, rfl⟩
        rw [← e9]
        have hc9 : Chg [] w5 w9 := by rw [e9]; exact hH9.out.1
        have hr7 : w9.heap[w6.heap.size]? = some (rowB (rowM g q q)) := by
          rw [← rowM_start HR.out.1 HR.out.2.1, ← H.out.2.2.2, e9]
          exact hH9.out.2.1
        have hr8 : w9.heap[w6.heap.size + 1]? = some (rowB (callR g q q)) := by
          rw [← callR_start HR.out.1 HR.out.2.1, ← H.out.2.2.1, e9]
          have := hH9.out.2.2
          rw [HS9.out] at this
          exact this
        have HB := Lib.hid (And.intro (hc9.heap H5.out.1 (by simp)) (And.intro (H5.out.2.1.tr hc9) (And.intro hr7 (And.intro hr8 hc9))))
        clear e9 hc9 hr7 hr8 hH9 HS9 hb6 hc6
        go_loopg [9] z (fun d iv wr => ∃ m : Nat, d = q + z - m ∧ q ≤ m ∧ m ≤ q + z ∧ iv = .int .i64 m ∧ Hid (Chg [w6.heap.size, w6.heap.size + 1] w9 wr ∧ wr.heap[w6.heap.size]? = some (rowB (rowM g q m)) ∧ wr.heap[w6.heap.size + 1]? = some (rowB (callR g q m))))
        case atStart => exact ⟨q, by omega, Nat.le_refl _, by omega, rfl, Lib.hid ⟨Chg.refl _ _, HB.out.2.2.1, HB.out.2.2.2.1⟩⟩
        case round =>
          obtain ⟨m, rfl, hm1, hm2, rfl, hin⟩ := hrel
          obtain ⟨wq, rfl⟩ : ∃ wz, wz = wr := ⟨_, rfl⟩
          have hwq : Chg [] w wq := HB.out.2.1.trans hin.out.1 (fun j hj => .inr (by simp at hj; omega))
          have hbq := hin.out.1.heap HB.out.1 (by simp; omega)
          obtain ⟨x0, x1⟩ := cells2 hbq
          have hSz := Size_any wq _ _ _ _ _ _ g (q : Int) (H.out.1.keep hwq.kp)
          rw [← HR.out.2.2.2.2.1] at hSz
          have hsz := HR.out.2.2.1
          by_cases hlt : m < q + z
          · have hdl : decide ((m : Int) < (q : Int) + s) = true := decide_eq_true (by omega)
            have hml : m < g.nodes.length := by have := H.out.2.2.2; omega
            have hmn2 : m < n2 := by omega
            have HZ := Lib.hid (And.intro hsz (And.intro hml hwq))
            clear hsz hml hwq hbq
            go_wp2_with fail
            refine hSz.mono ?_
            clear hSz
            rintro e wp ⟨rfl, hcp⟩
            have h7 := hcp.heap hin.out.2.1 (by simp)
            have h8 := hcp.heap hin.out.2.2 (by simp)
            have hwp := HZ.out.2.2.tr hcp
            have h9p := hin.out.1.tr0 hcp
            have hbp := hwp.size
            have hb8 := lt_of_block h8
            have hcm := rowB_cell h7 (rowM_now HR.out.1 HR.out.2.1 HZ.out.2.1)
            clear hcp x0 x1
            obtain ⟨x0, x1⟩ := cells2 (h9p.heap HB.out.1 (by simp; omega))
            by_cases hmo : (m : Int) ∈ ownG g q
            · rw [decide_eq_true hmo] at hcm
              obtain ⟨bn', on', ak, nk, ck, ha, hx'⟩ := H.out.1.nodes m HZ.out.2.1
              cases ha
              have hx := hx'.keep hwp.kp
              obtain ⟨x, hxe⟩ : ∃ x, x = g.nodes[m]'HZ.out.2.1 := ⟨_, rfl⟩
              rw [← hxe] at hx hx'
              have hmem : x ∈ g.nodes := by rw [hxe]; exact List.getElem_mem _
              have hrng : ∀ v ∈ x.kids, 0 ≤ v ∧ v < g.nodes.length := fun v hv => by
                rw [hxe] at hv
                have := right_kids HR.out.1 HZ.out.2.1 v hv
                omega
              have HX := Lib.hid (And.intro hxe (And.intro hm1 (And.intro HZ.out.2.1 (And.intro hx.len (And.intro hx'.ints (And.intro hrng hmo))))))
              obtain ⟨h0, h1, h2, h3, h4, h5, h6, hl, hk8, q1, q2, q3, q4⟩ := hx
              have hnk : nk ≤ 9223372036854775807 := by simp only [maxLen] at q3; omega
              by_cases hk5 : x.k = 5
              · have e5 : (x.k == 5) = true := by rw [hk5]; rfl
                have hcr := right_calls HR.out.1 x hmem hk5
                obtain ⟨rr, hrr⟩ : ∃ rr : Nat, x.r = rr := ⟨x.r.toNat, by omega⟩
                have hrn : rr < n1 := by have := H.out.2.2.1; omega
                rw [hrr] at h6
                have hNB := heap_alloc_same wp (.cells #[.int .i64 x.k, .int .u64 x.c0, .int .u64 x.c1, .int .u64 x.c2, .int .u64 x.c3, .string x.s, .int .i64 (rr : Int), .int .i64 x.l, .slice ak nk ck] 32)
                obtain ⟨u0, -, -, -, -, -, u6, -, u8⟩ := cells9 hNB
                have h8' := heap_alloc_lt h8 (.cells #[.int .i64 x.k, .int .u64 x.c0, .int .u64 x.c1, .int .u64 x.c2, .int .u64 x.c3, .string x.s, .int .i64 (rr : Int), .int .i64 x.l, .slice ak nk ck] 32)
                have h7' := heap_alloc_lt h7 (.cells #[.int .i64 x.k, .int .u64 x.c0, .int .u64 x.c1, .int .u64 x.c2, .int .u64 x.c3, .string x.s, .int .i64 (rr : Int), .int .i64 x.l, .slice ak nk ck] 32)
                obtain ⟨u, hu⟩ : ∃ u, (callR g q m)[rr]? = some u := ⟨_, List.getElem?_eq_getElem (by rw [callR_len]; have := H.out.2.2.1; omega)⟩
                have hcc := rowB_cell h8' hu
                have hcf := rowB_free h8' rr
                have hput := rowB_set true h8 (i := rr)
                rw [callR_put HZ.out.2.1 hmo (by rw [← hxe]; exact hk5) (by rw [← hxe]; exact hrr)] at hput
                have hput := heap_alloc_lt hput (.cells #[.int .i64 x.k, .int .u64 x.c0, .int .u64 x.c1, .int .u64 x.c2, .int .u64 x.c3, .string x.s, .int .i64 (rr : Int), .int .i64 x.l, .slice ak nk ck] 32)
                have h7c := heap_alloc_lt (heap_set_ne (c := w6.heap.size + 1) (i := rr) (u := .bool true) h7 (by omega)) (.cells #[.int .i64 x.k, .int .u64 x.c0, .int .u64 x.c1, .int .u64 x.c2, .int .u64 x.c3, .string x.s, .int .i64 (rr : Int), .int .i64 x.l, .slice ak nk ck] 32)
                have hbc := heap_alloc_same (wp.setCell ⟨w6.heap.size + 1, rr, none⟩ (.bool true)) (.cells #[.int .i64 x.k, .int .u64 x.c0, .int .u64 x.c1, .int .u64 x.c2, .int .u64 x.c3, .string x.s, .int .i64 (rr : Int), .int .i64 x.l, .slice ak nk ck] 32)
                rw [show (wp.setCell ⟨w6.heap.size + 1, rr, none⟩ (.bool true)).heap.size = wp.heap.size by simp [World.setCell]] at hbc
                have hwc : Chg [] w ((wp.setCell ⟨w6.heap.size + 1, rr, none⟩ (.bool true)).alloc (.cells #[.int .i64 x.k, .int .u64 x.c0, .int .u64 x.c1, .int .u64 x.c2, .int .u64 x.c3, .string x.s, .int .i64 (rr : Int), .int .i64 x.l, .slice ak nk ck] 32)) := (hwp.setCell (.inr (by simp; omega)) _).alloc _
                have h9c : Chg [w6.heap.size, w6.heap.size + 1] w9 ((wp.setCell ⟨w6.heap.size + 1, rr, none⟩ (.bool true)).alloc (.cells #[.int .i64 x.k, .int .u64 x.c0, .int .u64 x.c1, .int .u64 x.c2, .int .u64 x.c3, .string x.s, .int .i64 (rr : Int), .int .i64 x.l, .slice ak nk ck] 32)) := (h9p.setCell (.inl (by simp)) _).alloc _
                have HW := Lib.hid (And.intro h7c (And.intro hput (And.intro hbc (And.intro (show wp.heap.size ≠ w6.heap.size by omega) (And.intro hwc h9c)))))
                clear hNB h8' h7' hu hput h7c hbc hwc h9c hxe hmem hrng hcr hrr h7 h8 h9p hwp q1 q2 q3 q4 hx' hmo hk5
                go_wp2_with fail
                obtain ⟨wc, ewc⟩ : ∃ wc, wc = (wp.setCell ⟨w6.heap.size + 1, rr, none⟩ (.bool true)).alloc (.cells #[.int .i64 x.k, .int .u64 x.c0, .int .u64 x.c1, .int .u64 x.c2, .int .u64 x.c3, .string x.s, .int .i64 (rr : Int), .int .i64 x.l, .slice ak nk ck] 32) := ⟨_, rfl⟩
                rw [← ewc] at HW ⊢
                clear ewc e5 u0 u6 u8 hcc hcf h0 h1 h2 h3 h4 h5 h6 hl hk8 hcm x0 x1
                go_loopg [12, 11] nk (fun d iv ov wr => ∃ (t : Nat) (o : Bool), d = nk - t ∧ t ≤ nk ∧ iv = .int .i64 t ∧ ov = .bool o ∧ Hid (o = openT x.k (mayG g) x.kids t ∧ Chg [w6.heap.size] wc wr ∧ wr.heap[w6.heap.size]? = some (rowB (rowT g q m t))))
                case atStart => exact ⟨0, true, rfl, Nat.zero_le _, rfl, rfl, Lib.hid ⟨rfl, Chg.refl _ _, by rw [rowT_zero]; exact HW.out.1⟩⟩
                case round =>
                  obtain ⟨t, o, rfl, ht, rfl, rfl, hin2⟩ := hrel
                  obtain ⟨wl, rfl⟩ : ∃ wz, wz = wr := ⟨_, rfl⟩
                  have hwl : Chg [] w wl := HW.out.2.2.2.2.1.trans hin2.out.2.1 (fun j hj => .inr (by simp at hj; omega))
                  have hbx := hin2.out.2.1.heap HW.out.2.2.1 (by simp; exact HW.out.2.2.2.1)
                  obtain ⟨y0, -, -, -, -, -, -, -, y8⟩ := cells9 hbx
                  by_cases hlt2 : t < nk
                  · have htl : t < x.kids.length := by have := HX.out.2.2.2.1; omega
                    obtain ⟨bz, oz, rfl, hcz⟩ := (HX.out.2.2.2.2.1.keep hwl.kp) t htl
                    obtain ⟨v, hv⟩ : ∃ v, v = x.kids[t] := ⟨_, rfl⟩
                    rw [← hv] at hcz
                    have hvr := HX.out.2.2.2.2.2.1 v (by rw [hv]; exact List.getElem_mem htl)
                    obtain ⟨kq, rfl⟩ : ∃ kq : Nat, v = kq := ⟨v.toNat, by omega⟩
                    have hkn : kq < n2 := by have := H.out.2.2.2; omega
                    obtain ⟨u, hu⟩ : ∃ u, (rowT g q m t)[kq]? = some u := ⟨_, List.getElem?_eq_getElem (by rw [rowT_len]; have := H.out.2.2.2; omega)⟩
                    have hcu := rowB_cell hin2.out.2.2 hu
                    have hfu := rowB_free hin2.out.2.2 kq
                    have hst := rowB_set o hin2.out.2.2 (i := kq)
                    have hrt := rowT_set HR.out.1 HR.out.2.1 HX.out.2.2.1 HX.out.2.1 (t := t) (by rw [← HX.out.1]; exact htl) (q := kq) (by simp only [← HX.out.1]; exact hv.symm)
                    rw [← HX.out.1, ← hin2.out.1] at hrt
                    rw [hrt] at hst
                    have hsc : openT x.k (mayG g) x.kids (t + 1) = (o && (decide (x.k ≠ 6) || mayG g kq)) := by rw [openT_succ htl, ← hv, ← hin2.out.1]
                    have hcs := hin2.out.2.1.setCell (p := ⟨w6.heap.size, kq, none⟩) (.inl (by simp)) (.bool o)
                    have hcs0 : Chg [] w (wl.setCell ⟨w6.heap.size, kq, none⟩ (.bool o)) := HW.out.2.2.2.2.1.trans hcs (fun j hj => .inr (by simp at hj; omega))
                    have hbx2 := heap_set_ne (c := w6.heap.size) (i := kq) (u := .bool o) hbx HW.out.2.2.2.1
                    obtain ⟨z0, -, -, -, -, -, -, -, z8⟩ := cells9 hbx2
                    obtain ⟨g0, g1⟩ := cells2 ((HW.out.2.2.2.2.2.trans hcs (by simp)).heap HB.out.1 (by simp; omega))
                    have hcz2 := ((HX.out.2.2.2.2.1.keep hcs0.kp) t htl)
                    obtain ⟨bz', oz', hbz, hcz2⟩ := hcz2
                    cases hbz
                    rw [← hv] at hcz2
                    have hnn := fun (w1 : World) (h1 : Chg [] (wl.setCell ⟨w6.heap.size, kq, none⟩ (.bool o)) w1) => nullNode_any w1 a1 n1 c1 _ n2 c2 g (H.out.1.keep (hcs0.tr h1).kp) H.out.2.1 (kq : Int)
                    obtain ⟨b, hb⟩ : ∃ b, b = mayG g (kq : Int) := ⟨_, rfl⟩
                    rw [show nodeI g (kq : Int) = b by rw [hb]; unfold nodeI; rw [HR.out.1, decide_eq_true (show (0 : Int) ≤ kq by omega), decide_eq_true (show (kq : Int) < g.nodes.length by omega)]; rfl] at hnn
                    rw [← hb] at hsc
                    obtain ⟨ws, hws⟩ : ∃ ws, ws = wl.setCell ⟨w6.heap.size, kq, none⟩ (.bool o) := ⟨_, rfl⟩
                    rw [← hws] at hst hcs hcs0 hbx2 z0 z8 g0 g1 hcz2 hnn
                    have HT := Lib.hid (And.intro hst (And.intro hsc (And.intro hcs (And.intro hnn hws))))
                    clear htl hv hvr hu hst hsc hcs hbx2 hcs0 hbx hnn hrt hb hws
                    have kz0 := cell_rg z0
                    have kz8 := cell_rg z8
                    have kg0 := cell_rg g0
                    have kg1 := cell_rg g1
                    have kcz := cell_rg hcz2
                    clear z0 z8 g0 g1 hcz2
                    go_wp2_with fail
                    rw [← HT.out.2.2.2.2]
                    cases o with
                    | false =>
                      refine wp_region_quiet_below (by kernel_rfl) (by kernel_rfl) ?_
                      repeat (go_big_quiet_step (fail))
                      refine wpQuiet_nil ?_
                      intro w4 hw4
                      have hc4 := chg_of_rg hw4
                      clear hw4 kz0 kz8 kg0 kg1 kcz hcu hfu hcz y0 y8
                      go_wp2_with fail
                      go_roundg (nk - (t + 1))
                      case measure => omega
                      case rel => exact ⟨t + 1, false, rfl, by omega, by go_num, rfl, Lib.hid ⟨by rw [HT.out.2.1]; rfl, HT.out.2.2.1.tr0 hc4, hc4.heap HT.out.1 (by simp)⟩⟩
                    | true =>
                      by_cases hk6 : x.k = 6
                      · have h6 : (x.k == 6) = true := by rw [hk6]; rfl
                        have h6' : (x.k != 6) = false := by rw [hk6]; rfl
                        have cA := calls_rg (w := ws) HT.out.2.2.2.1
                        refine wp_region_quiet_below (by kernel_rfl) (by kernel_rfl) ?_
                        repeat (go_big_quiet_step (first | (with_reducible exact cA _ _)))
                        refine wpQuiet_nil ?_
                        intro w4 hw4
                        have hc4 := chg_of_rg hw4
                        clear hw4 kz0 kz8 kg0 kg1 kcz hcu hfu hcz y0 y8 cA
                        go_wp2_with fail
                        go_roundg (nk - (t + 1))
                        case measure => omega
                        case rel => exact ⟨t + 1, b, rfl, by omega, by go_num, rfl, Lib.hid ⟨by rw [HT.out.2.1, hk6]; rfl, HT.out.2.2.1.tr0 hc4, hc4.heap HT.out.1 (by simp)⟩⟩
                      · have h6 : (x.k == 6) = false := by simpa using hk6
                        have h6' : (x.k != 6) = true := by simpa using hk6
                        refine wp_region_quiet_below (by kernel_rfl) (by kernel_rfl) ?_
                        repeat (go_big_quiet_step (fail))
                        refine wpQuiet_nil ?_
                        intro w4 hw4
                        have hc4 := chg_of_rg hw4
                        clear hw4 kz0 kz8 kg0 kg1 kcz hcu hfu hcz y0 y8
                        go_wp2_with fail
                        go_roundg (nk - (t + 1))
                        case measure => omega
                        case rel => exact ⟨t + 1, true, rfl, by omega, by go_num, rfl, Lib.hid ⟨by rw [HT.out.2.1]; simp [hk6], HT.out.2.2.1.tr0 hc4, hc4.heap HT.out.1 (by simp)⟩⟩
                  · obtain rfl : t = nk := by omega
                    have hrw : wl.heap[w6.heap.size]? = some (rowB (rowM g q (m + 1))) := by
                      have := hin2.out.2.2
                      rw [show t = (g.nodes[m]'HX.out.2.2.1).kids.length by rw [← HX.out.1]; exact HX.out.2.2.2.1, rowT_end HX.out.2.2.1 HX.out.2.2.2.2.2.2] at this
                      exact this
                    have hrc := hin2.out.2.1.heap HW.out.2.1 (by simp)
                    have HT := Lib.hid (And.intro (HW.out.2.2.2.2.2.trans hin2.out.2.1 (by simp)) (And.intro hrw hrc))
                    clear hrw hrc hbx
                    go_wp2_with fail
                    go_roundg (q + z - (m + 1))
                    case measure => omega
                    case rel => exact ⟨m + 1, rfl, by omega, by omega, by go_num, HT⟩
              · have e5 : (x.k == 5) = false := by simpa using hk5
                have hNB := heap_alloc_same wp (.cells #[.int .i64 x.k, .int .u64 x.c0, .int .u64 x.c1, .int .u64 x.c2, .int .u64 x.c3, .string x.s, .int .i64 x.r, .int .i64 x.l, .slice ak nk ck] 32)
                obtain ⟨u0, -, -, -, -, -, u6, -, u8⟩ := cells9 hNB
                have h8' := heap_alloc_lt h8 (.cells #[.int .i64 x.k, .int .u64 x.c0, .int .u64 x.c1, .int .u64 x.c2, .int .u64 x.c3, .string x.s, .int .i64 x.r, .int .i64 x.l, .slice ak nk ck] 32)
                have h7' := heap_alloc_lt h7 (.cells #[.int .i64 x.k, .int .u64 x.c0, .int .u64 x.c1, .int .u64 x.c2, .int .u64 x.c3, .string x.s, .int .i64 x.r, .int .i64 x.l, .slice ak nk ck] 32)
                rw [callR_same HZ.out.2.1 (by rw [← hxe]; exact hk5)] at h8'
                have HW := Lib.hid (And.intro h7' (And.intro h8' (And.intro hNB (And.intro (show wp.heap.size ≠ w6.heap.size by omega) (And.intro (hwp.alloc (.cells #[.int .i64 x.k, .int .u64 x.c0, .int .u64 x.c1, .int .u64 x.c2, .int .u64 x.c3, .string x.s, .int .i64 x.r, .int .i64 x.l, .slice ak nk ck] 32)) (h9p.alloc (.cells #[.int .i64 x.k, .int .u64 x.c0, .int .u64 x.c1, .int .u64 x.c2, .int .u64 x.c3, .string x.s, .int .i64 x.r, .int .i64 x.l, .slice ak nk ck] 32)))))))
                clear hNB h8' h7' hxe hmem hrng h7 h8 h9p hwp q1 q2 q3 q4 hx' hmo hk5
                go_wp2_with fail
                obtain ⟨wc, ewc⟩ : ∃ wc, wc = wp.alloc (.cells #[.int .i64 x.k, .int .u64 x.c0, .int .u64 x.c1, .int .u64 x.c2, .int .u64 x.c3, .string x.s, .int .i64 x.r, .int .i64 x.l, .slice ak nk ck] 32) := ⟨_, rfl⟩
                rw [← ewc] at HW ⊢
                clear ewc e5 u0 u6 u8 h0 h1 h2 h3 h4 h5 h6 hl hk8 hcm x0 x1
                go_loopg [12, 11] nk (fun d iv ov wr => ∃ (t : Nat) (o : Bool), d = nk - t ∧ t ≤ nk ∧ iv = .int .i64 t ∧ ov = .bool o ∧ Hid (o = openT x.k (mayG g) x.kids t ∧ Chg [w6.heap.size] wc wr ∧ wr.heap[w6.heap.size]? = some (rowB (rowT g q m t))))
                case atStart => exact ⟨0, true, rfl, Nat.zero_le _, rfl, rfl, Lib.hid ⟨rfl, Chg.refl _ _, by rw [rowT_zero]; exact HW.out.1⟩⟩
                case round =>
                  obtain ⟨t, o, rfl, ht, rfl, rfl, hin2⟩ := hrel
                  obtain ⟨wl, rfl⟩ : ∃ wz, wz = wr := ⟨_, rfl⟩
                  have hwl : Chg [] w wl := HW.out.2.2.2.2.1.trans hin2.out.2.1 (fun j hj => .inr (by simp at hj; omega))
                  have hbx := hin2.out.2.1.heap HW.out.2.2.1 (by simp; exact HW.out.2.2.2.1)
                  obtain ⟨y0, -, -, -, -, -, -, -, y8⟩ := cells9 hbx
                  by_cases hlt2 : t < nk
                  · have htl : t < x.kids.length := by have := HX.out.2.2.2.1; omega
                    obtain ⟨bz, oz, rfl, hcz⟩ := (HX.out.2.2.2.2.1.keep hwl.kp) t htl
                    obtain ⟨v, hv⟩ : ∃ v, v = x.kids[t] := ⟨_, rfl⟩
                    rw [← hv] at hcz
                    have hvr := HX.out.2.2.2.2.2.1 v (by rw [hv]; exact List.getElem_mem htl)
                    obtain ⟨kq, rfl⟩ : ∃ kq : Nat, v = kq := ⟨v.toNat, by omega⟩
                    have hkn : kq < n2 := by have := H.out.2.2.2; omega
                    obtain ⟨u, hu⟩ : ∃ u, (rowT g q m t)[kq]? = some u := ⟨_, List.getElem?_eq_getElem (by rw [rowT_len]; have := H.out.2.2.2; omega)⟩
                    have hcu := rowB_cell hin2.out.2.2 hu
                    have hfu := rowB_free hin2.out.2.2 kq
                    have hst := rowB_set o hin2.out.2.2 (i := kq)
                    have hrt := rowT_set HR.out.1 HR.out.2.1 HX.out.2.2.1 HX.out.2.1 (t := t) (by rw [← HX.out.1]; exact htl) (q := kq) (by simp only [← HX.out.1]; exact hv.symm)
                    rw [← HX.out.1, ← hin2.out.1] at hrt
                    rw [hrt] at hst
                    have hsc : openT x.k (mayG g) x.kids (t + 1) = (o && (decide (x.k ≠ 6) || mayG g kq)) := by rw [openT_succ htl, ← hv, ← hin2.out.1]
                    have hcs := hin2.out.2.1.setCell (p := ⟨w6.heap.size, kq, none⟩) (.inl (by simp)) (.bool o)
                    have hcs0 : Chg [] w (wl.setCell ⟨w6.heap.size, kq, none⟩ (.bool o)) := HW.out.2.2.2.2.1.trans hcs (fun j hj => .inr (by simp at hj; omega))
                    have hbx2 := heap_set_ne (c := w6.heap.size) (i := kq) (u := .bool o) hbx HW.out.2.2.2.1
                    obtain ⟨z0, -, -, -, -, -, -, -, z8⟩ := cells9 hbx2
                    obtain ⟨g0, g1⟩ := cells2 ((HW.out.2.2.2.2.2.trans hcs (by simp)).heap HB.out.1 (by simp; omega))
                    have hcz2 := ((HX.out.2.2.2.2.1.keep hcs0.kp) t htl)
                    obtain ⟨bz', oz', hbz, hcz2⟩ := hcz2
                    cases hbz
                    rw [← hv] at hcz2
                    have hnn := fun (w1 : World) (h1 : Chg [] (wl.setCell ⟨w6.heap.size, kq, none⟩ (.bool o)) w1) => nullNode_any w1 a1 n1 c1 _ n2 c2 g (H.out.1.keep (hcs0.tr h1).kp) H.out.2.1 (kq : Int)
                    obtain ⟨b, hb⟩ : ∃ b, b = mayG g (kq : Int) := ⟨_, rfl⟩
                    rw [show nodeI g (kq : Int) = b by rw [hb]; unfold nodeI; rw [HR.out.1, decide_eq_true (show (0 : Int) ≤ kq by omega), decide_eq_true (show (kq : Int) < g.nodes.length by omega)]; rfl] at hnn
                    rw [← hb] at hsc
                    obtain ⟨ws, hws⟩ : ∃ ws, ws = wl.setCell ⟨w6.heap.size, kq, none⟩ (.bool o) := ⟨_, rfl⟩
                    rw [← hws] at hst hcs hcs0 hbx2 z0 z8 g0 g1 hcz2 hnn
                    have HT := Lib.hid (And.intro hst (And.intro hsc (And.intro hcs (And.intro hnn hws))))
                    clear htl hv hvr hu hst hsc hcs hbx2 hcs0 hbx hnn hrt hb hws
                    have kz0 := cell_rg z0
                    have kz8 := cell_rg z8
                    have kg0 := cell_rg g0
                    have kg1 := cell_rg g1
                    have kcz := cell_rg hcz2
                    clear z0 z8 g0 g1 hcz2
                    go_wp2_with fail
                    rw [← HT.out.2.2.2.2]
                    cases o with
                    | false =>
                      refine wp_region_quiet_below (by kernel_rfl) (by kernel_rfl) ?_
                      repeat (go_big_quiet_step (fail))
                      refine wpQuiet_nil ?_
                      intro w4 hw4
                      have hc4 := chg_of_rg hw4
                      clear hw4 kz0 kz8 kg0 kg1 kcz hcu hfu hcz y0 y8
                      go_wp2_with fail
                      go_roundg (nk - (t + 1))
                      case measure => omega
                      case rel => exact ⟨t + 1, false, rfl, by omega, by go_num, rfl, Lib.hid ⟨by rw [HT.out.2.1]; rfl, HT.out.2.2.1.tr0 hc4, hc4.heap HT.out.1 (by simp)⟩⟩
                    | true =>
                      by_cases hk6 : x.k = 6
                      · have h6 : (x.k == 6) = true := by rw [hk6]; rfl
                        have h6' : (x.k != 6) = false := by rw [hk6]; rfl
                        have cA := calls_rg (w := ws) HT.out.2.2.2.1
                        refine wp_region_quiet_below (by kernel_rfl) (by kernel_rfl) ?_
                        repeat (go_big_quiet_step (first | (with_reducible exact cA _ _)))
                        refine wpQuiet_nil ?_
                        intro w4 hw4
                        have hc4 := chg_of_rg hw4
                        clear hw4 kz0 kz8 kg0 kg1 kcz hcu hfu hcz y0 y8 cA
                        go_wp2_with fail
                        go_roundg (nk - (t + 1))
                        case measure => omega
                        case rel => exact ⟨t + 1, b, rfl, by omega, by go_num, rfl, Lib.hid ⟨by rw [HT.out.2.1, hk6]; rfl, HT.out.2.2.1.tr0 hc4, hc4.heap HT.out.1 (by simp)⟩⟩
                      · have h6 : (x.k == 6) = false := by simpa using hk6
                        have h6' : (x.k != 6) = true := by simpa using hk6
                        refine wp_region_quiet_below (by kernel_rfl) (by kernel_rfl) ?_
                        repeat (go_big_quiet_step (fail))
                        refine wpQuiet_nil ?_
                        intro w4 hw4
                        have hc4 := chg_of_rg hw4
                        clear hw4 kz0 kz8 kg0 kg1 kcz hcu hfu hcz y0 y8
                        go_wp2_with fail
                        go_roundg (nk - (t + 1))
                        case measure => omega
                        case rel => exact ⟨t + 1, true, rfl, by omega, by go_num, rfl, Lib.hid ⟨by rw [HT.out.2.1]; simp [hk6], HT.out.2.2.1.tr0 hc4, hc4.heap HT.out.1 (by simp)⟩⟩
                  · obtain rfl : t = nk := by omega
                    have hrw : wl.heap[w6.heap.size]? = some (rowB (rowM g q (m + 1))) := by
                      have := hin2.out.2.2
                      rw [show t = (g.nodes[m]'HX.out.2.2.1).kids.length by rw [← HX.out.1]; exact HX.out.2.2.2.1, rowT_end HX.out.2.2.1 HX.out.2.2.2.2.2.2] at this
                      exact this
                    have hrc := hin2.out.2.1.heap HW.out.2.1 (by simp)
                    have HT := Lib.hid (And.intro (HW.out.2.2.2.2.2.trans hin2.out.2.1 (by simp)) (And.intro hrw hrc))
                    clear hrw hrc hbx
                    go_wp2_with fail
                    go_roundg (q + z - (m + 1))
                    case measure => omega
                    case rel => exact ⟨m + 1, rfl, by omega, by omega, by go_num, HT⟩
            · rw [decide_eq_false hmo] at hcm
              have HT := Lib.hid (And.intro h9p (And.intro (by rw [rowM_skip hmo] at h7; exact h7) (by rw [callR_skip hmo] at h8; exact h8)))
              clear h7 h8 h9p hwp
              go_wp2_with fail
              go_roundg (q + z - (m + 1))
              case measure => omega
              case rel => exact ⟨m + 1, rfl, by omega, by omega, by go_num, HT⟩
          · have hdl : decide ((m : Int) < (q : Int) + s) = false := decide_eq_false (by omega)
            have hme : m = endsG g q := by rw [HR.out.2.2.2.1]; omega
            have h7 := hin.out.2.1
            rw [hme, rowM_end HR.out.1 HR.out.2.1] at h7
            have h8 := hin.out.2.2
            rw [hme, callR_end HR.out.1 HR.out.2.1] at h8
            have HZ := Lib.hid (And.intro hsz (And.intro h7 (And.intro h8 hwq)))
            have h5w := HB.out.2.2.2.2.trans hin.out.1 (fun j hj => .inr (by simp at hj; omega))
            have HZ5 := Lib.hid h5w
            clear hsz hme h7 h8 hwq hbq h5w
            go_wp2_with fail
            refine hSz.mono ?_
            clear hSz
            rintro e wt ⟨rfl, hct⟩
            have HT := Lib.hid (And.intro (HZ.out.2.2.2.tr hct) (And.intro (hct.heap HZ.out.2.1 (by simp)) (And.intro (hct.heap HZ.out.2.2.1 (by simp)) (And.intro (H5.out.2.2.1.keep ((HZ5.out.tr hct).kp)) (H5.out.2.2.2.keep ((HZ5.out.tr hct).kp))))))
            clear hct x0 x1 hin
            go_wp2_with fail
            go_loopg [15, 13] n2 (fun d iv mv wr => ∃ j c : Nat, d = n2 - j ∧ j ≤ n2 ∧ iv = .int .i64 j ∧ mv = .int .i64 c ∧ wr = wt ∧ Hid (c = (pickL j (inO g q)).length))
            case atStart => exact ⟨0, 0, rfl, Nat.zero_le _, rfl, rfl, rfl, Lib.hid (by simp [pickL])⟩
            case round =>
              obtain ⟨j, c, rfl, hj, rfl, rfl, hwr, hin3⟩ := hrel
              replace hwr := hwr.symm
              subst hwr
              by_cases hjl : j < n2
              · have hjl2 : j < g.nodes.length := by have := H.out.2.2.2; omega
                have hcm := rowB_cell HT.out.2.1 (range_at (F := inO g q) hjl2)
                cases hF : inO g q j with
                | false =>
                  rw [hF] at hcm
                  have HF := Lib.hid hF
                  clear hF hjl2
                  go_wp2_with fail
                  go_roundg (n2 - (j + 1))
                  case measure => omega
                  case rel => exact ⟨j + 1, c, rfl, by omega, by go_num, rfl, rfl, Lib.hid (by rw [pick_next, HF.out, ← hin3.out]; rfl)⟩
                | true =>
                  rw [hF] at hcm
                  obtain ⟨p1, p2⟩ := pick_at hjl2 hF
                  have hck : c < ka := by rw [HR.out.2.2.2.2.2.2.2.1, hin3.out]; exact p1
                  have hat : LA[c]? = some (j : Int) := by rw [HR.out.2.2.2.2.2.1, hin3.out, List.getElem?_eq_getElem p1, p2]
                  obtain ⟨hcl, hat⟩ := List.getElem?_eq_some_iff.1 hat
                  obtain ⟨bt, ot, rfl, hcz⟩ := HT.out.2.2.2.1 c hcl
                  rw [hat] at hcz
                  have hge : decide (ka ≤ c) = false := decide_eq_false (by omega)
                  have HF := Lib.hid hF
                  clear hF hjl2 p1 p2 hat hcl
                  go_wp2_with fail
                  go_roundg (n2 - (j + 1))
                  case measure => omega
                  case rel => exact ⟨j + 1, c + 1, rfl, by omega, by go_num, by go_num, rfl, Lib.hid (by rw [pick_next, HF.out, ← hin3.out]; rfl)⟩
              · obtain rfl : j = n2 := by omega
                obtain rfl : c = ka := by rw [hin3.out, HR.out.2.2.2.2.2.2.2.1, ← H.out.2.2.2]
                go_wp2_with fail
                go_loopg [16, 14] n1 (fun d iv mv wr => ∃ jj cc : Nat, d = n1 - jj ∧ jj ≤ n1 ∧ iv = .int .i64 jj ∧ mv = .int .i64 cc ∧ wr = wt ∧ Hid (cc = (pickL jj (calO g q)).length))
                case atStart => exact ⟨0, 0, rfl, Nat.zero_le _, rfl, rfl, rfl, Lib.hid (by simp [pickL])⟩
                case round =>
                  obtain ⟨jj, cc, rfl, hj, rfl, rfl, hwr, hin3⟩ := hrel
                  replace hwr := hwr.symm
                  subst hwr
                  by_cases hjl : jj < n1
                  · have hjl2 : jj < g.rules.length := by have := H.out.2.2.1; omega
                    have hcm := rowB_cell HT.out.2.2.1 (range_at (F := calO g q) hjl2)
                    cases hF : calO g q jj with
                    | false =>
                      rw [hF] at hcm
                      have HF := Lib.hid hF
                      clear hF hjl2
                      go_wp2_with fail
                      go_roundg (n1 - (jj + 1))
                      case measure => omega
                      case rel => exact ⟨jj + 1, cc, rfl, by omega, by go_num, rfl, rfl, Lib.hid (by rw [pick_next, HF.out, ← hin3.out]; rfl)⟩
                    | true =>
                      rw [hF] at hcm
                      obtain ⟨p1, p2⟩ := pick_at hjl2 hF
                      have hck : cc < kb := by rw [HR.out.2.2.2.2.2.2.2.2, hin3.out]; exact p1
                      have hat : LB[cc]? = some (jj : Int) := by rw [HR.out.2.2.2.2.2.2.1, hin3.out, List.getElem?_eq_getElem p1, p2]
                      obtain ⟨hcl, hat⟩ := List.getElem?_eq_some_iff.1 hat
                      obtain ⟨bt, ot, rfl, hcz⟩ := HT.out.2.2.2.2 cc hcl
                      rw [hat] at hcz
                      have hge : decide (kb ≤ cc) = false := decide_eq_false (by omega)
                      have HF := Lib.hid hF
                      clear hF hjl2 p1 p2 hat hcl
                      go_wp2_with fail
                      go_roundg (n1 - (jj + 1))
                      case measure => omega
                      case rel => exact ⟨jj + 1, cc + 1, rfl, by omega, by go_num, by go_num, rfl, Lib.hid (by rw [pick_next, HF.out, ← hin3.out]; rfl)⟩
                  · obtain rfl : jj = n1 := by omega
                    obtain rfl : cc = kb := by rw [hin3.out, HR.out.2.2.2.2.2.2.2.2, ← H.out.2.2.1]
                    go_wp2_with fail
                    go_ret
                    exact ⟨rfl, HT.out.1⟩
      · have hz0 := size_zero hin
        rw [hz0] at hSz
        obtain rfl : ka = 0 := by rw [HL.out.2.2.1, HL.out.1, toldL, if_neg hin]; rfl
        obtain rfl : kb = 0 := by rw [HL.out.2.2.2, HL.out.2.1, toldL, if_neg hin]; rfl
        clear hz0 hin
        go_wp2_with fail
        refine hSz.mono ?_
        rintro e w6 ⟨rfl, hc6⟩
        have H6 := Lib.hid (H5.out.2.1.tr hc6)
        clear hc6 hSz x0 x1
        go_wp2_with fail
        go_ret
        exact ⟨rfl, H6.out⟩
end Go.Proofs.Ytibgfgfmljhimaa

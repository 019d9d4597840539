/-
  WellIdle: what the law computes.
  Conditions: the grammar reads as data, within the reach.
-/
import Derived.Test.YtibgfgfmljhimaaWeQ
set_option linter.unusedVariables false
set_option linter.unusedSimpArgs false
set_option linter.unnecessarySimpa false
namespace Go.Proofs.Ytibgfgfmljhimaa
open Go.RowKit Go.MapKept Go.Shelf

theorem idle_pick (g : Gr) : idleL g = pickL g.nodes.length (fun j => rightB g && idleB g j) := by
  unfold idleL
  split
  · rename_i h
    unfold pickL
    congr 1
    refine List.filter_congr fun j _ => ?_
    rw [h, Bool.true_and]
  · rename_i h
    unfold pickL
    rw [List.filter_eq_nil_iff.2 (fun j _ => by simp [h])]
    rfl
theorem pickW_at {n : Nat} {F : Nat → Bool} {j : Nat} (hj : j < n) (hF : F j = true) : ∃ h : (pickL j F).length < (pickL n F).length, (pickL n F)[(pickL j F).length] = (j : Int) := by
  obtain ⟨l, hl⟩ := pickW_split n F (j + 1) hj
  rw [pickL_succ, if_pos hF] at hl
  have h : (pickL j F).length < (pickL n F).length := by rw [hl]; simp
  refine ⟨h, ?_⟩
  have : (pickL n F)[(pickL j F).length]? = some (j : Int) := by rw [hl, List.append_assoc]; simp
  rw [List.getElem?_eq_getElem h] at this
  exact Option.some.inj this
theorem pickW_next {F : Nat → Bool} {j : Nat} : (pickL (j + 1) F).length = (pickL j F).length + if F j then 1 else 0 := by
  rw [pickL_succ, List.length_append]
  split <;> simp
theorem head_at : ∀ {l : List Int} (h : 0 < l.length), l[0] = l.headD 0
  | x :: l, _ => rfl
theorem idle_no {g : Gr} (hr : rightB g = false) : idleL g = [] := by rw [idleL, if_neg (by rw [hr]; simp)]

set_option maxRecDepth 100000 in
set_option maxHeartbeats 16000000 in
theorem wellIdleLaw_any (w : World) (a1 : Option Addr) (n1 c1 : Nat) (a2 : Option Addr) (n2 c2 : Nat) (g : Gr) (hg : GramAt w a1 n1 c1 a2 n2 c2 g) (hre : Reach g) :
    Calls Try.prog 16 #[.agg #[.slice a1 n1 c1, .slice a2 n2 c2]] w fun e w' => e = .returned (.bool true) ∧ Chg [] w w' := by
  have hs2 := hg.small.2
  have H := Lib.hid (And.intro hg (And.intro hre (And.intro hg.e1 hg.e2)))
  clear hg hre
  go_enter Try.func16, Try.ntmps16
  go_wp2_with fail
  refine (awake15_any _).mono ?_
  rintro e w1 ⟨rfl, hc1⟩
  have hb1 := hc1.heap (heap_alloc_same _ _) (by simp)
  have H1 := Lib.hid (And.intro hb1 (((Chg.refl [] w).alloc _).tr0 hc1))
  clear hc1 hb1
  obtain ⟨x0, x1⟩ := cells2 H1.out.1
  go_wp2_with fail
  refine (size15_any _ a1 n1 c1 a2 n2 c2 g (H.out.1.keep H1.out.2.kp) H.out.2.1).mono ?_
  rintro e w2 ⟨m, rfl, hm1, hm2, hc2⟩
  have H2 := Lib.hid (And.intro (hc2.heap H1.out.1 (by simp)) (H1.out.2.tr hc2))
  clear hc2 x0 x1
  by_cases hm : (300 : Int) < m
  · go_wp2_with fail
    go_ret
    exact ⟨rfl, H2.out.2⟩
  · clear hm1 hm2
    obtain ⟨x0, x1⟩ := cells2 H2.out.1
    obtain ⟨l, hl⟩ : ∃ l, l = idleL g := ⟨_, rfl⟩
    obtain ⟨kl, hkl⟩ : ∃ kl, kl = l.length := ⟨_, rfl⟩
    have hAl := wellAll_any w2 a1 n1 c1 a2 n2 c2 g (H.out.1.keep H2.out.2.kp) H.out.2.1
    rw [← hl] at hAl
    have hk3 : kl ≤ 2048 := by rw [hkl, hl]; exact idle_few
    have HL := Lib.hid (And.intro hl hkl)
    clear hl
    go_wp2_with fail
    refine hAl.mono ?_
    clear hAl
    rintro e w3 ⟨la, lc, rfl, hf, h3⟩
    rw [← hkl]
    clear hkl
    have H3 := Lib.hid (And.intro (h3.heap H2.out.1 (by simp)) (And.intro (H2.out.2.tr h3) (ownInts_read hf.own).1))
    clear h3 hf x0 x1
    obtain ⟨x0, x1⟩ := cells2 H3.out.1
    have hFi := wellFirst_any w3 a1 n1 c1 a2 n2 c2 g (H.out.1.keep H3.out.2.1.kp) H.out.2.1
    rw [← HL.out.1] at hFi
    obtain ⟨v, hv⟩ : ∃ v, v = l.headD 0 := ⟨_, rfl⟩
    obtain ⟨s, hs⟩ : ∃ s, s = l.isEmpty := ⟨_, rfl⟩
    unfold firstV at hFi
    rw [← hv, ← hs] at hFi
    have HV := Lib.hid (And.intro hv hs)
    clear hv hs
    go_wp2_with fail
    refine hFi.mono ?_
    clear hFi
    rintro e w4 ⟨rfl, h4⟩
    have H4 := Lib.hid (And.intro (h4.heap H3.out.1 (by simp)) (And.intro (H3.out.2.1.tr h4) (H3.out.2.2.keep h4.kp)))
    clear h4 x0 x1
    obtain ⟨x0, x1⟩ := cells2 H4.out.1
    have cA := calls_rg (w := w4) (fun w1 h1 => Right_any w1 a1 n1 c1 a2 n2 c2 g (H.out.1.keep (H4.out.2.1.tr h1).kp))
    have cB := calls_rg (w := w4) (fun w1 h1 => wellWell_any w1 a1 n1 c1 a2 n2 c2 g (H.out.1.keep (H4.out.2.1.tr h1).kp) H.out.2.1)
    have kx0 := cell_rg x0
    have kx1 := cell_rg x1
    clear x0 x1
    have hwb : wellB g = (rightB g && s) := by rw [wellB, ← HL.out.1, ← HV.out.2]
    rw [hwb] at cB
    clear hwb
    obtain ⟨r, hr⟩ : ∃ r, r = rightB g := ⟨_, rfl⟩
    rw [← hr] at cA cB
    cases r with
    | false =>
      have hs : s = true := by rw [HV.out.2, HL.out.1, idle_no hr.symm]; rfl
      subst hs
      have hkz : kl = 0 := by rw [HL.out.2, List.isEmpty_iff.1 HV.out.2.symm]; rfl
      have hd0 : decide (0 < kl) = false := decide_eq_false (by omega)
      clear hkz
      obtain rfl : v = 0 := by rw [HV.out.1, List.isEmpty_iff.1 HV.out.2.symm]; rfl
      have HR := Lib.hid hr
      clear hr
      simp only [Bool.and_false, Bool.false_and, Bool.and_true, Bool.true_and] at cB
      go_wp2_with fail
      refine wp_region_quiet_below (by kernel_rfl) (by kernel_rfl) ?_
      repeat (go_big_quiet_step (first | (with_reducible exact cA _ _) | (with_reducible exact cB _ _)))
      refine wpQuiet_nil ?_
      intro w5 hw5
      have hc5 := chg_of_rg hw5
      have H5 := Lib.hid (And.intro (hc5.heap H4.out.1 (by simp)) (And.intro (H4.out.2.1.tr hc5) (H4.out.2.2.keep hc5.kp)))
      clear hw5 hc5 cA cB kx0 kx1
      go_wp2_with fail
      have HP : Hid (l = pickL g.nodes.length (fun j => rightB g && idleB g j)) := Lib.hid (HL.out.1.trans (idle_pick g))
      go_loopg [7, 6] n2 (fun d nv mv wr => ∃ n c : Nat, d = n2 - n ∧ n ≤ n2 ∧ nv = .int .i64 n ∧ mv = .int .i64 c ∧ Hid (Chg [] w5 wr ∧ c = (pickL n (fun j => rightB g && idleB g j)).length))
      case atStart => exact ⟨0, 0, rfl, Nat.zero_le _, rfl, rfl, Lib.hid ⟨Chg.refl _ _, by simp [pickL]⟩⟩
      case round =>
        obtain ⟨n, c, rfl, hn, rfl, rfl, hin⟩ := hrel
        obtain ⟨wq, rfl⟩ : ∃ wz, wz = wr := ⟨_, rfl⟩
        have hcq := H5.out.2.1.tr hin.out.1
        have hbx := hin.out.1.heap H5.out.1 (by simp)
        obtain ⟨x0, x1⟩ := cells2 hbx
        by_cases hlt : n < n2
        · have hnl : n < g.nodes.length := by have := H.out.2.2.2; omega
          obtain ⟨bn, on, ak, nk, ck, rfl, hx⟩ := (H.out.1.keep hcq.kp).nodes n hnl
          obtain ⟨x, hxe⟩ : ∃ x, x = g.nodes[n] := ⟨_, rfl⟩
          rw [← hxe] at hx
          have hki := hx.ints
          have hkn := hx.len
          have hbn := World.block_lt_of_cell? _ _ hx.k
          simp only at hbn
          obtain ⟨h0, h1, h2, h3, h4, h5, h6, h7, h8, q1, q2, q3, q4⟩ := hx
          have hnk : nk ≤ 9223372036854775807 := by simp only [maxLen] at q3; omega
          have hca := (Chg.refl [] wq).alloc (.cells #[.int .i64 x.k, .int .u64 x.c0, .int .u64 x.c1, .int .u64 x.c2, .int .u64 x.c3, .string x.s, .int .i64 x.r, .int .i64 x.l, .slice ak nk ck] 32)
          have hbn2 := heap_alloc_same wq (.cells #[.int .i64 x.k, .int .u64 x.c0, .int .u64 x.c1, .int .u64 x.c2, .int .u64 x.c3, .string x.s, .int .i64 x.r, .int .i64 x.l, .slice ak nk ck] 32)
          obtain ⟨u0, -, -, -, -, -, -, -, u8⟩ := cells9 hbn2
          obtain ⟨g0, g1⟩ := cells2 (hca.heap hbx (by simp))
          have cA := calls_rg (w := wq.alloc (.cells #[.int .i64 x.k, .int .u64 x.c0, .int .u64 x.c1, .int .u64 x.c2, .int .u64 x.c3, .string x.s, .int .i64 x.r, .int .i64 x.l, .slice ak nk ck] 32)) (fun w1 h1 => Right_any w1 a1 n1 c1 _ n2 c2 g (H.out.1.keep ((hcq.tr hca).tr h1).kp))
          rw [← HR.out] at cA
          have HQ := Lib.hid (And.intro (hcq.tr hca) (And.intro (hca.heap hbx (by simp)) (And.intro hxe (And.intro hnl (And.intro (hin.out.1.tr hca) (And.intro (hki.keep hca.kp) hkn))))))
          have ku0 := cell_rg u0
          have ku8 := cell_rg u8
          have kg0 := cell_rg g0
          have kg1 := cell_rg g1
          clear hcq hbx hca hbn2 q1 q2 q3 q4 u0 u8 g0 g1 hki hkn hxe
          go_wp2_with fail
          clear x0 x1 h0 h1 h2 h3 h4 h5 h6 h7 h8 hbn
          obtain ⟨wb, hwb⟩ : ∃ wb, wb = wq.alloc (.cells #[.int .i64 x.k, .int .u64 x.c0, .int .u64 x.c1, .int .u64 x.c2, .int .u64 x.c3, .string x.s, .int .i64 x.r, .int .i64 x.l, .slice ak nk ck] 32) := ⟨_, rfl⟩
          simp only [← hwb] at ku0 ku8 kg0 kg1 HQ cA ⊢
          clear hwb
          refine wp_region_quiet_below (by kernel_rfl) (by kernel_rfl) ?_
          repeat (go_big_quiet_step (first | (with_reducible exact cA _ _)))
          refine wpQuiet_nil ?_
          intro w8 hw8
          have hc8 := chg_of_rg hw8
          have hF : (rightB g && idleB g n) = false := by rw [← HR.out]; rfl
          have hmem : decide ((n : Int) ∈ idleL g) = false := by
            rw [idle_pick, ← hF, Bool.eq_iff_iff, decide_eq_true_eq, pickW_mem]
            constructor
            · rintro ⟨q, h1, _, h3⟩
              obtain rfl : n = q := by omega
              exact h3
            · intro h; exact ⟨n, rfl, HQ.out.2.2.2.1, h⟩
          have hI := wellIdle_any w8 a1 n1 c1 _ n2 c2 g (H.out.1.keep (HQ.out.1.tr hc8).kp) H.out.2.1 (n : Int)
          rw [hmem] at hI
          have H8 := Lib.hid (And.intro (hc8.heap HQ.out.2.1 (by simp)) (And.intro (HQ.out.2.2.2.2.1.tr hc8) hF))
          clear hw8 hc8 hmem hF  cA ku0 ku8 kg0 kg1
          obtain ⟨x0, x1⟩ := cells2 H8.out.1
          go_wp2_with fail
          refine hI.mono ?_
          clear hI x0 x1
          rintro e w9 ⟨rfl, hc9⟩
          have H9 := Lib.hid (H8.out.2.1.tr hc9)
          clear hc9
          go_wp2_with fail
          go_roundg (n2 - (n + 1))
          case measure => omega
          case rel => exact ⟨n + 1, c, rfl, by omega, by go_num, rfl, Lib.hid ⟨H9.out, by rw [pickW_next, H8.out.2.2, ← hin.out.2]; rfl⟩⟩
        · obtain rfl : n = n2 := by omega
          obtain rfl : c = kl := by rw [hin.out.2, HL.out.2, HP.out, ← H.out.2.2.2]
          have HC := Lib.hid hcq
          clear hcq hbx
          go_wp2_with fail
          go_ret
          exact ⟨rfl, HC.out⟩
    | true =>
      have HR := Lib.hid hr
      clear hr
      cases s with
      | true =>
        have hkz : kl = 0 := by rw [HL.out.2, List.isEmpty_iff.1 HV.out.2.symm]; rfl
        have hd0 : decide (0 < kl) = false := decide_eq_false (by omega)
        clear hkz
        obtain rfl : v = 0 := by rw [HV.out.1, List.isEmpty_iff.1 HV.out.2.symm]; rfl
        simp only [Bool.and_false, Bool.false_and, Bool.and_true, Bool.true_and] at cB
        go_wp2_with fail
        refine wp_region_quiet_below (by kernel_rfl) (by kernel_rfl) ?_
        repeat (go_big_quiet_step (first | (with_reducible exact cA _ _) | (with_reducible exact cB _ _)))
        refine wpQuiet_nil ?_
        intro w5 hw5
        have hc5 := chg_of_rg hw5
        have H5 := Lib.hid (And.intro (hc5.heap H4.out.1 (by simp)) (And.intro (H4.out.2.1.tr hc5) (H4.out.2.2.keep hc5.kp)))
        clear hw5 hc5 cA cB kx0 kx1
        go_wp2_with fail
        have HP : Hid (l = pickL g.nodes.length (fun j => rightB g && idleB g j)) := Lib.hid (HL.out.1.trans (idle_pick g))
        go_loopg [7, 6] n2 (fun d nv mv wr => ∃ n c : Nat, d = n2 - n ∧ n ≤ n2 ∧ nv = .int .i64 n ∧ mv = .int .i64 c ∧ Hid (Chg [] w5 wr ∧ c = (pickL n (fun j => rightB g && idleB g j)).length))
        case atStart => exact ⟨0, 0, rfl, Nat.zero_le _, rfl, rfl, Lib.hid ⟨Chg.refl _ _, by simp [pickL]⟩⟩
        case round =>
          obtain ⟨n, c, rfl, hn, rfl, rfl, hin⟩ := hrel
          obtain ⟨wq, rfl⟩ : ∃ wz, wz = wr := ⟨_, rfl⟩
          have hcq := H5.out.2.1.tr hin.out.1
          have hbx := hin.out.1.heap H5.out.1 (by simp)
          obtain ⟨x0, x1⟩ := cells2 hbx
          by_cases hlt : n < n2
          · have hnl : n < g.nodes.length := by have := H.out.2.2.2; omega
            obtain ⟨bn, on, ak, nk, ck, rfl, hx⟩ := (H.out.1.keep hcq.kp).nodes n hnl
            obtain ⟨x, hxe⟩ : ∃ x, x = g.nodes[n] := ⟨_, rfl⟩
            rw [← hxe] at hx
            have hki := hx.ints
            have hkn := hx.len
            have hbn := World.block_lt_of_cell? _ _ hx.k
            simp only at hbn
            obtain ⟨h0, h1, h2, h3, h4, h5, h6, h7, h8, q1, q2, q3, q4⟩ := hx
            have hnk : nk ≤ 9223372036854775807 := by simp only [maxLen] at q3; omega
            have hca := (Chg.refl [] wq).alloc (.cells #[.int .i64 x.k, .int .u64 x.c0, .int .u64 x.c1, .int .u64 x.c2, .int .u64 x.c3, .string x.s, .int .i64 x.r, .int .i64 x.l, .slice ak nk ck] 32)
            have hbn2 := heap_alloc_same wq (.cells #[.int .i64 x.k, .int .u64 x.c0, .int .u64 x.c1, .int .u64 x.c2, .int .u64 x.c3, .string x.s, .int .i64 x.r, .int .i64 x.l, .slice ak nk ck] 32)
            obtain ⟨u0, -, -, -, -, -, -, -, u8⟩ := cells9 hbn2
            obtain ⟨g0, g1⟩ := cells2 (hca.heap hbx (by simp))
            have cA := calls_rg (w := wq.alloc (.cells #[.int .i64 x.k, .int .u64 x.c0, .int .u64 x.c1, .int .u64 x.c2, .int .u64 x.c3, .string x.s, .int .i64 x.r, .int .i64 x.l, .slice ak nk ck] 32)) (fun w1 h1 => Right_any w1 a1 n1 c1 _ n2 c2 g (H.out.1.keep ((hcq.tr hca).tr h1).kp))
            rw [← HR.out] at cA
            have HQ := Lib.hid (And.intro (hcq.tr hca) (And.intro (hca.heap hbx (by simp)) (And.intro hxe (And.intro hnl (And.intro (hin.out.1.tr hca) (And.intro (hki.keep hca.kp) hkn))))))
            have ku0 := cell_rg u0
            have ku8 := cell_rg u8
            have kg0 := cell_rg g0
            have kg1 := cell_rg g1
            clear hcq hbx hca hbn2 q1 q2 q3 q4 u0 u8 g0 g1 hki hkn hxe
            go_wp2_with fail
            clear x0 x1 h0 h1 h2 h3 h4 h5 h6 h7 h8 hbn
            obtain ⟨wb, hwb⟩ : ∃ wb, wb = wq.alloc (.cells #[.int .i64 x.k, .int .u64 x.c0, .int .u64 x.c1, .int .u64 x.c2, .int .u64 x.c3, .string x.s, .int .i64 x.r, .int .i64 x.l, .slice ak nk ck] 32) := ⟨_, rfl⟩
            simp only [← hwb] at ku0 ku8 kg0 kg1 HQ cA ⊢
            clear hwb
            by_cases hk : x.k = 8
            · have e8 : (x.k == 8) = true := by rw [hk]; rfl
              have hone : x.kids.length = 1 := by
                have := right_rep HR.out.symm HQ.out.2.2.2.1 (by rw [← HQ.out.2.2.1]; omega)
                rw [HQ.out.2.2.1]; exact this
              have hnk1 : 0 < nk := by rw [HQ.out.2.2.2.2.2.2, hone]; omega
              obtain ⟨bk, ok, rfl, hcz0⟩ := HQ.out.2.2.2.2.2.1 0 (by omega)
              rw [Nat.add_zero] at hcz0
              obtain ⟨z, hz⟩ : ∃ z, z = x.kids[0]'(by omega) := ⟨_, rfl⟩
              rw [← hz] at hcz0
              have hzr := right_kids HR.out.symm HQ.out.2.2.2.1 z (by rw [← HQ.out.2.2.1, hz]; exact List.getElem_mem _)
              obtain ⟨b, hb⟩ : ∃ b, b = mayG g z := ⟨_, rfl⟩
              have hnI : nodeI g z = b := by
                rw [hb]; unfold nodeI
                rw [← HR.out, decide_eq_true (show (0 : Int) ≤ z by omega), decide_eq_true hzr.2]; rfl
              have cC := calls_rg (w := wb) (fun w1 h1 => nullNode_any w1 a1 n1 c1 _ n2 c2 g (H.out.1.keep (HQ.out.1.tr h1).kp) H.out.2.1 z)
              rw [hnI] at cC
              have kz := cell_rg hcz0
              have hFb : (rightB g && idleB g n) = b := by
                rw [← HR.out, Bool.true_and]
                simp only [idleB, List.getElem?_eq_getElem HQ.out.2.2.2.1]
                rw [← HQ.out.2.2.1, hk, hb, hz]
                have hd : x.kids.headD 0 = x.kids[0]'(by omega) := by
                  obtain ⟨y, hy⟩ := List.length_eq_one_iff.1 hone
                  simp [hy]
                rw [hd]
                rfl
              have HF := Lib.hid hFb
              clear hone hcz0 hz hzr hb hnI hFb hk
              refine wp_region_quiet_below (by kernel_rfl) (by kernel_rfl) ?_
              repeat (go_big_quiet_step (first | (with_reducible exact cA _ _) | (with_reducible exact cC _ _)))
              refine wpQuiet_nil ?_
              cases b with
              | true =>
                intro w8 hw8
                have hc8 := chg_of_rg hw8
                have hF : (rightB g && idleB g n) = true := HF.out
                have hmem : decide ((n : Int) ∈ idleL g) = true := by
                  rw [idle_pick, ← hF, Bool.eq_iff_iff, decide_eq_true_eq, pickW_mem]
                  constructor
                  · rintro ⟨q, h1, _, h3⟩
                    obtain rfl : n = q := by omega
                    exact h3
                  · intro h; exact ⟨n, rfl, HQ.out.2.2.2.1, h⟩
                have hI := wellIdle_any w8 a1 n1 c1 _ n2 c2 g (H.out.1.keep (HQ.out.1.tr hc8).kp) H.out.2.1 (n : Int)
                rw [hmem] at hI
                have H8 := Lib.hid (And.intro (hc8.heap HQ.out.2.1 (by simp)) (And.intro (HQ.out.2.2.2.2.1.tr hc8) hF))
                clear hw8 hc8 hmem hF cC kz e8 cA ku0 ku8 kg0 kg1
                obtain ⟨x0, x1⟩ := cells2 H8.out.1
                go_wp2_with fail
                refine hI.mono ?_
                clear hI x0 x1
                rintro e w9 ⟨rfl, hc9⟩
                have h19 := H8.out.2.1.tr hc9
                obtain ⟨p1, p2⟩ := pickW_at (F := fun j => rightB g && idleB g j) HQ.out.2.2.2.1 H8.out.2.2
                have hck : c < kl := by rw [HL.out.2, HP.out, hin.out.2]; exact p1
                have hat : l[c]? = some (n : Int) := by rw [HP.out, hin.out.2, List.getElem?_eq_getElem p1, p2]
                obtain ⟨hcl, hat⟩ := List.getElem?_eq_some_iff.1 hat
                obtain ⟨bt, ot, ha, hcz⟩ := (H5.out.2.2.keep h19.kp) c hcl
                cases ha
                rw [hat] at hcz
                have hge : decide (kl ≤ c) = false := decide_eq_false (by omega)
                have H9 := Lib.hid h19
                clear hc9 h19 p1 p2 hat hcl
                go_wp2_with fail
                go_roundg (n2 - (n + 1))
                case measure => omega
                case rel => exact ⟨n + 1, c + 1, rfl, by omega, by go_num, by go_num, Lib.hid ⟨H9.out, by rw [pickW_next, H8.out.2.2, ← hin.out.2]; rfl⟩⟩
              | false =>
                intro w8 hw8
                have hc8 := chg_of_rg hw8
                have hF : (rightB g && idleB g n) = false := HF.out
                have hmem : decide ((n : Int) ∈ idleL g) = false := by
                  rw [idle_pick, ← hF, Bool.eq_iff_iff, decide_eq_true_eq, pickW_mem]
                  constructor
                  · rintro ⟨q, h1, _, h3⟩
                    obtain rfl : n = q := by omega
                    exact h3
                  · intro h; exact ⟨n, rfl, HQ.out.2.2.2.1, h⟩
                have hI := wellIdle_any w8 a1 n1 c1 _ n2 c2 g (H.out.1.keep (HQ.out.1.tr hc8).kp) H.out.2.1 (n : Int)
                rw [hmem] at hI
                have H8 := Lib.hid (And.intro (hc8.heap HQ.out.2.1 (by simp)) (And.intro (HQ.out.2.2.2.2.1.tr hc8) hF))
                clear hw8 hc8 hmem hF cC kz e8 cA ku0 ku8 kg0 kg1
                obtain ⟨x0, x1⟩ := cells2 H8.out.1
                go_wp2_with fail
                refine hI.mono ?_
                clear hI x0 x1
                rintro e w9 ⟨rfl, hc9⟩
                have H9 := Lib.hid (H8.out.2.1.tr hc9)
                clear hc9
                go_wp2_with fail
                go_roundg (n2 - (n + 1))
                case measure => omega
                case rel => exact ⟨n + 1, c, rfl, by omega, by go_num, rfl, Lib.hid ⟨H9.out, by rw [pickW_next, H8.out.2.2, ← hin.out.2]; rfl⟩⟩
            · by_cases hk9 : x.k = 9
              · have e8 : (x.k == 8) = false := by rw [hk9]; rfl
                have e9 : (x.k == 9) = true := by rw [hk9]; rfl
                have hone : x.kids.length = 1 := by
                  have := right_rep HR.out.symm HQ.out.2.2.2.1 (by rw [← HQ.out.2.2.1]; omega)
                  rw [HQ.out.2.2.1]; exact this
                have hnk1 : 0 < nk := by rw [HQ.out.2.2.2.2.2.2, hone]; omega
                obtain ⟨bk, ok, rfl, hcz0⟩ := HQ.out.2.2.2.2.2.1 0 (by omega)
                rw [Nat.add_zero] at hcz0
                obtain ⟨z, hz⟩ : ∃ z, z = x.kids[0]'(by omega) := ⟨_, rfl⟩
                rw [← hz] at hcz0
                have hzr := right_kids HR.out.symm HQ.out.2.2.2.1 z (by rw [← HQ.out.2.2.1, hz]; exact List.getElem_mem _)
                obtain ⟨b, hb⟩ : ∃ b, b = mayG g z := ⟨_, rfl⟩
                have hnI : nodeI g z = b := by
                  rw [hb]; unfold nodeI
                  rw [← HR.out, decide_eq_true (show (0 : Int) ≤ z by omega), decide_eq_true hzr.2]; rfl
                have cC := calls_rg (w := wb) (fun w1 h1 => nullNode_any w1 a1 n1 c1 _ n2 c2 g (H.out.1.keep (HQ.out.1.tr h1).kp) H.out.2.1 z)
                rw [hnI] at cC
                have kz := cell_rg hcz0
                have hFb : (rightB g && idleB g n) = b := by
                  rw [← HR.out, Bool.true_and]
                  simp only [idleB, List.getElem?_eq_getElem HQ.out.2.2.2.1]
                  rw [← HQ.out.2.2.1, hk9, hb, hz]
                  have hd : x.kids.headD 0 = x.kids[0]'(by omega) := by
                    obtain ⟨y, hy⟩ := List.length_eq_one_iff.1 hone
                    simp [hy]
                  rw [hd]
                  rfl
                have HF := Lib.hid hFb
                clear hone hcz0 hz hzr hb hnI hFb hk hk9
                refine wp_region_quiet_below (by kernel_rfl) (by kernel_rfl) ?_
                repeat (go_big_quiet_step (first | (with_reducible exact cA _ _) | (with_reducible exact cC _ _)))
                refine wpQuiet_nil ?_
                cases b with
                | true =>
                  intro w8 hw8
                  have hc8 := chg_of_rg hw8
                  have hF : (rightB g && idleB g n) = true := HF.out
                  have hmem : decide ((n : Int) ∈ idleL g) = true := by
                    rw [idle_pick, ← hF, Bool.eq_iff_iff, decide_eq_true_eq, pickW_mem]
                    constructor
                    · rintro ⟨q, h1, _, h3⟩
                      obtain rfl : n = q := by omega
                      exact h3
                    · intro h; exact ⟨n, rfl, HQ.out.2.2.2.1, h⟩
                  have hI := wellIdle_any w8 a1 n1 c1 _ n2 c2 g (H.out.1.keep (HQ.out.1.tr hc8).kp) H.out.2.1 (n : Int)
                  rw [hmem] at hI
                  have H8 := Lib.hid (And.intro (hc8.heap HQ.out.2.1 (by simp)) (And.intro (HQ.out.2.2.2.2.1.tr hc8) hF))
                  clear hw8 hc8 hmem hF cC kz e8 e9 cA ku0 ku8 kg0 kg1
                  obtain ⟨x0, x1⟩ := cells2 H8.out.1
                  go_wp2_with fail
                  refine hI.mono ?_
                  clear hI x0 x1
                  rintro e w9 ⟨rfl, hc9⟩
                  have h19 := H8.out.2.1.tr hc9
                  obtain ⟨p1, p2⟩ := pickW_at (F := fun j => rightB g && idleB g j) HQ.out.2.2.2.1 H8.out.2.2
                  have hck : c < kl := by rw [HL.out.2, HP.out, hin.out.2]; exact p1
                  have hat : l[c]? = some (n : Int) := by rw [HP.out, hin.out.2, List.getElem?_eq_getElem p1, p2]
                  obtain ⟨hcl, hat⟩ := List.getElem?_eq_some_iff.1 hat
                  obtain ⟨bt, ot, ha, hcz⟩ := (H5.out.2.2.keep h19.kp) c hcl
                  cases ha
                  rw [hat] at hcz
                  have hge : decide (kl ≤ c) = false := decide_eq_false (by omega)
                  have H9 := Lib.hid h19
                  clear hc9 h19 p1 p2 hat hcl
                  go_wp2_with fail
                  go_roundg (n2 - (n + 1))
                  case measure => omega
                  case rel => exact ⟨n + 1, c + 1, rfl, by omega, by go_num, by go_num, Lib.hid ⟨H9.out, by rw [pickW_next, H8.out.2.2, ← hin.out.2]; rfl⟩⟩
                | false =>
                  intro w8 hw8
                  have hc8 := chg_of_rg hw8
                  have hF : (rightB g && idleB g n) = false := HF.out
                  have hmem : decide ((n : Int) ∈ idleL g) = false := by
                    rw [idle_pick, ← hF, Bool.eq_iff_iff, decide_eq_true_eq, pickW_mem]
                    constructor
                    · rintro ⟨q, h1, _, h3⟩
                      obtain rfl : n = q := by omega
                      exact h3
                    · intro h; exact ⟨n, rfl, HQ.out.2.2.2.1, h⟩
                  have hI := wellIdle_any w8 a1 n1 c1 _ n2 c2 g (H.out.1.keep (HQ.out.1.tr hc8).kp) H.out.2.1 (n : Int)
                  rw [hmem] at hI
                  have H8 := Lib.hid (And.intro (hc8.heap HQ.out.2.1 (by simp)) (And.intro (HQ.out.2.2.2.2.1.tr hc8) hF))
                  clear hw8 hc8 hmem hF cC kz e8 e9 cA ku0 ku8 kg0 kg1
                  obtain ⟨x0, x1⟩ := cells2 H8.out.1
                  go_wp2_with fail
                  refine hI.mono ?_
                  clear hI x0 x1
                  rintro e w9 ⟨rfl, hc9⟩
                  have H9 := Lib.hid (H8.out.2.1.tr hc9)
                  clear hc9
                  go_wp2_with fail
                  go_roundg (n2 - (n + 1))
                  case measure => omega
                  case rel => exact ⟨n + 1, c, rfl, by omega, by go_num, rfl, Lib.hid ⟨H9.out, by rw [pickW_next, H8.out.2.2, ← hin.out.2]; rfl⟩⟩
              · have e8 : (x.k == 8) = false := by simpa using hk
                have e9 : (x.k == 9) = false := by simpa using hk9
                have hFb : (rightB g && idleB g n) = false := by
                  rw [← HR.out, Bool.true_and]
                  simp only [idleB, List.getElem?_eq_getElem HQ.out.2.2.2.1]
                  rw [← HQ.out.2.2.1, decide_eq_false hk, decide_eq_false hk9]
                  rfl
                have HF := Lib.hid hFb
                clear hFb hk hk9
                refine wp_region_quiet_below (by kernel_rfl) (by kernel_rfl) ?_
                repeat (go_big_quiet_step (first | (with_reducible exact cA _ _)))
                refine wpQuiet_nil ?_
                intro w8 hw8
                have hc8 := chg_of_rg hw8
                have hF : (rightB g && idleB g n) = false := HF.out
                have hmem : decide ((n : Int) ∈ idleL g) = false := by
                  rw [idle_pick, ← hF, Bool.eq_iff_iff, decide_eq_true_eq, pickW_mem]
                  constructor
                  · rintro ⟨q, h1, _, h3⟩
                    obtain rfl : n = q := by omega
                    exact h3
                  · intro h; exact ⟨n, rfl, HQ.out.2.2.2.1, h⟩
                have hI := wellIdle_any w8 a1 n1 c1 _ n2 c2 g (H.out.1.keep (HQ.out.1.tr hc8).kp) H.out.2.1 (n : Int)
                rw [hmem] at hI
                have H8 := Lib.hid (And.intro (hc8.heap HQ.out.2.1 (by simp)) (And.intro (HQ.out.2.2.2.2.1.tr hc8) hF))
                clear hw8 hc8 hmem hF e8 e9 cA ku0 ku8 kg0 kg1
                obtain ⟨x0, x1⟩ := cells2 H8.out.1
                go_wp2_with fail
                refine hI.mono ?_
                clear hI x0 x1
                rintro e w9 ⟨rfl, hc9⟩
                have H9 := Lib.hid (H8.out.2.1.tr hc9)
                clear hc9
                go_wp2_with fail
                go_roundg (n2 - (n + 1))
                case measure => omega
                case rel => exact ⟨n + 1, c, rfl, by omega, by go_num, rfl, Lib.hid ⟨H9.out, by rw [pickW_next, H8.out.2.2, ← hin.out.2]; rfl⟩⟩
          · obtain rfl : n = n2 := by omega
            obtain rfl : c = kl := by rw [hin.out.2, HL.out.2, HP.out, ← H.out.2.2.2]
            have HC := Lib.hid hcq
            clear hcq hbx
            go_wp2_with fail
            go_ret
            exact ⟨rfl, HC.out⟩
      | false =>
        have hk0 : 0 < l.length := by
          cases hl0 : l with
          | nil => have := HV.out.2; rw [hl0] at this; cases this
          | cons y ys => simp
        have hkl0 : 0 < kl := by rw [HL.out.2]; exact hk0
        obtain ⟨bt, ot, rfl, hcz⟩ := H4.out.2.2 0 hk0
        rw [Nat.add_zero] at hcz
        have hve : l[0] = v := by rw [HV.out.1]; exact head_at hk0
        rw [hve] at hcz
        have kcz := cell_rg hcz
        clear hve hcz hk0
        simp only [Bool.and_false, Bool.false_and, Bool.and_true, Bool.true_and] at cB
        go_wp2_with fail
        refine wp_region_quiet_below (by kernel_rfl) (by kernel_rfl) ?_
        repeat (go_big_quiet_step (first | (with_reducible exact cA _ _) | (with_reducible exact cB _ _)))
        refine wpQuiet_nil ?_
        intro w5 hw5
        have hc5 := chg_of_rg hw5
        have H5 := Lib.hid (And.intro (hc5.heap H4.out.1 (by simp)) (And.intro (H4.out.2.1.tr hc5) (H4.out.2.2.keep hc5.kp)))
        clear kcz hw5 hc5 cA cB kx0 kx1
        go_wp2_with fail
        have HP : Hid (l = pickL g.nodes.length (fun j => rightB g && idleB g j)) := Lib.hid (HL.out.1.trans (idle_pick g))
        go_loopg [7, 6] n2 (fun d nv mv wr => ∃ n c : Nat, d = n2 - n ∧ n ≤ n2 ∧ nv = .int .i64 n ∧ mv = .int .i64 c ∧ Hid (Chg [] w5 wr ∧ c = (pickL n (fun j => rightB g && idleB g j)).length))
        case atStart => exact ⟨0, 0, rfl, Nat.zero_le _, rfl, rfl, Lib.hid ⟨Chg.refl _ _, by simp [pickL]⟩⟩
        case round =>
          obtain ⟨n, c, rfl, hn, rfl, rfl, hin⟩ := hrel
          obtain ⟨wq, rfl⟩ : ∃ wz, wz = wr := ⟨_, rfl⟩
          have hcq := H5.out.2.1.tr hin.out.1
          have hbx := hin.out.1.heap H5.out.1 (by simp)
          obtain ⟨x0, x1⟩ := cells2 hbx
          by_cases hlt : n < n2
          · have hnl : n < g.nodes.length := by have := H.out.2.2.2; omega
            obtain ⟨bn, on, ak, nk, ck, rfl, hx⟩ := (H.out.1.keep hcq.kp).nodes n hnl
            obtain ⟨x, hxe⟩ : ∃ x, x = g.nodes[n] := ⟨_, rfl⟩
            rw [← hxe] at hx
            have hki := hx.ints
            have hkn := hx.len
            have hbn := World.block_lt_of_cell? _ _ hx.k
            simp only at hbn
            obtain ⟨h0, h1, h2, h3, h4, h5, h6, h7, h8, q1, q2, q3, q4⟩ := hx
            have hnk : nk ≤ 9223372036854775807 := by simp only [maxLen] at q3; omega
            have hca := (Chg.refl [] wq).alloc (.cells #[.int .i64 x.k, .int .u64 x.c0, .int .u64 x.c1, .int .u64 x.c2, .int .u64 x.c3, .string x.s, .int .i64 x.r, .int .i64 x.l, .slice ak nk ck] 32)
            have hbn2 := heap_alloc_same wq (.cells #[.int .i64 x.k, .int .u64 x.c0, .int .u64 x.c1, .int .u64 x.c2, .int .u64 x.c3, .string x.s, .int .i64 x.r, .int .i64 x.l, .slice ak nk ck] 32)
            obtain ⟨u0, -, -, -, -, -, -, -, u8⟩ := cells9 hbn2
            obtain ⟨g0, g1⟩ := cells2 (hca.heap hbx (by simp))
            have cA := calls_rg (w := wq.alloc (.cells #[.int .i64 x.k, .int .u64 x.c0, .int .u64 x.c1, .int .u64 x.c2, .int .u64 x.c3, .string x.s, .int .i64 x.r, .int .i64 x.l, .slice ak nk ck] 32)) (fun w1 h1 => Right_any w1 a1 n1 c1 _ n2 c2 g (H.out.1.keep ((hcq.tr hca).tr h1).kp))
            rw [← HR.out] at cA
            have HQ := Lib.hid (And.intro (hcq.tr hca) (And.intro (hca.heap hbx (by simp)) (And.intro hxe (And.intro hnl (And.intro (hin.out.1.tr hca) (And.intro (hki.keep hca.kp) hkn))))))
            have ku0 := cell_rg u0
            have ku8 := cell_rg u8
            have kg0 := cell_rg g0
            have kg1 := cell_rg g1
            clear hcq hbx hca hbn2 q1 q2 q3 q4 u0 u8 g0 g1 hki hkn hxe
            go_wp2_with fail
            clear x0 x1 h0 h1 h2 h3 h4 h5 h6 h7 h8 hbn
            obtain ⟨wb, hwb⟩ : ∃ wb, wb = wq.alloc (.cells #[.int .i64 x.k, .int .u64 x.c0, .int .u64 x.c1, .int .u64 x.c2, .int .u64 x.c3, .string x.s, .int .i64 x.r, .int .i64 x.l, .slice ak nk ck] 32) := ⟨_, rfl⟩
            simp only [← hwb] at ku0 ku8 kg0 kg1 HQ cA ⊢
            clear hwb
            by_cases hk : x.k = 8
            · have e8 : (x.k == 8) = true := by rw [hk]; rfl
              have hone : x.kids.length = 1 := by
                have := right_rep HR.out.symm HQ.out.2.2.2.1 (by rw [← HQ.out.2.2.1]; omega)
                rw [HQ.out.2.2.1]; exact this
              have hnk1 : 0 < nk := by rw [HQ.out.2.2.2.2.2.2, hone]; omega
              obtain ⟨bk, ok, rfl, hcz0⟩ := HQ.out.2.2.2.2.2.1 0 (by omega)
              rw [Nat.add_zero] at hcz0
              obtain ⟨z, hz⟩ : ∃ z, z = x.kids[0]'(by omega) := ⟨_, rfl⟩
              rw [← hz] at hcz0
              have hzr := right_kids HR.out.symm HQ.out.2.2.2.1 z (by rw [← HQ.out.2.2.1, hz]; exact List.getElem_mem _)
              obtain ⟨b, hb⟩ : ∃ b, b = mayG g z := ⟨_, rfl⟩
              have hnI : nodeI g z = b := by
                rw [hb]; unfold nodeI
                rw [← HR.out, decide_eq_true (show (0 : Int) ≤ z by omega), decide_eq_true hzr.2]; rfl
              have cC := calls_rg (w := wb) (fun w1 h1 => nullNode_any w1 a1 n1 c1 _ n2 c2 g (H.out.1.keep (HQ.out.1.tr h1).kp) H.out.2.1 z)
              rw [hnI] at cC
              have kz := cell_rg hcz0
              have hFb : (rightB g && idleB g n) = b := by
                rw [← HR.out, Bool.true_and]
                simp only [idleB, List.getElem?_eq_getElem HQ.out.2.2.2.1]
                rw [← HQ.out.2.2.1, hk, hb, hz]
                have hd : x.kids.headD 0 = x.kids[0]'(by omega) := by
                  obtain ⟨y, hy⟩ := List.length_eq_one_iff.1 hone
                  simp [hy]
                rw [hd]
                rfl
              have HF := Lib.hid hFb
              clear hone hcz0 hz hzr hb hnI hFb hk
              refine wp_region_quiet_below (by kernel_rfl) (by kernel_rfl) ?_
              repeat (go_big_quiet_step (first | (with_reducible exact cA _ _) | (with_reducible exact cC _ _)))
              refine wpQuiet_nil ?_
              cases b with
              | true =>
                intro w8 hw8
                have hc8 := chg_of_rg hw8
                have hF : (rightB g && idleB g n) = true := HF.out
                have hmem : decide ((n : Int) ∈ idleL g) = true := by
                  rw [idle_pick, ← hF, Bool.eq_iff_iff, decide_eq_true_eq, pickW_mem]
                  constructor
                  · rintro ⟨q, h1, _, h3⟩
                    obtain rfl : n = q := by omega
                    exact h3
                  · intro h; exact ⟨n, rfl, HQ.out.2.2.2.1, h⟩
                have hI := wellIdle_any w8 a1 n1 c1 _ n2 c2 g (H.out.1.keep (HQ.out.1.tr hc8).kp) H.out.2.1 (n : Int)
                rw [hmem] at hI
                have H8 := Lib.hid (And.intro (hc8.heap HQ.out.2.1 (by simp)) (And.intro (HQ.out.2.2.2.2.1.tr hc8) hF))
                clear hw8 hc8 hmem hF cC kz e8 cA ku0 ku8 kg0 kg1
                obtain ⟨x0, x1⟩ := cells2 H8.out.1
                go_wp2_with fail
                refine hI.mono ?_
                clear hI x0 x1
                rintro e w9 ⟨rfl, hc9⟩
                have h19 := H8.out.2.1.tr hc9
                obtain ⟨p1, p2⟩ := pickW_at (F := fun j => rightB g && idleB g j) HQ.out.2.2.2.1 H8.out.2.2
                have hck : c < kl := by rw [HL.out.2, HP.out, hin.out.2]; exact p1
                have hat : l[c]? = some (n : Int) := by rw [HP.out, hin.out.2, List.getElem?_eq_getElem p1, p2]
                obtain ⟨hcl, hat⟩ := List.getElem?_eq_some_iff.1 hat
                obtain ⟨bt, ot, ha, hcz⟩ := (H5.out.2.2.keep h19.kp) c hcl
                cases ha
                rw [hat] at hcz
                have hge : decide (kl ≤ c) = false := decide_eq_false (by omega)
                have H9 := Lib.hid h19
                clear hc9 h19 p1 p2 hat hcl
                go_wp2_with fail
                go_roundg (n2 - (n + 1))
                case measure => omega
                case rel => exact ⟨n + 1, c + 1, rfl, by omega, by go_num, by go_num, Lib.hid ⟨H9.out, by rw [pickW_next, H8.out.2.2, ← hin.out.2]; rfl⟩⟩
              | false =>
                intro w8 hw8
                have hc8 := chg_of_rg hw8
                have hF : (rightB g && idleB g n) = false := HF.out
                have hmem : decide ((n : Int) ∈ idleL g) = false := by
                  rw [idle_pick, ← hF, Bool.eq_iff_iff, decide_eq_true_eq, pickW_mem]
                  constructor
                  · rintro ⟨q, h1, _, h3⟩
                    obtain rfl : n = q := by omega
                    exact h3
                  · intro h; exact ⟨n, rfl, HQ.out.2.2.2.1, h⟩
                have hI := wellIdle_any w8 a1 n1 c1 _ n2 c2 g (H.out.1.keep (HQ.out.1.tr hc8).kp) H.out.2.1 (n : Int)
                rw [hmem] at hI
                have H8 := Lib.hid (And.intro (hc8.heap HQ.out.2.1 (by simp)) (And.intro (HQ.out.2.2.2.2.1.tr hc8) hF))
                clear hw8 hc8 hmem hF cC kz e8 cA ku0 ku8 kg0 kg1
                obtain ⟨x0, x1⟩ := cells2 H8.out.1
                go_wp2_with fail
                refine hI.mono ?_
                clear hI x0 x1
                rintro e w9 ⟨rfl, hc9⟩
                have H9 := Lib.hid (H8.out.2.1.tr hc9)
                clear hc9
                go_wp2_with fail
                go_roundg (n2 - (n + 1))
                case measure => omega
                case rel => exact ⟨n + 1, c, rfl, by omega, by go_num, rfl, Lib.hid ⟨H9.out, by rw [pickW_next, H8.out.2.2, ← hin.out.2]; rfl⟩⟩
            · by_cases hk9 : x.k = 9
              · have e8 : (x.k == 8) = false := by rw [hk9]; rfl
                have e9 : (x.k == 9) = true := by rw [hk9]; rfl
                have hone : x.kids.length = 1 := by
                  have := right_rep HR.out.symm HQ.out.2.2.2.1 (by rw [← HQ.out.2.2.1]; omega)
                  rw [HQ.out.2.2.1]; exact this
                have hnk1 : 0 < nk := by rw [HQ.out.2.2.2.2.2.2, hone]; omega
                obtain ⟨bk, ok, rfl, hcz0⟩ := HQ.out.2.2.2.2.2.1 0 (by omega)
                rw [Nat.add_zero] at hcz0
                obtain ⟨z, hz⟩ : ∃ z, z = x.kids[0]'(by omega) := ⟨_, rfl⟩
                rw [← hz] at hcz0
                have hzr := right_kids HR.out.symm HQ.out.2.2.2.1 z (by rw [← HQ.out.2.2.1, hz]; exact List.getElem_mem _)
                obtain ⟨b, hb⟩ : ∃ b, b = mayG g z := ⟨_, rfl⟩
                have hnI : nodeI g z = b := by
                  rw [hb]; unfold nodeI
                  rw [← HR.out, decide_eq_true (show (0 : Int) ≤ z by omega), decide_eq_true hzr.2]; rfl
                have cC := calls_rg (w := wb) (fun w1 h1 => nullNode_any w1 a1 n1 c1 _ n2 c2 g (H.out.1.keep (HQ.out.1.tr h1).kp) H.out.2.1 z)
                rw [hnI] at cC
                have kz := cell_rg hcz0
                have hFb : (rightB g && idleB g n) = b := by
                  rw [← HR.out, Bool.true_and]
                  simp only [idleB, List.getElem?_eq_getElem HQ.out.2.2.2.1]
                  rw [← HQ.out.2.2.1, hk9, hb, hz]
                  have hd : x.kids.headD 0 = x.kids[0]'(by omega) := by
                    obtain ⟨y, hy⟩ := List.length_eq_one_iff.1 hone
                    simp [hy]
                  rw [hd]
                  rfl
                have HF := Lib.hid hFb
                clear hone hcz0 hz hzr hb hnI hFb hk hk9
                refine wp_region_quiet_below (by kernel_rfl) (by kernel_rfl) ?_
                repeat (go_big_quiet_step (first | (with_reducible exact cA _ _) | (with_reducible exact cC _ _)))
                refine wpQuiet_nil ?_
                cases b with
                | true =>
                  intro w8 hw8
                  have hc8 := chg_of_rg hw8
                  have hF : (rightB g && idleB g n) = true := HF.out
                  have hmem : decide ((n : Int) ∈ idleL g) = true := by
                    rw [idle_pick, ← hF, Bool.eq_iff_iff, decide_eq_true_eq, pickW_mem]
                    constructor
                    · rintro ⟨q, h1, _, h3⟩
                      obtain rfl : n = q := by omega
                      exact h3
                    · intro h; exact ⟨n, rfl, HQ.out.2.2.2.1, h⟩
                  have hI := wellIdle_any w8 a1 n1 c1 _ n2 c2 g (H.out.1.keep (HQ.out.1.tr hc8).kp) H.out.2.1 (n : Int)
                  rw [hmem] at hI
                  have H8 := Lib.hid (And.intro (hc8.heap HQ.out.2.1 (by simp)) (And.intro (HQ.out.2.2.2.2.1.tr hc8) hF))
                  clear hw8 hc8 hmem hF cC kz e8 e9 cA ku0 ku8 kg0 kg1
                  obtain ⟨x0, x1⟩ := cells2 H8.out.1
                  go_wp2_with fail
                  refine hI.mono ?_
                  clear hI x0 x1
                  rintro e w9 ⟨rfl, hc9⟩
                  have h19 := H8.out.2.1.tr hc9
                  obtain ⟨p1, p2⟩ := pickW_at (F := fun j => rightB g && idleB g j) HQ.out.2.2.2.1 H8.out.2.2
                  have hck : c < kl := by rw [HL.out.2, HP.out, hin.out.2]; exact p1
                  have hat : l[c]? = some (n : Int) := by rw [HP.out, hin.out.2, List.getElem?_eq_getElem p1, p2]
                  obtain ⟨hcl, hat⟩ := List.getElem?_eq_some_iff.1 hat
                  obtain ⟨bt, ot, ha, hcz⟩ := (H5.out.2.2.keep h19.kp) c hcl
                  cases ha
                  rw [hat] at hcz
                  have hge : decide (kl ≤ c) = false := decide_eq_false (by omega)
                  have H9 := Lib.hid h19
                  clear hc9 h19 p1 p2 hat hcl
                  go_wp2_with fail
                  go_roundg (n2 - (n + 1))
                  case measure => omega
                  case rel => exact ⟨n + 1, c + 1, rfl, by omega, by go_num, by go_num, Lib.hid ⟨H9.out, by rw [pickW_next, H8.out.2.2, ← hin.out.2]; rfl⟩⟩
                | false =>
                  intro w8 hw8
                  have hc8 := chg_of_rg hw8
                  have hF : (rightB g && idleB g n) = false := HF.out
                  have hmem : decide ((n : Int) ∈ idleL g) = false := by
                    rw [idle_pick, ← hF, Bool.eq_iff_iff, decide_eq_true_eq, pickW_mem]
                    constructor
                    · rintro ⟨q, h1, _, h3⟩
                      obtain rfl : n = q := by omega
                      exact h3
                    · intro h; exact ⟨n, rfl, HQ.out.2.2.2.1, h⟩
                  have hI := wellIdle_any w8 a1 n1 c1 _ n2 c2 g (H.out.1.keep (HQ.out.1.tr hc8).kp) H.out.2.1 (n : Int)
                  rw [hmem] at hI
                  have H8 := Lib.hid (And.intro (hc8.heap HQ.out.2.1 (by simp)) (And.intro (HQ.out.2.2.2.2.1.tr hc8) hF))
                  clear hw8 hc8 hmem hF cC kz e8 e9 cA ku0 ku8 kg0 kg1
                  obtain ⟨x0, x1⟩ := cells2 H8.out.1
                  go_wp2_with fail
                  refine hI.mono ?_
                  clear hI x0 x1
                  rintro e w9 ⟨rfl, hc9⟩
                  have H9 := Lib.hid (H8.out.2.1.tr hc9)
                  clear hc9
                  go_wp2_with fail
                  go_roundg (n2 - (n + 1))
                  case measure => omega
                  case rel => exact ⟨n + 1, c, rfl, by omega, by go_num, rfl, Lib.hid ⟨H9.out, by rw [pickW_next, H8.out.2.2, ← hin.out.2]; rfl⟩⟩
              · have e8 : (x.k == 8) = false := by simpa using hk
                have e9 : (x.k == 9) = false := by simpa using hk9
                have hFb : (rightB g && idleB g n) = false := by
                  rw [← HR.out, Bool.true_and]
                  simp only [idleB, List.getElem?_eq_getElem HQ.out.2.2.2.1]
                  rw [← HQ.out.2.2.1, decide_eq_false hk, decide_eq_false hk9]
                  rfl
                have HF := Lib.hid hFb
                clear hFb hk hk9
                refine wp_region_quiet_below (by kernel_rfl) (by kernel_rfl) ?_
                repeat (go_big_quiet_step (first | (with_reducible exact cA _ _)))
                refine wpQuiet_nil ?_
                intro w8 hw8
                have hc8 := chg_of_rg hw8
                have hF : (rightB g && idleB g n) = false := HF.out
                have hmem : decide ((n : Int) ∈ idleL g) = false := by
                  rw [idle_pick, ← hF, Bool.eq_iff_iff, decide_eq_true_eq, pickW_mem]
                  constructor
                  · rintro ⟨q, h1, _, h3⟩
                    obtain rfl : n = q := by omega
                    exact h3
                  · intro h; exact ⟨n, rfl, HQ.out.2.2.2.1, h⟩
                have hI := wellIdle_any w8 a1 n1 c1 _ n2 c2 g (H.out.1.keep (HQ.out.1.tr hc8).kp) H.out.2.1 (n : Int)
                rw [hmem] at hI
                have H8 := Lib.hid (And.intro (hc8.heap HQ.out.2.1 (by simp)) (And.intro (HQ.out.2.2.2.2.1.tr hc8) hF))
                clear hw8 hc8 hmem hF e8 e9 cA ku0 ku8 kg0 kg1
                obtain ⟨x0, x1⟩ := cells2 H8.out.1
                go_wp2_with fail
                refine hI.mono ?_
                clear hI x0 x1
                rintro e w9 ⟨rfl, hc9⟩
                have H9 := Lib.hid (H8.out.2.1.tr hc9)
                clear hc9
                go_wp2_with fail
                go_roundg (n2 - (n + 1))
                case measure => omega
                case rel => exact ⟨n + 1, c, rfl, by omega, by go_num, rfl, Lib.hid ⟨H9.out, by rw [pickW_next, H8.out.2.2, ← hin.out.2]; rfl⟩⟩
          · obtain rfl : n = n2 := by omega
            obtain rfl : c = kl := by rw [hin.out.2, HL.out.2, HP.out, ← H.out.2.2.2]
            have HC := Lib.hid hcq
            clear hcq hbx
            go_wp2_with fail
            go_ret
            exact ⟨rfl, HC.out⟩
end Go.Proofs.Ytibgfgfmljhimaa

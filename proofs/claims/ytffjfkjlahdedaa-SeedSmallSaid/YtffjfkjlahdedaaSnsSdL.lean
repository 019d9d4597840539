/-
  SeedDoes: whatever is done to a store, it is the document's.
  Conditions: none.
-/
import Derived.Test.YtffjfkjlahdedaaSnsSdP
import Derived.Test.YtffjfkjlahdedaaSnsSs1
import Derived.Test.YtffjfkjlahdedaaSnsSeedI
import Derived.Test.YtffjfkjlahdedaaSnsGIo
import Derived.Test.YtffjfkjlahdedaaSnsGAny
import Derived.Deep.CutRange
import Derived.Deep.CutBlock
set_option linter.unusedVariables false
set_option linter.unusedSimpArgs false
set_option linter.unnecessarySimpa false
namespace Go.Proofs.Ytffjfkjlahdedaa
open Go.RowKit Go.MapKept

set_option maxRecDepth 100000 in
set_option maxHeartbeats 16000000 in
theorem seedDoes_any (w : World) (a : Option Addr) (n c : Nat) (ds : List Ds) (hn : n = ds.length) (hc : n ≤ c) (hcm : c ≤ 9223372036854775807) (hd : Deeds w a ds) (hwf : ∀ y ∈ ds, y.Wf) (hnb : n ≤ 17592186044416) (htb : ∀ y ∈ ds, y.tree.length ≤ 17592186044416) :
    Calls Try.prog 5 #[.slice a n c] w fun e w' => e = .returned (.bool true) ∧ Chg [] w w' := by
  have h1 := size19_any w a n c ds hn hc hcm hd hnb htb
  have HH := Lib.hid (And.intro hn (And.intro hd hwf))
  clear hn hd hwf htb
  by_cases hn9 : 200 < n
  · have hn2 : decide (200 < (n : Int)) = true := decide_eq_true (by omega)
    clear h1
    go_enter Try.func5, Try.ntmps5
    go_wp2_with fail
    refine (awake19_any w).mono ?_
    rintro e w2 ⟨rfl, hc2⟩
    go_wp2_with fail
    go_ret
    exact ⟨rfl, hc2⟩
  have hn3 : n ≤ 200 := by omega
  have hn2 : decide (200 < (n : Int)) = false := decide_eq_false (by omega)
  go_enter Try.func5, Try.ntmps5
  go_wp2_with fail
  refine h1.mono ?_
  clear h1
  rintro e w1 ⟨m, rfl, hm, hc1⟩
  by_cases hm2 : 2000 < m
  · have hm3 : decide (2000 < (m : Int)) = true := decide_eq_true (by omega)
    go_wp2_with fail
    refine (awake19_any w1).mono ?_
    rintro e w2 ⟨rfl, hc2⟩
    go_wp2_with fail
    go_ret
    exact ⟨rfl, hc1.tr hc2⟩
  have hm3 : decide (2000 < (m : Int)) = false := decide_eq_false (by omega)
  have ht2 := size_few (ds := ds) (by have := hm (by omega); omega)
  have HT := Lib.hid ht2
  obtain ⟨b, hb⟩ : ∃ b, b = w1.heap.size := ⟨_, rfl⟩
  have h2 := newSQ w1
  rw [← hb] at h2
  have hb0 : w.heap.size ≤ b := by rw [hb]; exact hc1.size
  have HB0 := Lib.hid hb
  clear hm hm2 ht2 hb hn2 hn9
  go_wp2_with fail
  refine h2.mono ?_
  clear h2 hm3
  rintro e w2 ⟨rfl, hs2, hc2⟩
  have hb2 : b ≤ w2.heap.size := by rw [HB0.out]; exact hc2.size
  have hr3 := newRQ 0 b w2 hb2 (by omega)
  have hc3 := (hc1.tr hc2).alloc (.cells #[.slice none 0 0] 52)
  have hs3 := hs2.chg0 ((Chg.refl [] w2).alloc (.cells #[.slice none 0 0] 52))
  obtain ⟨RB, hRB⟩ : ∃ z, z = w2.heap.size := ⟨_, rfl⟩
  rw [← hRB] at hr3
  have H3 := Lib.hid (And.intro hs3 (And.intro hr3 (And.intro hc3 hRB)))
  clear hs2 hc2 hs3 hr3 hc3 hc1 hRB hb2
  go_wp2_with fail
  rw [← H3.out.2.2.2]
  go_loopg [3, 5] n (fun dd sv iv wr => ∃ i HB : Nat, dd = n - i ∧ i ≤ n ∧ sv = .pointer (some ⟨HB, 0, none⟩) ∧ iv = .int .i64 i ∧ Hid (∃ NB s, SQ NB b wr HB s ∧ RQ NB b wr RB s ∧ GoodT i s ∧ Chg [] w wr))
  case atStart => exact ⟨0, b + 1, rfl, Nat.zero_le _, rfl, rfl, Lib.hid ⟨0, [], H3.out.1, H3.out.2.1, GoodT.nil, H3.out.2.2.1⟩⟩
  case round =>
    obtain ⟨i, HB, rfl, hi, rfl, rfl, hI⟩ := hrel
    obtain ⟨wq, rfl⟩ : ∃ wq, wq = wr := ⟨_, rfl⟩
    by_cases hil : i < n
    · obtain ⟨NB, s, hs, hr, hg, hcq⟩ := hI.out
      have hiL : i < ds.length := by have := HH.out.1; omega
      obtain ⟨bd, od, ta, tn, tc, ea, hda⟩ := HH.out.2.1 i hiL
      have hda0 := hda
      replace hda := hda.chg0 hcq
      subst ea
      obtain ⟨y0, hy0'⟩ : ∃ z, z = ds[i] := ⟨_, rfl⟩
      have hwf := HH.out.2.2 _ (List.getElem_mem hiL)
      have htl := HT.out _ (List.getElem_mem hiL)
      rw [← hy0'] at hda hda0 hwf htl
      obtain ⟨what, rule, place, en, lv, tree⟩ := y0
      have htw0 := hda0.twigs
      obtain ⟨z0, z1, z2, z3, z4, z5, htn, htc, htm, hta0, htw⟩ := hda
      simp only at z0 z1 z2 z3 z4 z5 htn htw htl hwf htw0
      simp only [Ds.Wf] at hwf
      obtain ⟨hwh, hru, hpl, hen, hlv⟩ := hwf
      have hi1' : (i : Int) < n := by omega
      have hc5 := (Chg.refl [] wq).alloc (.cells #[.int .i64 what, .int .i64 rule, .int .i64 place, .int .i64 en, .int .i64 lv, .slice ta tn tc] 54)
      have HC5 := Lib.hid (hcq.tr hc5)
      have HQ := Lib.hid (And.intro hs (And.intro hr (And.intro hg (And.intro hcq (And.intro htn (And.intro htl (And.intro hta0 hen)))))))
      have HTI := Lib.hid htw0
      have htn2 : tn ≤ 2000 := by omega
      clear hs hr hg hcq htn htl hta0 hda0 hy0' hiL htw0 htw
      by_cases hA : 1099511627776 < lv
      · have hdA : decide ((1099511627776 : Int) < lv) = true := decide_eq_true hA
        clear hA hc5
        go_wp2_with fail
        refine (awake19_any _).mono ?_
        rintro e w6 ⟨rfl, hc6⟩
        go_wp2_with fail
        go_ret
        exact ⟨rfl, HC5.out.tr hc6⟩
      have hdA : decide ((1099511627776 : Int) < lv) = false := decide_eq_false hA
      by_cases hB : lv < -1099511627776
      · have hdB : decide (lv < (-1099511627776 : Int)) = true := decide_eq_true hB
        clear hA hB hc5
        go_wp2_with fail
        refine (awake19_any _).mono ?_
        rintro e w6 ⟨rfl, hc6⟩
        go_wp2_with fail
        go_ret
        exact ⟨rfl, HC5.out.tr hc6⟩
      have hdB : decide (lv < (-1099511627776 : Int)) = false := decide_eq_false hB
      by_cases hC : 1099511627776 < en
      · have hdC : decide ((1099511627776 : Int) < en) = true := decide_eq_true hC
        clear hA hB hC hc5
        go_wp2_with fail
        refine (awake19_any _).mono ?_
        rintro e w6 ⟨rfl, hc6⟩
        go_wp2_with fail
        go_ret
        exact ⟨rfl, HC5.out.tr hc6⟩
      have hdC : decide ((1099511627776 : Int) < en) = false := decide_eq_false hC
      have HLV := Lib.hid (And.intro (show -1099511627776 ≤ lv ∧ lv ≤ 1099511627776 by omega) (show -9223372036854775808 ≤ en ∧ en ≤ 1099511627776 from ⟨hen.1, by omega⟩))
      clear hA hB hC hen hlv HC5
      obtain ⟨w5, e5⟩ : ∃ z, z = wq.alloc (.cells #[.int .i64 what, .int .i64 rule, .int .i64 place, .int .i64 en, .int .i64 lv, .slice ta tn tc] 54) := ⟨_, rfl⟩
      have hd5 := heap_alloc_same wq (.cells #[.int .i64 what, .int .i64 rule, .int .i64 place, .int .i64 en, .int .i64 lv, .slice ta tn tc] 54)
      obtain ⟨D, hD⟩ : ∃ z, z = wq.heap.size := ⟨_, rfl⟩
      rw [← e5] at hc5 hd5
      rw [← hD] at hd5
      have hr5 := HQ.out.2.1
      obtain ⟨ra, rc, l, hrl, hls, hfp⟩ := hr5
      obtain ⟨ln, hln⟩ : ∃ z, z = l.length := ⟨_, rfl⟩
      have x0 := cells1 (hrl.chg0 hc5).top
      rw [← hln] at x0
      obtain ⟨k0, k1, k2, k3, k4, k5⟩ := cells6 hd5
      have hlen : ln = s.length := by rw [← hls, rss_len, hln]
      have H5 := Lib.hid (And.intro hc5 (And.intro hd5 (And.intro hD (And.intro hrl (And.intro hls (And.intro hln hlen))))))
      obtain ⟨m, hm⟩ : ∃ z, z = what % 6 := ⟨_, rfl⟩
      have hpick := fun W => pick_any what 6 W (by decide) (by decide) hwh.1 hwh.2
      simp only [← hm] at hpick
      have hm6 : 0 ≤ m ∧ m < 6 := by omega
      have HP := Lib.hid hpick
      have hpk5 := hpick w5
      clear hpick hm hwh hc5 hd5 hrl hls hln hfp hlen
      go_upto_region 10 with fail
      rw [← hD, ← e5]
      clear e5 hD hdA hdB hdC z0 z1 z2 z3 z4 z5
      go_cut [57] from 46 to 56 (fun v57 wx => ∃ t : Bool, v57 = .bool t ∧ wx = w5 ∧ Hid (t = true ↔ (m = 5 ∧ 0 < ln)))
      case first =>
        by_cases hm5 : m = 5
        · subst hm5
          go_wp2_with fail
          refine hpk5.mono ?_
          clear hpk5
          rintro e w6 ⟨rfl, rfl⟩
          go_wp2_with fail
          go_meet
          refine ⟨_, rfl, rfl, Lib.hid ?_⟩
          simp
        · have hq5 : (m == 5) = false := by simpa using hm5
          go_wp2_with fail
          refine hpk5.mono ?_
          clear hpk5
          rintro e w6 ⟨rfl, rfl⟩
          go_wp2_with fail
          go_meet
          exact ⟨_, rfl, rfl, Lib.hid (by simp [hm5])⟩
      case rest =>
        obtain ⟨t, rfl, e9, hcut⟩ := hcut
        rw [e9]
        clear hpk5 e9
        obtain ⟨⟨en', lv'⟩, het⟩ : ∃ z, z = turnT m s en lv := ⟨_, rfl⟩
        have hto := turnT_ok (m := m) HQ.out.2.2.1 HLV.out.2.1 HLV.out.2.2 HLV.out.1
        rw [← het] at hto
        have hto1 := hto.1
        have hto2 := hto.2
        simp only at hto1 hto2
        have HTO := Lib.hid (And.intro hto1 hto2)
        have HET := Lib.hid het
        clear hto hto1 hto2 het
        go_upto_if 57 with fail
        go_cut [8] from 22 to 176 (fun u8 wx => Hid (Chg [] wq wx ∧ wx.heap[D]? = some (.cells #[.int .i64 what, .int .i64 rule, .int .i64 place, .int .i64 en', .int .i64 lv', .slice ta tn tc] 54 (0, 0))))
        case first =>
          cases t with
          | false =>
            have hsame : turnT m s en lv = (en, lv) := turnT_same (fun h => by have := hcut.out.2 ⟨h.1, by rw [H5.out.2.2.2.2.2.2]; exact h.2⟩; cases this)
            have e1 := HET.out.trans hsame
            simp only [Prod.mk.injEq] at e1
            obtain ⟨rfl, rfl⟩ := e1
            go_wp2_with fail
            go_meet
            exact Lib.hid ⟨H5.out.1, H5.out.2.1⟩
          | true =>
            obtain ⟨rfl, hl0⟩ := hcut.out.1 rfl
            cases ln with
            | zero => omega
            | succ k =>
              have hkl : k < l.length := by have := H5.out.2.2.2.2.2.1; omega
              obtain ⟨G, eG, hc1, hc2, -, -, -, y3, -⟩ := (H5.out.2.2.2.1.chg0 H5.out.1).at hkl
              subst eG
              have hel := turnT_last (en := en) (lv := lv) (show k + 1 = l.length from H5.out.2.2.2.2.2.1) l[k] (List.getElem?_eq_getElem hkl)
              rw [H5.out.2.2.2.2.1] at hel
              have e1 := HET.out.trans hel
              simp only [Prod.mk.injEq] at e1
              have hE : Found.e l[k].f = en' - 1 := by have := e1.1; omega
              rw [hE] at y3
              have hw1 : IntKind.i64.wrap (((k + 1 : Nat) : Int) - 1) = k := by rw [show ((k + 1 : Nat) : Int) - 1 = k by omega]; exact IntWalk.i64_in _ (by omega)
              have hwk : IntKind.i64.wrap (k : Int) = k := IntWalk.i64_in _ (by omega)
              have hw2 : IntKind.i64.wrap (en' - 1 + 1) = en' := by rw [show en' - 1 + 1 = en' by omega]; exact IntWalk.i64_in _ (by have := HTO.out.1; omega)
              have hw3 : IntKind.i64.wrap en' = en' := IntWalk.i64_in _ (by have := HTO.out.1; omega)
              rw [← H5.out.2.2.2.2.2.1] at hc1
              have hkc : k + 1 ≤ rc := hc1
              have hkk : (k : Int) < (k : Int) + 1 := by omega
              have HE2 := Lib.hid e1.2
              clear e1 hel hE hl0 hc1
              go_upto_region 11 with fail
              go_still_tail 15, (by kernel_rfl)
              change wpList _ _ _ _ _ w5.drew
              have hdw := (Chg.refl [] w5).drew
              obtain ⟨w6, e6⟩ : ∃ z, z = w5.drew := ⟨_, rfl⟩
              rw [← e6] at hdw ⊢
              have hd6 := hdw.heap H5.out.2.1 (by simp)
              have f3 := free_of_cells hd6 3
              obtain ⟨r0, r1, r2, r3, r4, r5⟩ := cells6 hd6
              have g3 := heap_setCell_same hd6 3 (.int .i64 en')
              have hc6 := (Chg.refl [D] w6).setCell (p := ⟨D, 3, none⟩) (.inl (by simp)) (.int .i64 en')
              obtain ⟨w7, e7⟩ : ∃ z, z = w6.setCell ⟨D, 3, none⟩ (.int .i64 en') := ⟨_, rfl⟩
              rw [← e7] at g3 hc6
              have hc7 : Chg [] wq w7 := (H5.out.1.tr hdw).trans hc6 (fun j hj => .inr (by simp only [List.mem_singleton] at hj; rw [hj, H5.out.2.2.1]; exact Nat.le_refl _))
              have H7 := Lib.hid (And.intro g3 hc7)
              clear e6 hdw hd6 g3 hc6 hc7
              go_upto_region 12 with fail
              rw [← e7]
              clear e7 f3 y3 hw2 hw3 x0 r0 r1 r2 r3 r4 r5
              obtain ⟨G', eG, -, -, -, -, -, -, y4, -⟩ := (H5.out.2.2.2.1.chg0 H7.out.2).at hkl
              cases eG
              rw [← HE2.out] at y4
              have x0 := cells1 (H5.out.2.2.2.1.chg0 H7.out.2).top
              rw [← H5.out.2.2.2.2.2.1] at x0
              obtain ⟨k0, k1, k2, k3, k4, k5⟩ := cells6 H7.out.1
              go_still_tail 14, (by kernel_rfl)
              change wpList _ _ _ _ _ w7.drew
              have hdw := (Chg.refl [] w7).drew
              obtain ⟨w8, e8⟩ : ∃ z, z = w7.drew := ⟨_, rfl⟩
              rw [← e8] at hdw ⊢
              have hd8 := hdw.heap H7.out.1 (by simp)
              have f4 := free_of_cells hd8 4
              obtain ⟨r0, r1, r2, r3, r4, r5⟩ := cells6 hd8
              have g4 := heap_setCell_same hd8 4 (.int .i64 lv')
              have hc8 := (Chg.refl [D] w8).setCell (p := ⟨D, 4, none⟩) (.inl (by simp)) (.int .i64 lv')
              obtain ⟨w9, e9⟩ : ∃ z, z = w8.setCell ⟨D, 4, none⟩ (.int .i64 lv') := ⟨_, rfl⟩
              rw [← e9] at g4 hc8
              have hc9 : Chg [] wq w9 := (H7.out.2.tr hdw).trans hc8 (fun j hj => .inr (by simp only [List.mem_singleton] at hj; rw [hj, H5.out.2.2.1]; exact Nat.le_refl _))
              have H9 := Lib.hid (And.intro hc9 g4)
              clear e8 hdw hd8 g4 hc8 hc9
              go_wp2_with fail
              go_meet
              rw [← e9]
              exact Lib.hid ⟨H9.out.1, by simpa using H9.out.2⟩
        case rest =>
          clear x0 k0 k1 k2 k3 k4 k5
          obtain ⟨w6, e6⟩ : ∃ z, z = wc := ⟨_, rfl⟩
          rw [← e6]
          rw [← e6] at hcut
          clear e6
          have hlent := LentTwigs_any w6 ta tn tc tree HQ.out.2.2.2.2.1 (by omega) (HTI.out.keep (HQ.out.2.2.2.1.tr hcut.out.1).kp)
          obtain ⟨k0, k1, k2, k3, k4, k5⟩ := cells6 hcut.out.2
          go_wp2_with fail
          refine hlent.mono ?_
          clear hlent k0 k1 k2 k3 k4 k5
          rintro e w7 ⟨ib, ic, rfl, hrow7, hc7⟩
          obtain ⟨S6, hS6⟩ : ∃ z, z = w6.heap.size := ⟨_, rfl⟩
          rw [← hS6] at hrow7
          have hE : EnvT w b D what rule place en' lv' tree ta tn tc S6 ib ic w7 := ⟨(HQ.out.2.2.2.1.tr hcut.out.1).tr hc7, by obtain ⟨v9, m9, g8, g9⟩ := HQ.out.1; have h8 := g9 HB (by simp [own]); have h9 := lt_of_block g8.head; have := (hcut.out.1.tr hc7).size; omega, hc7.heap hcut.out.2 (by simp), hrow7⟩
          have htl6 : tree.length ≤ 1000000 := by have := HQ.out.2.2.2.2.2.1; omega
          have hL := hE.lent htl6
          have hR7 : RQ ib b w7 RB s := (HQ.out.2.1.chg0 hcut.out.1).off hc7 (by rw [← hS6]; exact hL.2.2.2.2.1) hL.2.2.2.2.2.1
          have hS7 : SQ ib b w7 HB s := (HQ.out.1.chg0 hcut.out.1).off hc7 (by rw [← hS6]; exact hL.2.2.2.2.1) hL.2.2.2.2.2.1
          have HE := Lib.hid (And.intro hE (And.intro hS7 hR7))
          have hSw : w.heap.size ≤ S6 := by rw [hS6]; exact (HQ.out.2.2.2.1.tr hcut.out.1).size
          have HS6 := Lib.hid (And.intro hS6 htl6)
          rw [← HQ.out.2.2.2.2.1]
          obtain ⟨k0, k1, k2, k3, k4, k5⟩ := cells6 hE.dd
          clear hE hR7 hS7 hrow7 hc7 hS6 hL htl6
          have hpk7 := HP.out w7
          go_wp2_with fail
          refine hpk7.mono ?_
          clear hpk7
          rintro e wz ⟨rfl, rfl⟩
          go_upto_block 2 with fail
          go_cut [3, 8, 9] from 22 to 176 (fun sv okv u9 wx => ∃ HB' : Nat, sv = .pointer (some ⟨HB', 0, none⟩) ∧ okv = .bool true ∧ Hid (∃ s', SQ ib b wx HB' s' ∧ RQ ib b wx RB s' ∧ GoodT (i + 1) s' ∧ EnvT w b D what rule place en' lv' tree ta tn tc S6 ib ic wx))
          case first =>
            rcases (show m = 0 ∨ m = 1 ∨ m = 2 ∨ m = 3 ∨ m = 4 ∨ m = 5 by omega) with rfl | rfl | rfl | rfl | rfl | rfl
            · -- 0: begun
              go_wp2_with fail
              obtain ⟨s1, hs1⟩ : ∃ z : St, z = (if (rule, place) ∈ s.map (·.1) then s else s ++ [((rule, place), none)]) := ⟨_, rfl⟩
              obtain ⟨ev, hev⟩ : ∃ z : Int, z = (if (rule, place) ∈ s.map (·.1) then 8 else 0) := ⟨_, rfl⟩
              have HG1 : Hid (GoodT (i + 1) s1) := Lib.hid (by rw [hs1]; exact HQ.out.2.2.1.begin (rule, place))
              have hA : ∀ W, EnvT w b D what rule place en' lv' tree ta tn tc S6 ib ic W → SQ ib b W HB s → Calls Try.prog 9 #[.pointer (some ⟨HB, 0, none⟩), .int .i64 rule, .int .i64 place] W fun e w' => e = .returned (.int .i64 ev) ∧ SQ ib b w' HB s1 ∧ ChgS b W w' := fun W hW hS => by
                have := beginSQ ib b W HB s hS hW.big (by have := HQ.out.2.2.1.few; omega) rule place hru hpl
                rwa [← hev, ← hs1] at this
              have hB : ∀ W, EnvT w b D what rule place en' lv' tree ta tn tc S6 ib ic W → RQ ib b W RB s → Calls Try.prog 19 #[.pointer (some ⟨RB, 0, none⟩), .int .i64 rule, .int .i64 place] W fun e w' => e = .returned (.int .i64 ev) ∧ RQ ib b w' RB s1 ∧ ChgT b W w' := fun W hW hS => by
                have := beginRQ ib b W RB s hS hW.big (by have := HQ.out.2.2.1.few; omega) rule place
                rwa [← hev, ← hs1] at this
              have HC := Lib.hid (And.intro hA hB)
              clear hA hB hs1 hev
              refine wp_region_two (by kernel_rfl) (by kernel_rfl) [95, 96, 97, 98, 99, 100, 101, 102, 103, 104, 105, 106, 107, 8] (by kernel_rfl) 5 11 (by decide) (by decide) (fun rI rV => match rI with | 0 => rV = .pointer (some ⟨HB, 0, none⟩) | 1 => rV = .pointer (some ⟨D, 1, none⟩) | 2 => rV = .int .i64 rule | 3 => rV = .pointer (some ⟨D, 2, none⟩) | 4 => rV = .int .i64 place | 5 => rV = .int .i64 ev | 6 => rV = .pointer (some ⟨RB, 0, none⟩) | 7 => rV = .pointer (some ⟨D, 1, none⟩) | 8 => rV = .int .i64 rule | 9 => rV = .pointer (some ⟨D, 2, none⟩) | 10 => rV = .int .i64 place | 11 => rV = .int .i64 ev | 12 => rV = .bool true | 13 => rV = .bool true | _ => True) (fun l1 l2 W => EnvT w b D what rule place en' lv' tree ta tn tc S6 ib ic W ∧ SQ ib b W HB (if l1 = true then s1 else s) ∧ RQ ib b W RB (if l2 = true then s1 else s)) ?h0A ?hstepA ?hdoneA
              case h0A =>
                exact ⟨HE.out.1.chg0 ((Chg.refl [] _).drew), HE.out.2.1.chg0 ((Chg.refl [] _).drew), HE.out.2.2.chg0 ((Chg.refl [] _).drew)⟩
              case hstepA =>
                intro rI rH us W l1 l2 hJ h1 h2 hdep K hK
                have hiN : rI < 14 := rH
                have HJ := Lib.hid hJ
                clear k0 k1 k2 k3 k4 k5
                obtain ⟨k0, k1, k2, k3, k4, k5⟩ := cells6 hJ.1.dd
                clear hJ
                simp only [actU, Act.put, List.setIfInBounds_toArray, List.set_cons_succ, List.set_cons_zero, Nat.reduceAdd] at hK ⊢
                rcases (show rI = 0 ∨ rI = 1 ∨ rI = 2 ∨ rI = 3 ∨ rI = 4 ∨ rI = 5 ∨ rI = 6 ∨ rI = 7 ∨ rI = 8 ∨ rI = 9 ∨ rI = 10 ∨ rI = 11 ∨ rI = 12 ∨ rI = 13 by omega) with rfl | rfl | rfl | rfl | rfl | rfl | rfl | rfl | rfl | rfl | rfl | rfl | rfl | rfl
                · simp only [List.getD_cons_succ, List.getD_cons_zero, List.setIfInBounds_toArray, List.set_cons_succ, List.set_cons_zero] at hK ⊢
                  refine wpOp_at rfl rfl ?_
                  go_simp
                  exact hK _ _ _ rfl HJ.out rfl
                · simp only [List.getD_cons_succ, List.getD_cons_zero, List.setIfInBounds_toArray, List.set_cons_succ, List.set_cons_zero] at hK ⊢
                  refine wpOp_at rfl rfl ?_
                  go_simp
                  exact hK _ _ _ rfl HJ.out rfl
                · have l1 := hdep 1 (by kernel_rfl)
                  replace l1 : us 1 = .pointer (some ⟨D, 1, none⟩) := l1
                  simp only [List.getD_cons_succ, List.getD_cons_zero, List.setIfInBounds_toArray, List.set_cons_succ, List.set_cons_zero, l1] at hK ⊢
                  refine wpOp_at rfl rfl ?_
                  go_simp
                  exact hK _ _ _ rfl HJ.out rfl
                · simp only [List.getD_cons_succ, List.getD_cons_zero, List.setIfInBounds_toArray, List.set_cons_succ, List.set_cons_zero] at hK ⊢
                  refine wpOp_at rfl rfl ?_
                  go_simp
                  exact hK _ _ _ rfl HJ.out rfl
                · have l3 := hdep 3 (by kernel_rfl)
                  replace l3 : us 3 = .pointer (some ⟨D, 2, none⟩) := l3
                  simp only [List.getD_cons_succ, List.getD_cons_zero, List.setIfInBounds_toArray, List.set_cons_succ, List.set_cons_zero, l3] at hK ⊢
                  refine wpOp_at rfl rfl ?_
                  go_simp
                  exact hK _ _ _ rfl HJ.out rfl
                · have l0 := hdep 0 (by kernel_rfl)
                  replace l0 : us 0 = .pointer (some ⟨HB, 0, none⟩) := l0
                  have l2 := hdep 2 (by kernel_rfl)
                  replace l2 : us 2 = .int .i64 rule := l2
                  have l4 := hdep 4 (by kernel_rfl)
                  replace l4 : us 4 = .int .i64 place := l4
                  simp only [List.getD_cons_succ, List.getD_cons_zero, List.setIfInBounds_toArray, List.set_cons_succ, List.set_cons_zero, l0, l2, l4] at hK ⊢
                  refine wpOp_at rfl rfl ?_
                  go_simp
                  obtain rfl := h1 rfl
                  refine (HC.out.1 W HJ.out.1 HJ.out.2.1).mono ?_
                  rintro e wz ⟨rfl, hz1, hz2⟩
                  exact hK _ _ _ rfl ⟨HJ.out.1.chgS hb0 hz2, hz1, HJ.out.2.2.chgS hz2⟩ rfl
                · simp only [List.getD_cons_succ, List.getD_cons_zero, List.setIfInBounds_toArray, List.set_cons_succ, List.set_cons_zero] at hK ⊢
                  refine wpOp_at rfl rfl ?_
                  go_simp
                  exact hK _ _ _ rfl HJ.out rfl
                · simp only [List.getD_cons_succ, List.getD_cons_zero, List.setIfInBounds_toArray, List.set_cons_succ, List.set_cons_zero] at hK ⊢
                  refine wpOp_at rfl rfl ?_
                  go_simp
                  exact hK _ _ _ rfl HJ.out rfl
                · have l7 := hdep 7 (by kernel_rfl)
                  replace l7 : us 7 = .pointer (some ⟨D, 1, none⟩) := l7
                  simp only [List.getD_cons_succ, List.getD_cons_zero, List.setIfInBounds_toArray, List.set_cons_succ, List.set_cons_zero, l7] at hK ⊢
                  refine wpOp_at rfl rfl ?_
                  go_simp
                  exact hK _ _ _ rfl HJ.out rfl
                · simp only [List.getD_cons_succ, List.getD_cons_zero, List.setIfInBounds_toArray, List.set_cons_succ, List.set_cons_zero] at hK ⊢
                  refine wpOp_at rfl rfl ?_
                  go_simp
                  exact hK _ _ _ rfl HJ.out rfl
                · have l9 := hdep 9 (by kernel_rfl)
                  replace l9 : us 9 = .pointer (some ⟨D, 2, none⟩) := l9
                  simp only [List.getD_cons_succ, List.getD_cons_zero, List.setIfInBounds_toArray, List.set_cons_succ, List.set_cons_zero, l9] at hK ⊢
                  refine wpOp_at rfl rfl ?_
                  go_simp
                  exact hK _ _ _ rfl HJ.out rfl
                · have l6 := hdep 6 (by kernel_rfl)
                  replace l6 : us 6 = .pointer (some ⟨RB, 0, none⟩) := l6
                  have l8 := hdep 8 (by kernel_rfl)
                  replace l8 : us 8 = .int .i64 rule := l8
                  have l10 := hdep 10 (by kernel_rfl)
                  replace l10 : us 10 = .int .i64 place := l10
                  simp only [List.getD_cons_succ, List.getD_cons_zero, List.setIfInBounds_toArray, List.set_cons_succ, List.set_cons_zero, l6, l8, l10] at hK ⊢
                  refine wpOp_at rfl rfl ?_
                  go_simp
                  obtain rfl := h2 rfl
                  refine (HC.out.2 W HJ.out.1 HJ.out.2.2).mono ?_
                  rintro e wz ⟨rfl, hz1, hz2⟩
                  exact hK _ _ _ rfl ⟨HJ.out.1.chgT hb0 hz2, HJ.out.2.1.chgT hz2, hz1⟩ rfl
                · have l5 := hdep 5 (by kernel_rfl)
                  replace l5 : us 5 = .int .i64 ev := l5
                  have l11 := hdep 11 (by kernel_rfl)
                  replace l11 : us 11 = .int .i64 ev := l11
                  simp only [List.getD_cons_succ, List.getD_cons_zero, List.setIfInBounds_toArray, List.set_cons_succ, List.set_cons_zero, l5, l11] at hK ⊢
                  refine wpOp_at rfl rfl ?_
                  go_simp
                  exact hK _ _ _ rfl HJ.out rfl
                · have l12 := hdep 12 (by kernel_rfl)
                  replace l12 : us 12 = .bool true := l12
                  simp only [List.getD_cons_succ, List.getD_cons_zero, List.setIfInBounds_toArray, List.set_cons_succ, List.set_cons_zero, l12] at hK ⊢
                  refine wpOp_at rfl rfl ?_
                  go_simp
                  exact hK _ _ _ rfl HJ.out rfl
              case hdoneA =>
                intro us W hJ hall
                have l0 := hall 0 (by decide)
                replace l0 : us 0 = .pointer (some ⟨HB, 0, none⟩) := l0
                have l1 := hall 1 (by decide)
                replace l1 : us 1 = .pointer (some ⟨D, 1, none⟩) := l1
                have l2 := hall 2 (by decide)
                replace l2 : us 2 = .int .i64 rule := l2
                have l3 := hall 3 (by decide)
                replace l3 : us 3 = .pointer (some ⟨D, 2, none⟩) := l3
                have l4 := hall 4 (by decide)
                replace l4 : us 4 = .int .i64 place := l4
                have l5 := hall 5 (by decide)
                replace l5 : us 5 = .int .i64 ev := l5
                have l6 := hall 6 (by decide)
                replace l6 : us 6 = .pointer (some ⟨RB, 0, none⟩) := l6
                have l7 := hall 7 (by decide)
                replace l7 : us 7 = .pointer (some ⟨D, 1, none⟩) := l7
                have l8 := hall 8 (by decide)
                replace l8 : us 8 = .int .i64 rule := l8
                have l9 := hall 9 (by decide)
                replace l9 : us 9 = .pointer (some ⟨D, 2, none⟩) := l9
                have l10 := hall 10 (by decide)
                replace l10 : us 10 = .int .i64 place := l10
                have l11 := hall 11 (by decide)
                replace l11 : us 11 = .int .i64 ev := l11
                have l12 := hall 12 (by decide)
                replace l12 : us 12 = .bool true := l12
                have l13 := hall 13 (by decide)
                replace l13 : us 13 = .bool true := l13
                simp only [actU, Act.put, List.setIfInBounds_toArray, List.set_cons_succ, List.set_cons_zero, Nat.reduceAdd, l0, l1, l2, l3, l4, l5, l6, l7, l8, l9, l10, l11, l12, l13]
                clear hall l0 l1 l2 l3 l4 l5 l6 l7 l8 l9 l10 l11 l12 l13
                have HJ : Hid (EnvT w b D what rule place en' lv' tree ta tn tc S6 ib ic W ∧ SQ ib b W HB s1 ∧ RQ ib b W RB s1) := Lib.hid hJ
                clear hJ k0 k1 k2 k3 k4 k5
                go_wp2_with fail
                go_meet
                exact ⟨HB, rfl, rfl, Lib.hid ⟨s1, HJ.out.2.1, HJ.out.2.2, HG1.out, HJ.out.1⟩⟩
            · -- 1: grown
              go_wp2_with fail
              obtain ⟨s1, hs1⟩ : ∃ z, z = s.grow en' lv' tree := ⟨_, rfl⟩
              obtain ⟨ev, hev⟩ : ∃ z, z = s.growErr en' lv' := ⟨_, rfl⟩
              have HG1 : Hid (GoodT (i + 1) s1) := Lib.hid (by rw [hs1]; exact HQ.out.2.2.1.grow HTO.out.1 HTO.out.2 HQ.out.2.2.2.2.2.1)
              have hA : ∀ W, EnvT w b D what rule place en' lv' tree ta tn tc S6 ib ic W → SQ ib b W HB s → Calls Try.prog 11 #[.pointer (some ⟨HB, 0, none⟩), .agg #[.int .i64 en', .int .i64 lv', .slice (some ⟨ib, 0, none⟩) tn ic]] W fun e w' => e = .returned (.int .i64 ev) ∧ SQ ib b w' HB s1 ∧ ChgS b W w' := fun W hW hS => by
                have := growSQ ib b W HB s hS (by have := HQ.out.2.2.1.few; omega) en' lv' (some ⟨ib, 0, none⟩) tn ic tree (by rw [HQ.out.2.2.2.2.1]; exact (hW.lent HS6.out.2).2.1)
                rwa [← hev, ← hs1] at this
              have hB : ∀ W, EnvT w b D what rule place en' lv' tree ta tn tc S6 ib ic W → RQ ib b W RB s → Calls Try.prog 20 #[.pointer (some ⟨RB, 0, none⟩), .int .i64 en', .int .i64 lv', .slice ta tn tc] W fun e w' => e = .returned (.int .i64 ev) ∧ RQ ib b w' RB s1 ∧ ChgT b W w' := fun W hW hS => by
                have := growRQ ib b W RB s hS hW.big (by have := HQ.out.2.2.1.few; omega) en' lv' ta tn tc tree HQ.out.2.2.2.2.1 HQ.out.2.2.2.2.2.2.1 (HTI.out.keep hW.tot.kp) (by omega)
                rwa [← hev, ← hs1] at this
              have HC := Lib.hid (And.intro hA hB)
              clear hA hB hs1 hev
              refine wp_region_two (by kernel_rfl) (by kernel_rfl) [111, 112, 113, 114, 115, 116, 117, 118, 119, 120, 121, 122, 123, 124, 125, 126, 127, 8] (by kernel_rfl) 7 15 (by decide) (by decide) (fun rI rV => match rI with | 0 => rV = .pointer (some ⟨HB, 0, none⟩) | 1 => rV = .pointer (some ⟨D, 3, none⟩) | 2 => rV = .int .i64 en' | 3 => rV = .pointer (some ⟨D, 4, none⟩) | 4 => rV = .int .i64 lv' | 5 => rV = .slice (some ⟨ib, 0, none⟩) tn ic | 6 => rV = .agg #[.int .i64 en', .int .i64 lv', .slice (some ⟨ib, 0, none⟩) tn ic] | 7 => rV = .int .i64 ev | 8 => rV = .pointer (some ⟨RB, 0, none⟩) | 9 => rV = .pointer (some ⟨D, 3, none⟩) | 10 => rV = .int .i64 en' | 11 => rV = .pointer (some ⟨D, 4, none⟩) | 12 => rV = .int .i64 lv' | 13 => rV = .pointer (some ⟨D, 5, none⟩) | 14 => rV = .slice ta tn tc | 15 => rV = .int .i64 ev | 16 => rV = .bool true | 17 => rV = .bool true | _ => True) (fun l1 l2 W => EnvT w b D what rule place en' lv' tree ta tn tc S6 ib ic W ∧ SQ ib b W HB (if l1 = true then s1 else s) ∧ RQ ib b W RB (if l2 = true then s1 else s)) ?h0B ?hstepB ?hdoneB
              case h0B =>
                exact ⟨HE.out.1.chg0 ((Chg.refl [] _).drew), HE.out.2.1.chg0 ((Chg.refl [] _).drew), HE.out.2.2.chg0 ((Chg.refl [] _).drew)⟩
              case hstepB =>
                intro rI rH us W l1 l2 hJ h1 h2 hdep K hK
                have hiN : rI < 18 := rH
                have HJ := Lib.hid hJ
                clear k0 k1 k2 k3 k4 k5
                obtain ⟨k0, k1, k2, k3, k4, k5⟩ := cells6 hJ.1.dd
                clear hJ
                simp only [actU, Act.put, List.setIfInBounds_toArray, List.set_cons_succ, List.set_cons_zero, Nat.reduceAdd] at hK ⊢
                rcases (show rI = 0 ∨ rI = 1 ∨ rI = 2 ∨ rI = 3 ∨ rI = 4 ∨ rI = 5 ∨ rI = 6 ∨ rI = 7 ∨ rI = 8 ∨ rI = 9 ∨ rI = 10 ∨ rI = 11 ∨ rI = 12 ∨ rI = 13 ∨ rI = 14 ∨ rI = 15 ∨ rI = 16 ∨ rI = 17 by omega) with rfl | rfl | rfl | rfl | rfl | rfl | rfl | rfl | rfl | rfl | rfl | rfl | rfl | rfl | rfl | rfl | rfl | rfl
                · simp only [List.getD_cons_succ, List.getD_cons_zero, List.setIfInBounds_toArray, List.set_cons_succ, List.set_cons_zero] at hK ⊢
                  refine wpOp_at rfl rfl ?_
                  go_simp
                  exact hK _ _ _ rfl HJ.out rfl
                · simp only [List.getD_cons_succ, List.getD_cons_zero, List.setIfInBounds_toArray, List.set_cons_succ, List.set_cons_zero] at hK ⊢
                  refine wpOp_at rfl rfl ?_
                  go_simp
                  exact hK _ _ _ rfl HJ.out rfl
                · have l1 := hdep 1 (by kernel_rfl)
                  replace l1 : us 1 = .pointer (some ⟨D, 3, none⟩) := l1
                  simp only [List.getD_cons_succ, List.getD_cons_zero, List.setIfInBounds_toArray, List.set_cons_succ, List.set_cons_zero, l1] at hK ⊢
                  refine wpOp_at rfl rfl ?_
                  go_simp
                  exact hK _ _ _ rfl HJ.out rfl
                · simp only [List.getD_cons_succ, List.getD_cons_zero, List.setIfInBounds_toArray, List.set_cons_succ, List.set_cons_zero] at hK ⊢
                  refine wpOp_at rfl rfl ?_
                  go_simp
                  exact hK _ _ _ rfl HJ.out rfl
                · have l3 := hdep 3 (by kernel_rfl)
                  replace l3 : us 3 = .pointer (some ⟨D, 4, none⟩) := l3
                  simp only [List.getD_cons_succ, List.getD_cons_zero, List.setIfInBounds_toArray, List.set_cons_succ, List.set_cons_zero, l3] at hK ⊢
                  refine wpOp_at rfl rfl ?_
                  go_simp
                  exact hK _ _ _ rfl HJ.out rfl
                · simp only [List.getD_cons_succ, List.getD_cons_zero, List.setIfInBounds_toArray, List.set_cons_succ, List.set_cons_zero] at hK ⊢
                  refine wpOp_at rfl rfl ?_
                  go_simp
                  exact hK _ _ _ rfl HJ.out rfl
                · have l2 := hdep 2 (by kernel_rfl)
                  replace l2 : us 2 = .int .i64 en' := l2
                  have l4 := hdep 4 (by kernel_rfl)
                  replace l4 : us 4 = .int .i64 lv' := l4
                  have l5 := hdep 5 (by kernel_rfl)
                  replace l5 : us 5 = .slice (some ⟨ib, 0, none⟩) tn ic := l5
                  simp only [List.getD_cons_succ, List.getD_cons_zero, List.setIfInBounds_toArray, List.set_cons_succ, List.set_cons_zero, l2, l4, l5] at hK ⊢
                  refine wpOp_at rfl rfl ?_
                  go_simp
                  exact hK _ _ _ rfl HJ.out rfl
                · have l0 := hdep 0 (by kernel_rfl)
                  replace l0 : us 0 = .pointer (some ⟨HB, 0, none⟩) := l0
                  have l6 := hdep 6 (by kernel_rfl)
                  replace l6 : us 6 = .agg #[.int .i64 en', .int .i64 lv', .slice (some ⟨ib, 0, none⟩) tn ic] := l6
                  simp only [List.getD_cons_succ, List.getD_cons_zero, List.setIfInBounds_toArray, List.set_cons_succ, List.set_cons_zero, l0, l6] at hK ⊢
                  refine wpOp_at rfl rfl ?_
                  go_simp
                  obtain rfl := h1 rfl
                  refine (HC.out.1 W HJ.out.1 HJ.out.2.1).mono ?_
                  rintro e wz ⟨rfl, hz1, hz2⟩
                  exact hK _ _ _ rfl ⟨HJ.out.1.chgS hb0 hz2, hz1, HJ.out.2.2.chgS hz2⟩ rfl
                · simp only [List.getD_cons_succ, List.getD_cons_zero, List.setIfInBounds_toArray, List.set_cons_succ, List.set_cons_zero] at hK ⊢
                  refine wpOp_at rfl rfl ?_
                  go_simp
                  exact hK _ _ _ rfl HJ.out rfl
                · simp only [List.getD_cons_succ, List.getD_cons_zero, List.setIfInBounds_toArray, List.set_cons_succ, List.set_cons_zero] at hK ⊢
                  refine wpOp_at rfl rfl ?_
                  go_simp
                  exact hK _ _ _ rfl HJ.out rfl
                · have l9 := hdep 9 (by kernel_rfl)
                  replace l9 : us 9 = .pointer (some ⟨D, 3, none⟩) := l9
                  simp only [List.getD_cons_succ, List.getD_cons_zero, List.setIfInBounds_toArray, List.set_cons_succ, List.set_cons_zero, l9] at hK ⊢
                  refine wpOp_at rfl rfl ?_
                  go_simp
                  exact hK _ _ _ rfl HJ.out rfl
                · simp only [List.getD_cons_succ, List.getD_cons_zero, List.setIfInBounds_toArray, List.set_cons_succ, List.set_cons_zero] at hK ⊢
                  refine wpOp_at rfl rfl ?_
                  go_simp
                  exact hK _ _ _ rfl HJ.out rfl
                · have l11 := hdep 11 (by kernel_rfl)
                  replace l11 : us 11 = .pointer (some ⟨D, 4, none⟩) := l11
                  simp only [List.getD_cons_succ, List.getD_cons_zero, List.setIfInBounds_toArray, List.set_cons_succ, List.set_cons_zero, l11] at hK ⊢
                  refine wpOp_at rfl rfl ?_
                  go_simp
                  exact hK _ _ _ rfl HJ.out rfl
                · simp only [List.getD_cons_succ, List.getD_cons_zero, List.setIfInBounds_toArray, List.set_cons_succ, List.set_cons_zero] at hK ⊢
                  refine wpOp_at rfl rfl ?_
                  go_simp
                  exact hK _ _ _ rfl HJ.out rfl
                · have l13 := hdep 13 (by kernel_rfl)
                  replace l13 : us 13 = .pointer (some ⟨D, 5, none⟩) := l13
                  simp only [List.getD_cons_succ, List.getD_cons_zero, List.setIfInBounds_toArray, List.set_cons_succ, List.set_cons_zero, l13] at hK ⊢
                  refine wpOp_at rfl rfl ?_
                  go_simp
                  exact hK _ _ _ rfl HJ.out rfl
                · have l8 := hdep 8 (by kernel_rfl)
                  replace l8 : us 8 = .pointer (some ⟨RB, 0, none⟩) := l8
                  have l10 := hdep 10 (by kernel_rfl)
                  replace l10 : us 10 = .int .i64 en' := l10
                  have l12 := hdep 12 (by kernel_rfl)
                  replace l12 : us 12 = .int .i64 lv' := l12
                  have l14 := hdep 14 (by kernel_rfl)
                  replace l14 : us 14 = .slice ta tn tc := l14
                  simp only [List.getD_cons_succ, List.getD_cons_zero, List.setIfInBounds_toArray, List.set_cons_succ, List.set_cons_zero, l8, l10, l12, l14] at hK ⊢
                  refine wpOp_at rfl rfl ?_
                  go_simp
                  obtain rfl := h2 rfl
                  refine (HC.out.2 W HJ.out.1 HJ.out.2.2).mono ?_
                  rintro e wz ⟨rfl, hz1, hz2⟩
                  exact hK _ _ _ rfl ⟨HJ.out.1.chgT hb0 hz2, HJ.out.2.1.chgT hz2, hz1⟩ rfl
                · have l7 := hdep 7 (by kernel_rfl)
                  replace l7 : us 7 = .int .i64 ev := l7
                  have l15 := hdep 15 (by kernel_rfl)
                  replace l15 : us 15 = .int .i64 ev := l15
                  simp only [List.getD_cons_succ, List.getD_cons_zero, List.setIfInBounds_toArray, List.set_cons_succ, List.set_cons_zero, l7, l15] at hK ⊢
                  refine wpOp_at rfl rfl ?_
                  go_simp
                  exact hK _ _ _ rfl HJ.out rfl
                · have l16 := hdep 16 (by kernel_rfl)
                  replace l16 : us 16 = .bool true := l16
                  simp only [List.getD_cons_succ, List.getD_cons_zero, List.setIfInBounds_toArray, List.set_cons_succ, List.set_cons_zero, l16] at hK ⊢
                  refine wpOp_at rfl rfl ?_
                  go_simp
                  exact hK _ _ _ rfl HJ.out rfl
              case hdoneB =>
                intro us W hJ hall
                have l0 := hall 0 (by decide)
                replace l0 : us 0 = .pointer (some ⟨HB, 0, none⟩) := l0
                have l1 := hall 1 (by decide)
                replace l1 : us 1 = .pointer (some ⟨D, 3, none⟩) := l1
                have l2 := hall 2 (by decide)
                replace l2 : us 2 = .int .i64 en' := l2
                have l3 := hall 3 (by decide)
                replace l3 : us 3 = .pointer (some ⟨D, 4, none⟩) := l3
                have l4 := hall 4 (by decide)
                replace l4 : us 4 = .int .i64 lv' := l4
                have l5 := hall 5 (by decide)
                replace l5 : us 5 = .slice (some ⟨ib, 0, none⟩) tn ic := l5
                have l6 := hall 6 (by decide)
                replace l6 : us 6 = .agg #[.int .i64 en', .int .i64 lv', .slice (some ⟨ib, 0, none⟩) tn ic] := l6
                have l7 := hall 7 (by decide)
                replace l7 : us 7 = .int .i64 ev := l7
                have l8 := hall 8 (by decide)
                replace l8 : us 8 = .pointer (some ⟨RB, 0, none⟩) := l8
                have l9 := hall 9 (by decide)
                replace l9 : us 9 = .pointer (some ⟨D, 3, none⟩) := l9
                have l10 := hall 10 (by decide)
                replace l10 : us 10 = .int .i64 en' := l10
                have l11 := hall 11 (by decide)
                replace l11 : us 11 = .pointer (some ⟨D, 4, none⟩) := l11
                have l12 := hall 12 (by decide)
                replace l12 : us 12 = .int .i64 lv' := l12
                have l13 := hall 13 (by decide)
                replace l13 : us 13 = .pointer (some ⟨D, 5, none⟩) := l13
                have l14 := hall 14 (by decide)
                replace l14 : us 14 = .slice ta tn tc := l14
                have l15 := hall 15 (by decide)
                replace l15 : us 15 = .int .i64 ev := l15
                have l16 := hall 16 (by decide)
                replace l16 : us 16 = .bool true := l16
                have l17 := hall 17 (by decide)
                replace l17 : us 17 = .bool true := l17
                simp only [actU, Act.put, List.setIfInBounds_toArray, List.set_cons_succ, List.set_cons_zero, Nat.reduceAdd, l0, l1, l2, l3, l4, l5, l6, l7, l8, l9, l10, l11, l12, l13, l14, l15, l16, l17]
                clear hall l0 l1 l2 l3 l4 l5 l6 l7 l8 l9 l10 l11 l12 l13 l14 l15 l16 l17
                have HJ : Hid (EnvT w b D what rule place en' lv' tree ta tn tc S6 ib ic W ∧ SQ ib b W HB s1 ∧ RQ ib b W RB s1) := Lib.hid hJ
                clear hJ k0 k1 k2 k3 k4 k5
                go_wp2_with fail
                go_meet
                exact ⟨HB, rfl, rfl, Lib.hid ⟨s1, HJ.out.2.1, HJ.out.2.2, HG1.out, HJ.out.1⟩⟩
            · -- 2: ended
              obtain ⟨s1, hs1⟩ : ∃ z, z = s.dropLast := ⟨_, rfl⟩
              obtain ⟨ev, hev⟩ : ∃ z : Int, z = (if s = [] then 5 else 0) := ⟨_, rfl⟩
              have HG1 : Hid (GoodT (i + 1) s1) := Lib.hid (by rw [hs1]; exact HQ.out.2.2.1.pop)
              have hA := endSQ ib b w7 HB s HE.out.2.1 (by have := HQ.out.2.2.1.few; omega)
              have hB := fun W (hW : b ≤ W.heap.size) hR => endRQ ib b W RB s hR hW (by have := HQ.out.2.2.1.few; omega)
              simp only [← hev, ← hs1] at hA hB
              have HBB := Lib.hid hB
              clear hB hs1 hev
              go_wp2_with fail
              refine hA.mono ?_
              clear hA
              rintro e w8 ⟨rfl, hs8, hk8⟩
              have H8 := Lib.hid (And.intro hs8 (And.intro (HE.out.2.2.chgS hk8) (HE.out.1.chgS hb0 hk8)))
              clear hs8 hk8
              have hB8 := HBB.out w8 H8.out.2.2.big H8.out.2.1
              go_wp2_with fail
              refine hB8.mono ?_
              clear hB8
              rintro e w9 ⟨rfl, hr9, hk9⟩
              have H9 := Lib.hid (And.intro (H8.out.1.chgT hk9) (And.intro hr9 (H8.out.2.2.chgT hb0 hk9)))
              clear hr9 hk9
              go_wp2_with fail
              go_meet
              exact ⟨HB, rfl, rfl, Lib.hid ⟨s1, H9.out.1, H9.out.2.1, HG1.out, H9.out.2.2⟩⟩
            · -- 3: nothing
              go_wp2_with fail
              go_meet
              exact ⟨HB, rfl, rfl, Lib.hid ⟨s, HE.out.2.1, HE.out.2.2, HQ.out.2.2.1.mono (Nat.le_succ _), HE.out.1⟩⟩
            · -- 4: copied
              have hfew : s.length ≤ 1000000 := by have := HQ.out.2.2.1.few; omega
              have hcopy := copySQ ib b w7 HB s HE.out.2.1 hfew
              obtain ⟨lo, hlo⟩ : ∃ z, z = w7.heap.size := ⟨_, rfl⟩
              rw [← hlo] at hcopy
              have hblo : b ≤ lo := by rw [hlo]; exact HE.out.1.big
              have HG1 : Hid (GoodT (i + 1) s) := Lib.hid (HQ.out.2.2.1.mono (Nat.le_succ _))
              have HLO := Lib.hid hlo
              clear hlo
              go_wp2_with fail
              refine hcopy.mono ?_
              clear hcopy k0 k1 k2 k3 k4 k5
              rintro e w8 ⟨B', rfl, ho8, hn8, hc8⟩
              obtain ⟨hi8, hhi⟩ : ∃ z, z = w8.heap.size := ⟨_, rfl⟩
              rw [← hhi] at ho8 hn8
              have H8 := Lib.hid (And.intro ho8 (And.intro hn8 (And.intro (HE.out.1.chg0 hc8) (And.intro (HE.out.2.2.chg0 hc8) (Nat.le_of_eq hhi)))))
              clear ho8 hn8 hc8 hhi
              obtain ⟨ev, hev⟩ : ∃ z, z = s.growErr 1125899906842624 lv' := ⟨_, rfl⟩
              obtain ⟨s8, hs8⟩ : ∃ z, z = s.grow 1125899906842624 lv' tree := ⟨_, rfl⟩
              have h9 := growSO ib b lo hi8 w8 HB s H8.out.1 hfew 1125899906842624 lv' (some ⟨ib, 0, none⟩) tn ic tree (by rw [HQ.out.2.2.2.2.1]; exact (H8.out.2.2.1.lent HS6.out.2).2.1)
              rw [← hev, ← hs8] at h9
              have hl8 : s8.length ≤ 1000000 := by rw [hs8, grow_len]; exact hfew
              obtain ⟨k0, k1, k2, k3, k4, k5⟩ := cells6 H8.out.2.2.1.dd
              clear hev hs8
              go_wp2_with fail
              refine h9.mono ?_
              clear h9 k0 k1 k2 k3 k4 k5
              rintro e w9 ⟨rfl, ho9, hk9⟩
              have H9 := Lib.hid (And.intro ho9 (And.intro (H8.out.2.1.chgO hk9) (And.intro (H8.out.2.2.1.chgS hb0 hk9.chgS) (And.intro (H8.out.2.2.2.1.chgS hk9.chgS) (Nat.le_trans H8.out.2.2.2.2 hk9.chgS.size)))))
              clear ho9 hk9
              obtain ⟨ev9, hev9⟩ : ∃ z : Int, z = (if s8 = [] then 5 else 0) := ⟨_, rfl⟩
              obtain ⟨s9, hs9⟩ : ∃ z, z = s8.dropLast := ⟨_, rfl⟩
              have h10 := endSO ib b lo hi8 w9 HB s8 H9.out.1 hl8
              rw [← hev9, ← hs9] at h10
              have hl9 : s9.length ≤ 1000000 := by rw [hs9, List.length_dropLast]; omega
              clear hev9 hs9
              go_wp2_with fail
              refine h10.mono ?_
              clear h10
              rintro e w10 ⟨rfl, ho10, hk10⟩
              have H10 := Lib.hid (And.intro ho10 (And.intro (H9.out.2.1.chgO hk10) (And.intro (H9.out.2.2.1.chgS hb0 hk10.chgS) (And.intro (H9.out.2.2.2.1.chgS hk10.chgS) (Nat.le_trans H9.out.2.2.2.2 hk10.chgS.size)))))
              clear ho10 hk10
              obtain ⟨ev10, hev10⟩ : ∃ z : Int, z = (if (rule, place) ∈ s9.map (·.1) then 8 else 0) := ⟨_, rfl⟩
              have h11 := beginSO ib b lo hi8 w10 HB s9 H10.out.1 H10.out.2.2.1.big H10.out.2.2.2.2 hl9 rule place hru hpl
              rw [← hev10] at h11
              obtain ⟨k0, k1, k2, k3, k4, k5⟩ := cells6 H10.out.2.2.1.dd
              clear hev10
              go_wp2_with fail
              refine h11.mono ?_
              clear h11 k0 k1 k2 k3 k4 k5
              rintro e w11 ⟨rfl, hk11⟩
              have H11 := Lib.hid (And.intro (H10.out.2.1.chgO hk11) (And.intro (H10.out.2.2.1.chgS hb0 hk11.chgS) (H10.out.2.2.2.1.chgS hk11.chgS)))
              clear hk11
              go_wp2_with fail
              go_meet
              exact ⟨B', rfl, rfl, Lib.hid ⟨s, H11.out.1.sq hblo, H11.out.2.2, HG1.out, H11.out.2.1⟩⟩
            · -- 5: grown one further
              go_wp2_with fail
              obtain ⟨s1, hs1⟩ : ∃ z, z = s.grow en' lv' tree := ⟨_, rfl⟩
              obtain ⟨ev, hev⟩ : ∃ z, z = s.growErr en' lv' := ⟨_, rfl⟩
              have HG1 : Hid (GoodT (i + 1) s1) := Lib.hid (by rw [hs1]; exact HQ.out.2.2.1.grow HTO.out.1 HTO.out.2 HQ.out.2.2.2.2.2.1)
              have hA : ∀ W, EnvT w b D what rule place en' lv' tree ta tn tc S6 ib ic W → SQ ib b W HB s → Calls Try.prog 11 #[.pointer (some ⟨HB, 0, none⟩), .agg #[.int .i64 en', .int .i64 lv', .slice (some ⟨ib, 0, none⟩) tn ic]] W fun e w' => e = .returned (.int .i64 ev) ∧ SQ ib b w' HB s1 ∧ ChgS b W w' := fun W hW hS => by
                have := growSQ ib b W HB s hS (by have := HQ.out.2.2.1.few; omega) en' lv' (some ⟨ib, 0, none⟩) tn ic tree (by rw [HQ.out.2.2.2.2.1]; exact (hW.lent HS6.out.2).2.1)
                rwa [← hev, ← hs1] at this
              have hB : ∀ W, EnvT w b D what rule place en' lv' tree ta tn tc S6 ib ic W → RQ ib b W RB s → Calls Try.prog 20 #[.pointer (some ⟨RB, 0, none⟩), .int .i64 en', .int .i64 lv', .slice ta tn tc] W fun e w' => e = .returned (.int .i64 ev) ∧ RQ ib b w' RB s1 ∧ ChgT b W w' := fun W hW hS => by
                have := growRQ ib b W RB s hS hW.big (by have := HQ.out.2.2.1.few; omega) en' lv' ta tn tc tree HQ.out.2.2.2.2.1 HQ.out.2.2.2.2.2.2.1 (HTI.out.keep hW.tot.kp) (by omega)
                rwa [← hev, ← hs1] at this
              have HC := Lib.hid (And.intro hA hB)
              clear hA hB hs1 hev
              refine wp_region_two (by kernel_rfl) (by kernel_rfl) [111, 112, 113, 114, 115, 116, 117, 118, 119, 120, 121, 122, 123, 124, 125, 126, 127, 8] (by kernel_rfl) 7 15 (by decide) (by decide) (fun rI rV => match rI with | 0 => rV = .pointer (some ⟨HB, 0, none⟩) | 1 => rV = .pointer (some ⟨D, 3, none⟩) | 2 => rV = .int .i64 en' | 3 => rV = .pointer (some ⟨D, 4, none⟩) | 4 => rV = .int .i64 lv' | 5 => rV = .slice (some ⟨ib, 0, none⟩) tn ic | 6 => rV = .agg #[.int .i64 en', .int .i64 lv', .slice (some ⟨ib, 0, none⟩) tn ic] | 7 => rV = .int .i64 ev | 8 => rV = .pointer (some ⟨RB, 0, none⟩) | 9 => rV = .pointer (some ⟨D, 3, none⟩) | 10 => rV = .int .i64 en' | 11 => rV = .pointer (some ⟨D, 4, none⟩) | 12 => rV = .int .i64 lv' | 13 => rV = .pointer (some ⟨D, 5, none⟩) | 14 => rV = .slice ta tn tc | 15 => rV = .int .i64 ev | 16 => rV = .bool true | 17 => rV = .bool true | _ => True) (fun l1 l2 W => EnvT w b D what rule place en' lv' tree ta tn tc S6 ib ic W ∧ SQ ib b W HB (if l1 = true then s1 else s) ∧ RQ ib b W RB (if l2 = true then s1 else s)) ?h0C ?hstepC ?hdoneC
              case h0C =>
                exact ⟨HE.out.1.chg0 ((Chg.refl [] _).drew), HE.out.2.1.chg0 ((Chg.refl [] _).drew), HE.out.2.2.chg0 ((Chg.refl [] _).drew)⟩
              case hstepC =>
                intro rI rH us W l1 l2 hJ h1 h2 hdep K hK
                have hiN : rI < 18 := rH
                have HJ := Lib.hid hJ
                clear k0 k1 k2 k3 k4 k5
                obtain ⟨k0, k1, k2, k3, k4, k5⟩ := cells6 hJ.1.dd
                clear hJ
                simp only [actU, Act.put, List.setIfInBounds_toArray, List.set_cons_succ, List.set_cons_zero, Nat.reduceAdd] at hK ⊢
                rcases (show rI = 0 ∨ rI = 1 ∨ rI = 2 ∨ rI = 3 ∨ rI = 4 ∨ rI = 5 ∨ rI = 6 ∨ rI = 7 ∨ rI = 8 ∨ rI = 9 ∨ rI = 10 ∨ rI = 11 ∨ rI = 12 ∨ rI = 13 ∨ rI = 14 ∨ rI = 15 ∨ rI = 16 ∨ rI = 17 by omega) with rfl | rfl | rfl | rfl | rfl | rfl | rfl | rfl | rfl | rfl | rfl | rfl | rfl | rfl | rfl | rfl | rfl | rfl
                · simp only [List.getD_cons_succ, List.getD_cons_zero, List.setIfInBounds_toArray, List.set_cons_succ, List.set_cons_zero] at hK ⊢
                  refine wpOp_at rfl rfl ?_
                  go_simp
                  exact hK _ _ _ rfl HJ.out rfl
                · simp only [List.getD_cons_succ, List.getD_cons_zero, List.setIfInBounds_toArray, List.set_cons_succ, List.set_cons_zero] at hK ⊢
                  refine wpOp_at rfl rfl ?_
                  go_simp
                  exact hK _ _ _ rfl HJ.out rfl
                · have l1 := hdep 1 (by kernel_rfl)
                  replace l1 : us 1 = .pointer (some ⟨D, 3, none⟩) := l1
                  simp only [List.getD_cons_succ, List.getD_cons_zero, List.setIfInBounds_toArray, List.set_cons_succ, List.set_cons_zero, l1] at hK ⊢
                  refine wpOp_at rfl rfl ?_
                  go_simp
                  exact hK _ _ _ rfl HJ.out rfl
                · simp only [List.getD_cons_succ, List.getD_cons_zero, List.setIfInBounds_toArray, List.set_cons_succ, List.set_cons_zero] at hK ⊢
                  refine wpOp_at rfl rfl ?_
                  go_simp
                  exact hK _ _ _ rfl HJ.out rfl
                · have l3 := hdep 3 (by kernel_rfl)
                  replace l3 : us 3 = .pointer (some ⟨D, 4, none⟩) := l3
                  simp only [List.getD_cons_succ, List.getD_cons_zero, List.setIfInBounds_toArray, List.set_cons_succ, List.set_cons_zero, l3] at hK ⊢
                  refine wpOp_at rfl rfl ?_
                  go_simp
                  exact hK _ _ _ rfl HJ.out rfl
                · simp only [List.getD_cons_succ, List.getD_cons_zero, List.setIfInBounds_toArray, List.set_cons_succ, List.set_cons_zero] at hK ⊢
                  refine wpOp_at rfl rfl ?_
                  go_simp
                  exact hK _ _ _ rfl HJ.out rfl
                · have l2 := hdep 2 (by kernel_rfl)
                  replace l2 : us 2 = .int .i64 en' := l2
                  have l4 := hdep 4 (by kernel_rfl)
                  replace l4 : us 4 = .int .i64 lv' := l4
                  have l5 := hdep 5 (by kernel_rfl)
                  replace l5 : us 5 = .slice (some ⟨ib, 0, none⟩) tn ic := l5
                  simp only [List.getD_cons_succ, List.getD_cons_zero, List.setIfInBounds_toArray, List.set_cons_succ, List.set_cons_zero, l2, l4, l5] at hK ⊢
                  refine wpOp_at rfl rfl ?_
                  go_simp
                  exact hK _ _ _ rfl HJ.out rfl
                · have l0 := hdep 0 (by kernel_rfl)
                  replace l0 : us 0 = .pointer (some ⟨HB, 0, none⟩) := l0
                  have l6 := hdep 6 (by kernel_rfl)
                  replace l6 : us 6 = .agg #[.int .i64 en', .int .i64 lv', .slice (some ⟨ib, 0, none⟩) tn ic] := l6
                  simp only [List.getD_cons_succ, List.getD_cons_zero, List.setIfInBounds_toArray, List.set_cons_succ, List.set_cons_zero, l0, l6] at hK ⊢
                  refine wpOp_at rfl rfl ?_
                  go_simp
                  obtain rfl := h1 rfl
                  refine (HC.out.1 W HJ.out.1 HJ.out.2.1).mono ?_
                  rintro e wz ⟨rfl, hz1, hz2⟩
                  exact hK _ _ _ rfl ⟨HJ.out.1.chgS hb0 hz2, hz1, HJ.out.2.2.chgS hz2⟩ rfl
                · simp only [List.getD_cons_succ, List.getD_cons_zero, List.setIfInBounds_toArray, List.set_cons_succ, List.set_cons_zero] at hK ⊢
                  refine wpOp_at rfl rfl ?_
                  go_simp
                  exact hK _ _ _ rfl HJ.out rfl
                · simp only [List.getD_cons_succ, List.getD_cons_zero, List.setIfInBounds_toArray, List.set_cons_succ, List.set_cons_zero] at hK ⊢
                  refine wpOp_at rfl rfl ?_
                  go_simp
                  exact hK _ _ _ rfl HJ.out rfl
                · have l9 := hdep 9 (by kernel_rfl)
                  replace l9 : us 9 = .pointer (some ⟨D, 3, none⟩) := l9
                  simp only [List.getD_cons_succ, List.getD_cons_zero, List.setIfInBounds_toArray, List.set_cons_succ, List.set_cons_zero, l9] at hK ⊢
                  refine wpOp_at rfl rfl ?_
                  go_simp
                  exact hK _ _ _ rfl HJ.out rfl
                · simp only [List.getD_cons_succ, List.getD_cons_zero, List.setIfInBounds_toArray, List.set_cons_succ, List.set_cons_zero] at hK ⊢
                  refine wpOp_at rfl rfl ?_
                  go_simp
                  exact hK _ _ _ rfl HJ.out rfl
                · have l11 := hdep 11 (by kernel_rfl)
                  replace l11 : us 11 = .pointer (some ⟨D, 4, none⟩) := l11
                  simp only [List.getD_cons_succ, List.getD_cons_zero, List.setIfInBounds_toArray, List.set_cons_succ, List.set_cons_zero, l11] at hK ⊢
                  refine wpOp_at rfl rfl ?_
                  go_simp
                  exact hK _ _ _ rfl HJ.out rfl
                · simp only [List.getD_cons_succ, List.getD_cons_zero, List.setIfInBounds_toArray, List.set_cons_succ, List.set_cons_zero] at hK ⊢
                  refine wpOp_at rfl rfl ?_
                  go_simp
                  exact hK _ _ _ rfl HJ.out rfl
                · have l13 := hdep 13 (by kernel_rfl)
                  replace l13 : us 13 = .pointer (some ⟨D, 5, none⟩) := l13
                  simp only [List.getD_cons_succ, List.getD_cons_zero, List.setIfInBounds_toArray, List.set_cons_succ, List.set_cons_zero, l13] at hK ⊢
                  refine wpOp_at rfl rfl ?_
                  go_simp
                  exact hK _ _ _ rfl HJ.out rfl
                · have l8 := hdep 8 (by kernel_rfl)
                  replace l8 : us 8 = .pointer (some ⟨RB, 0, none⟩) := l8
                  have l10 := hdep 10 (by kernel_rfl)
                  replace l10 : us 10 = .int .i64 en' := l10
                  have l12 := hdep 12 (by kernel_rfl)
                  replace l12 : us 12 = .int .i64 lv' := l12
                  have l14 := hdep 14 (by kernel_rfl)
                  replace l14 : us 14 = .slice ta tn tc := l14
                  simp only [List.getD_cons_succ, List.getD_cons_zero, List.setIfInBounds_toArray, List.set_cons_succ, List.set_cons_zero, l8, l10, l12, l14] at hK ⊢
                  refine wpOp_at rfl rfl ?_
                  go_simp
                  obtain rfl := h2 rfl
                  refine (HC.out.2 W HJ.out.1 HJ.out.2.2).mono ?_
                  rintro e wz ⟨rfl, hz1, hz2⟩
                  exact hK _ _ _ rfl ⟨HJ.out.1.chgT hb0 hz2, HJ.out.2.1.chgT hz2, hz1⟩ rfl
                · have l7 := hdep 7 (by kernel_rfl)
                  replace l7 : us 7 = .int .i64 ev := l7
                  have l15 := hdep 15 (by kernel_rfl)
                  replace l15 : us 15 = .int .i64 ev := l15
                  simp only [List.getD_cons_succ, List.getD_cons_zero, List.setIfInBounds_toArray, List.set_cons_succ, List.set_cons_zero, l7, l15] at hK ⊢
                  refine wpOp_at rfl rfl ?_
                  go_simp
                  exact hK _ _ _ rfl HJ.out rfl
                · have l16 := hdep 16 (by kernel_rfl)
                  replace l16 : us 16 = .bool true := l16
                  simp only [List.getD_cons_succ, List.getD_cons_zero, List.setIfInBounds_toArray, List.set_cons_succ, List.set_cons_zero, l16] at hK ⊢
                  refine wpOp_at rfl rfl ?_
                  go_simp
                  exact hK _ _ _ rfl HJ.out rfl
              case hdoneC =>
                intro us W hJ hall
                have l0 := hall 0 (by decide)
                replace l0 : us 0 = .pointer (some ⟨HB, 0, none⟩) := l0
                have l1 := hall 1 (by decide)
                replace l1 : us 1 = .pointer (some ⟨D, 3, none⟩) := l1
                have l2 := hall 2 (by decide)
                replace l2 : us 2 = .int .i64 en' := l2
                have l3 := hall 3 (by decide)
                replace l3 : us 3 = .pointer (some ⟨D, 4, none⟩) := l3
                have l4 := hall 4 (by decide)
                replace l4 : us 4 = .int .i64 lv' := l4
                have l5 := hall 5 (by decide)
                replace l5 : us 5 = .slice (some ⟨ib, 0, none⟩) tn ic := l5
                have l6 := hall 6 (by decide)
                replace l6 : us 6 = .agg #[.int .i64 en', .int .i64 lv', .slice (some ⟨ib, 0, none⟩) tn ic] := l6
                have l7 := hall 7 (by decide)
                replace l7 : us 7 = .int .i64 ev := l7
                have l8 := hall 8 (by decide)
                replace l8 : us 8 = .pointer (some ⟨RB, 0, none⟩) := l8
                have l9 := hall 9 (by decide)
                replace l9 : us 9 = .pointer (some ⟨D, 3, none⟩) := l9
                have l10 := hall 10 (by decide)
                replace l10 : us 10 = .int .i64 en' := l10
                have l11 := hall 11 (by decide)
                replace l11 : us 11 = .pointer (some ⟨D, 4, none⟩) := l11
                have l12 := hall 12 (by decide)
                replace l12 : us 12 = .int .i64 lv' := l12
                have l13 := hall 13 (by decide)
                replace l13 : us 13 = .pointer (some ⟨D, 5, none⟩) := l13
                have l14 := hall 14 (by decide)
                replace l14 : us 14 = .slice ta tn tc := l14
                have l15 := hall 15 (by decide)
                replace l15 : us 15 = .int .i64 ev := l15
                have l16 := hall 16 (by decide)
                replace l16 : us 16 = .bool true := l16
                have l17 := hall 17 (by decide)
                replace l17 : us 17 = .bool true := l17
                simp only [actU, Act.put, List.setIfInBounds_toArray, List.set_cons_succ, List.set_cons_zero, Nat.reduceAdd, l0, l1, l2, l3, l4, l5, l6, l7, l8, l9, l10, l11, l12, l13, l14, l15, l16, l17]
                clear hall l0 l1 l2 l3 l4 l5 l6 l7 l8 l9 l10 l11 l12 l13 l14 l15 l16 l17
                have HJ : Hid (EnvT w b D what rule place en' lv' tree ta tn tc S6 ib ic W ∧ SQ ib b W HB s1 ∧ RQ ib b W RB s1) := Lib.hid hJ
                clear hJ k0 k1 k2 k3 k4 k5
                go_wp2_with fail
                go_meet
                exact ⟨HB, rfl, rfl, Lib.hid ⟨s1, HJ.out.2.1, HJ.out.2.2, HG1.out, HJ.out.1⟩⟩
          case rest =>
            obtain ⟨HB', rfl, rfl, hcut⟩ := hcut
            clear k0 k1 k2 k3 k4 k5
            obtain ⟨w8, e8⟩ : ∃ z, z = wc := ⟨_, rfl⟩
            rw [← e8]
            rw [← e8] at hcut
            clear e8
            obtain ⟨s', hs', hr', hg', hE'⟩ := hcut.out
            obtain ⟨k0, k1, k2, k3, k4, k5⟩ := cells6 hE'.dd
            obtain ⟨g1, g2, g3, g4, g5, g6, cur, hcur⟩ := hE'.lent HS6.out.2
            have htn' := HQ.out.2.2.2.2.1
            have hic : tn + 12 ≤ ic := by omega
            have hkept := KeptTwigs_any w8 ib 0 tn ic ta tn tc tree htn' htn' (by omega) hic (by simp only [maxLen]; exact g4) g1 (HTI.out.keep hE'.tot.kp)
            have HK := Lib.hid (And.intro hs' (And.intro hr' (And.intro hg' hE')))
            clear hs' hr' hg' hE' g1 g2 g3 g5 g6 hcur htn'
            go_wp2_with fail
            refine hkept.mono ?_
            clear hkept
            rintro e w9 ⟨rfl, hc9⟩
            have hE9 := HK.out.2.2.2.chg0 hc9
            have hT9 := (hE9.lent HS6.out.2).2.1
            rw [← HQ.out.2.2.2.2.1] at hT9
            have hover := OverTwigs_any w9 0 (some ⟨ib, 0, none⟩) tn ic tree HQ.out.2.2.2.2.1 (by omega) (by have := hT9.1; rw [← HQ.out.2.2.2.2.1] at this; exact this)
            have HE9 := Lib.hid hE9
            have HC9 := Lib.hid hc9
            clear hE9 hT9 hc9 k0 k1 k2 k3 k4 k5
            go_wp2_with fail
            refine hover.mono ?_
            clear hover
            rintro e w10 ⟨rfl, hc10'⟩
            have hc10 : Chg [ib] w9 w10 := by simpa [Value.ownBlock] using hc10'
            clear hc10'
            obtain ⟨-, -, -, -, hSi, -, cur9, hcur9⟩ := HE9.out.lent HS6.out.2
            have hs10 := (HK.out.1.chg0 HC9.out).spoil hcur9 hc10
            have hr10 := (HK.out.2.1.chg0 HC9.out).spoil hcur9 hc10
            have hd10 := hc10.heap HE9.out.dd (fun hm => by
              simp only [List.mem_singleton] at hm
              have h9 := HE9.out.dd
              rw [hm, hcur9] at h9
              simp only [Option.some.injEq, Obj.cells.injEq] at h9
              exact absurd h9.2.1 (by decide))
            have ht10 : Chg [] w w10 := HE9.out.tot.trans hc10 (fun j hj => .inr (by simp only [List.mem_singleton] at hj; omega))
            obtain ⟨k0, k1, k2, k3, k4, k5⟩ := cells6 hd10
            have hsame := same19_any w10 ib b HB' RB s' hs10 hr10 HK.out.2.2.1 (by omega) rule place lv' hru hpl HTO.out.2
            unfold SameP at hsame
            have H10 := Lib.hid (And.intro hs10 (And.intro hr10 ht10))
            clear hs10 hr10 hd10 ht10 hc10 hSi hcur9
            go_wp2_with fail
            refine hsame.mono ?_
            clear hsame
            rintro e w11 ⟨rfl, hc11⟩
            go_wp2_with fail
            go_roundg (n - (i + 1))
            case measure => omega
            case rel => exact ⟨i + 1, HB', rfl, by omega, rfl, by go_num, Lib.hid ⟨ib, s', H10.out.1.chg0 hc11, H10.out.2.1.chg0 hc11, HK.out.2.2.1, H10.out.2.2.tr hc11⟩⟩
    · obtain rfl : i = n := by omega
      go_wp2_with fail
      refine (awake19_any wq).mono ?_
      rintro e w2 ⟨rfl, hc2⟩
      go_wp2_with fail
      go_ret
      obtain ⟨NB, s, hs, hr, hg, hcq⟩ := hI.out
      exact ⟨rfl, hcq.tr hc2⟩
end Go.Proofs.Ytffjfkjlahdedaa

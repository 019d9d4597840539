/-
  HeadsDoes: whatever is done to a stack, it is the document's.
  Conditions: none.
-/
import Derived.Test.YtnajhcoimohcaaaSmHd22
import Derived.Test.YtnajhcoimohcaaaSmHd26
import Derived.Test.YtnajhcoimohcaaaSmGIo
import Derived.Deep.CutBlock
set_option linter.unusedVariables false
set_option linter.unusedSimpArgs false
set_option linter.unnecessarySimpa false
namespace Go.Proofs.Ytnajhcoimohcaaa
open Go.RowKit Go.MapKept

theorem GoodS.ok {k : Nat} {s : List Fm} (h : GoodS k s) (hk : k ≤ 200) : PlainOK s :=
  ⟨h.dist, h.own, by have := h.few; omega, fun f hf => by have := h.inv f hf; omega, fun f hf => by have := h.tch f hf; omega⟩
theorem topP_wf {s : List Fm} (hs : ∀ f ∈ s, I64 f.rule ∧ I64 f.place) : I64 (topP s) := by
  unfold topP
  cases h : s.getLast? with
  | none => exact ⟨by decide, by decide⟩
  | some f => exact (hs f (List.mem_of_getLast? h)).2
theorem turnD_wf {s : List Fm} {y : Dd} (hy : y.Wf) (hs : ∀ f ∈ s, I64 f.rule ∧ I64 f.place) : (0 ≤ (turnD s y).what ∧ (turnD s y).what ≤ 4) ∧ (turnD s y).rule = y.rule ∧ (turnD s y).tch = y.tch ∧ I64 (turnD s y).place := by
  have ht := topP_wf hs
  unfold turnD
  split
  · refine ⟨?_, rfl, rfl, ?_⟩
    · simp only
      split <;> omega
    · simp only
      split
      · rename_i h
        exact ⟨by have := ht.1; omega, by have := h.2; omega⟩
      · exact ht
  · refine ⟨?_, rfl, rfl, hy.2.2.1⟩
    simp only
    omega
theorem sum_mem {l : List Nat} {x : Nat} (h : x ∈ l) : x ≤ l.sum := by
  induction l with
  | nil => cases h
  | cons a l ih =>
    simp only [List.sum_cons]
    rcases List.mem_cons.1 h with rfl | h
    · omega
    · have := ih h; omega
theorem size_few {ds : List Dd} (h : sizeTo ds ds.length ≤ 200) : ds.length ≤ 200 ∧ ∀ y ∈ ds, y.tch.length ≤ 200 := by
  unfold sizeTo at h
  rw [List.take_length] at h
  refine ⟨by omega, fun y hy => ?_⟩
  have := sum_mem (List.mem_map_of_mem (f := fun z : Dd => z.tch.length) hy)
  omega
theorem ints_block {w : World} {ta : Option Addr} {xs : List Int} (h : Ints w ta xs) : ∀ ad, ta = some ad → xs ≠ [] → ad.block < w.heap.size := by
  intro ad e hx
  obtain ⟨b, o, e2, hc⟩ := h 0 (List.length_pos_iff.2 hx)
  rw [e2] at e
  cases e
  exact World.block_lt_of_cell? w _ hc

/-- What is left: the one on top, or nothing. -/
def leaveF (s : List Fm) : Fm × Int × List Fm := match s.getLast? with | none => (⟨0, 0, [], [], false⟩, 5, []) | some f => (f, 0, s.take (s.length - 1))
theorem GoodS.leave {k : Nat} {s : List Fm} (h : GoodS k s) (hk : k ≤ 200) : GoodS (k + 1) (leaveF s).2.2 ∧ (leaveF s).1.tch.length ≤ 1000000 := by
  unfold leaveF
  cases e : s.getLast? with
  | none => exact ⟨GoodS.nil.mono (Nat.zero_le _), by simp⟩
  | some f => exact ⟨h.take _, by have := h.tch f (List.mem_of_getLast? e); simp only; omega⟩
theorem last_cases (s : List Fm) : (s = [] ∧ leaveF s = (⟨0, 0, [], [], false⟩, 5, [])) ∨ ∃ n f, n + 1 = s.length ∧ s[n]? = some f ∧ leaveF s = (f, 0, s.take n) := by
  cases e : s.getLast? with
  | none => exact .inl ⟨List.getLast?_eq_none_iff.1 e, by unfold leaveF; rw [e]⟩
  | some f =>
    have hne : s ≠ [] := fun h => by subst h; cases e
    have hp := List.length_pos_iff.2 hne
    refine .inr ⟨s.length - 1, f, by omega, by rw [← List.getLast?_eq_getElem?, e], by unfold leaveF; rw [e]⟩
theorem leaveSU (b : Nat) (w : World) (B : Nat) (s : List Fm) (h : SP b w B s) {k : Nat} (hg : GoodS k s) (hk : k ≤ 200) :
    Calls Try.prog 27 #[.pointer (some ⟨B, 0, none⟩)] w fun e w' =>
      ∃ ra rn rc, e = .returned (.tuple #[.agg #[.int .i64 (leaveF s).1.rule, .int .i64 (leaveF s).1.place, .slice ra rn rc, .bool (leaveF s).1.tnt], .int .i64 (leaveF s).2.1]) ∧ rn = (leaveF s).1.tch.length ∧ FreshInts 0 w' ra rc (leaveF s).1.tch ∧ SP b w' B (leaveF s).2.2 ∧ ChgK b w w' := by
  rcases last_cases s with ⟨rfl, e⟩ | ⟨n, f, hn, hf, e⟩
  · rw [e]
    refine (leaveSP0 b w B h).mono fun e' w' hp => ?_
    obtain ⟨rfl, hc⟩ := hp
    exact ⟨none, 0, 0, rfl, rfl, World.ownsRow_nil _ _ _ _, h.chg0 hc, .of0 hc⟩
  · rw [e]
    refine (leaveSP b w B s h n hn f hf (by have := hg.tch f (List.mem_of_getElem? hf); omega)).mono fun e' w' hp => ?_
    obtain ⟨ra, rn, rc, g1, g2, g3, g4, g5⟩ := hp
    exact ⟨ra, rn, rc, g1, g2, row_base g3 (Nat.zero_le _), g4, g5⟩
theorem leaveRU (NB b : Nat) (w : World) (B : Nat) (s : List Fm) (h : RP NB b w B s) {k : Nat} (hg : GoodS k s) (hk : k ≤ 200) :
    Calls Try.prog 28 #[.pointer (some ⟨B, 0, none⟩)] w fun e w' =>
      ∃ ra rn rc ia ik ic, e = .returned (.tuple #[.agg #[.int .i64 (leaveF s).1.rule, .int .i64 (leaveF s).1.place, .slice ra rn rc, .slice ia ik ic, .bool (leaveF s).1.tnt], .int .i64 (leaveF s).2.1]) ∧ rn = (leaveF s).1.tch.length ∧ FreshInts 0 w' ra rc (leaveF s).1.tch ∧ RP NB b w' B (leaveF s).2.2 ∧ ChgR b w w' := by
  rcases last_cases s with ⟨rfl, e⟩ | ⟨n, f, hn, hf, e⟩
  · rw [e]
    refine (leaveRP0 NB b w B h).mono fun e' w' hp => ?_
    obtain ⟨rfl, hc⟩ := hp
    exact ⟨none, 0, 0, none, 0, 0, rfl, rfl, World.ownsRow_nil _ _ _ _, h.chg0 hc, ⟨[], by simp, hc⟩⟩
  · rw [e]
    exact leaveRP NB b w B s h n hn (by have := hg.few; omega) f hf

set_option maxRecDepth 100000 in
set_option maxHeartbeats 16000000 in
theorem headsDoes_any (w : World) (a : Option Addr) (n c : Nat) (ds : List Dd) (hn : n = ds.length) (hc : n ≤ c) (hcm : c ≤ 9223372036854775807) (hd : Deeds w a ds) (hwf : ∀ y ∈ ds, y.Wf) (hnb : n ≤ 17592186044416) (htb : ∀ y ∈ ds, y.tch.length ≤ 17592186044416) :
    Calls Try.prog 6 #[.slice a n c] w fun e w' => e = .returned (.bool true) ∧ Chg [] w w' := by
  have h1 := size20_any w a n c ds hn hc hcm hd hnb htb
  obtain ⟨i1, hi1, hy0, hy1, hy2⟩ := info_parts Try.infoDeed
  obtain ⟨i2, hi2, hu0, hu1, hu2⟩ := info_parts Try.infoLeft
  obtain ⟨i3, hi3, hv0, hv1, hv2⟩ := info_parts Try.infoRFrame
  have HH := Lib.hid (And.intro hn (And.intro hd hwf))
  clear hn hd hwf htb
  go_enter Try.func6, Try.ntmps6
  go_wp2_with fail
  refine h1.mono ?_
  clear h1
  rintro e w1 ⟨m, rfl, hm, hc1⟩
  by_cases hm2 : 200 < m
  · have hm3 : decide (200 < (m : Int)) = true := decide_eq_true (by omega)
    go_wp2_with fail
    refine (awake20_any w1).mono ?_
    rintro e w2 ⟨rfl, hc2⟩
    go_wp2_with fail
    go_ret
    exact ⟨rfl, hc1.tr hc2⟩
  have hm3 : decide (200 < (m : Int)) = false := decide_eq_false (by omega)
  obtain ⟨hn2, ht2⟩ := size_few (ds := ds) (by have := hm (by omega); omega)
  have hn3 : n ≤ 200 := by have := HH.out.1; omega
  have HT := Lib.hid ht2
  obtain ⟨b, hb⟩ : ∃ b, b = w1.heap.size := ⟨_, rfl⟩
  have h2 := newSP w1
  rw [← hb] at h2
  have hb0 : w.heap.size ≤ b := by rw [hb]; exact hc1.size
  have HB0 := Lib.hid hb
  clear hm hm2 hn2 ht2 hb
  go_wp2_with fail
  refine h2.mono ?_
  clear h2 hm3
  rintro e w2 ⟨rfl, hs2, hc2⟩
  have hb2 : b ≤ w2.heap.size := by rw [HB0.out]; exact hc2.size
  have hr3 := newRP 0 b w2 hb2 (by omega)
  have hc3 := (hc1.tr hc2).alloc (.cells #[.slice none 0 0] 53)
  have hs3 := hs2.chg0 ((Chg.refl [] w2).alloc (.cells #[.slice none 0 0] 53))
  obtain ⟨RB, hRB⟩ : ∃ z, z = w2.heap.size := ⟨_, rfl⟩
  rw [← hRB] at hr3
  have H3 := Lib.hid (And.intro hs3 (And.intro hr3 (And.intro hc3 hRB)))
  clear hs2 hc2 hs3 hr3 hc3 hc1 hRB hb2
  go_wp2_with fail
  rw [← H3.out.2.2.2]
  go_loopg [3, 5] n (fun dd sv iv wr => ∃ i HB : Nat, dd = n - i ∧ i ≤ n ∧ sv = .pointer (some ⟨HB, 0, none⟩) ∧ iv = .int .i64 i ∧ Hid (∃ NB s, SP b wr HB s ∧ RP NB b wr RB s ∧ GoodS i s ∧ Chg [] w wr))
  case atStart => exact ⟨0, b, rfl, Nat.zero_le _, rfl, rfl, Lib.hid ⟨0, [], H3.out.1, H3.out.2.1, GoodS.nil, H3.out.2.2.1⟩⟩
  case round =>
    obtain ⟨i, HB, rfl, hi, rfl, rfl, hI⟩ := hrel
    obtain ⟨wq, rfl⟩ : ∃ wq, wq = wr := ⟨_, rfl⟩
    by_cases hil : i < n
    · obtain ⟨NB, s, hs, hr, hg, hcq⟩ := hI.out
      have hiL : i < ds.length := by have := HH.out.1; omega
      obtain ⟨bd, od, ta, tn, tc, ea, hda⟩ := HH.out.2.1 i hiL
      have hda0 := hda
      replace hda := hda.chg0 hcq
      subst ea
      obtain ⟨y0, hy0'⟩ : ∃ z, z = ds[i] := ⟨_, rfl⟩
      have hwf := HH.out.2.2 _ (List.getElem_mem hiL)
      have htl := HT.out _ (List.getElem_mem hiL)
      rw [← hy0'] at hda hda0 hwf htl
      have hTW := turnD_wf hwf hs.wf
      obtain ⟨y, hyt⟩ : ∃ z, z = turnD s y0 := ⟨_, rfl⟩
      have hturn : Calls Try.prog 19 #[.pointer (some ⟨RB, 0, none⟩), .agg #[.int .i64 y0.what, .int .i64 y0.rule, .int .i64 y0.place, .slice ta tn tc]] wq (TurnP wq (turnD s y0) ta tn tc) := by
        obtain ⟨ra, rc, l, k1, rfl, k3⟩ := hr
        exact turned_any wq RB ra rc l k1 (by have := hg.few; rw [rfs_len] at this; omega) (topP_wf hs.wf).1 y0 hwf ta tn tc
      rw [← hyt] at hturn hTW
      obtain ⟨what, rule, place, tch⟩ := y
      obtain ⟨what0, rule0, place0, tch0⟩ := y0
      obtain ⟨z0, z1, z2, z3, htn, htc, htm, hti⟩ := hda
      simp only at hturn hTW z0 z1 z2 z3 htn hti htl hwf
      unfold TurnP at hturn
      simp only at hturn
      obtain ⟨hw4, rfl, rfl, hpl⟩ := hTW
      have hru := hwf.2.1
      have hzw := hwf.2.2.2
      have hax := ints_block hda0.ints
      simp only at hru hzw hax
      have hi1' : (i : Int) < n := by omega
      have HQ := Lib.hid (And.intro hs (And.intro hr (And.intro hg (And.intro hcq (And.intro htn (And.intro htl (And.intro hti (And.intro hzw hax))))))))
      have HTI := Lib.hid hda0.ints
      have htn2 : tn ≤ 200 := by omega
      clear hs hr hg hcq htn htl hti hwf hy0' hyt hiL hda0 hzw hax
      go_wp2_with fail
      refine hturn.mono ?_
      clear hturn
      rintro e w4 ⟨rfl, hc4⟩
      obtain ⟨w5, e5⟩ : ∃ z, z = w4.alloc (.cells #[.int .i64 what, .int .i64 rule, .int .i64 place, .slice ta tn tc] 55) := ⟨_, rfl⟩
      have hc5 := hc4.alloc (.cells #[.int .i64 what, .int .i64 rule, .int .i64 place, .slice ta tn tc] 55)
      have hd5 := heap_alloc_same w4 (.cells #[.int .i64 what, .int .i64 rule, .int .i64 place, .slice ta tn tc] 55)
      obtain ⟨D, hD⟩ : ∃ z, z = w4.heap.size := ⟨_, rfl⟩
      rw [← e5] at hc5 hd5
      rw [← hD] at hd5
      have hlent := LentInts_any w5 ta tn tc tch HQ.out.2.2.2.2.1 (by omega) (HQ.out.2.2.2.2.2.2.1.keep hc5.kp)
      obtain ⟨k0, k1, k2, k3⟩ := cellsL4 hd5
      have H5 := Lib.hid (And.intro hc5 (And.intro hd5 hD))
      clear hc4 hc5 hd5 z0 z1 z2 z3
      go_wp2_with fail
      rw [← hD, ← e5]
      refine hlent.mono ?_
      clear hlent e5 hD
      rintro e w6 ⟨ib, ic, rfl, hrow6, hc6⟩
      obtain ⟨S6, hS6⟩ : ∃ z, z = w5.heap.size := ⟨_, rfl⟩
      rw [← hS6] at hrow6
      have hE : Env w b D what rule place tch ta tn tc S6 ib ic w6 := ⟨((HQ.out.2.2.2.1.tr H5.out.1).tr hc6), by have := (HB0.out); have := H3.out.2.2.1.size; have h7 := HQ.out.1; have := ((H5.out.1.tr hc6).size); have h8 := HQ.out.2.1; obtain ⟨_, _, _, h9, _, h10⟩ := h8; have := h10 RB (by simp); have := lt_of_block h9.top; omega, hc6.heap H5.out.2.1 (by simp), hrow6⟩
      have hR6 : RP ib b w6 RB s := (HQ.out.2.1.chg0 H5.out.1).off hc6 (by rw [← hS6]; exact hE.lent.2.2.2.2.1) hE.lent.2.2.2.2.2.1
      have hS6' : SP b w6 HB s := HQ.out.1.chg0 (H5.out.1.tr hc6)
      have HE := Lib.hid (And.intro hE (And.intro hS6' hR6))
      have hSw : w.heap.size ≤ S6 := by rw [hS6]; exact (HQ.out.2.2.2.1.tr H5.out.1).size
      have HS6 := Lib.hid hS6
      rw [← HQ.out.2.2.2.2.1]
      obtain ⟨k0, k1, k2, k3⟩ := cellsL4 hE.dd
      clear hE hR6 hS6' hrow6 hc6 hS6
      go_upto_block 2 with fail
      go_cut [3, 8, 9, 10, 11, 12, 13] from 21 to 172 (fun sv okv u9 u10 u11 u12 u13 wx => ∃ HB' : Nat, sv = .pointer (some ⟨HB', 0, none⟩) ∧ okv = .bool true ∧ Hid (∃ s', SP b wx HB' s' ∧ RP ib b wx RB s' ∧ GoodS (i + 1) s' ∧ Env w b D what rule place tch ta tn tc S6 ib ic wx))
      case first =>
        rcases (show what = 0 ∨ what = 1 ∨ what = 2 ∨ what = 3 ∨ what = 4 by omega) with rfl | rfl | rfl | rfl | rfl
        · -- 0: entered
          obtain ⟨⟨s1, ev⟩, hr1⟩ : ∃ z, z = enterS s rule place := ⟨_, rfl⟩
          have HG1 : Hid (GoodS (i + 1) s1) := Lib.hid (by have := HQ.out.2.2.1.enter rule place; rw [← hr1] at this; exact this)
          have hA : ∀ W, Env w b D 0 rule place tch ta tn tc S6 ib ic W → SP b W HB s → Calls Try.prog 21 #[.pointer (some ⟨HB, 0, none⟩), .int .i64 rule, .int .i64 place] W fun e w' => e = .returned (.int .i64 ev) ∧ SP b w' HB s1 ∧ ChgK b W w' := fun W hW hS => by
            have := enterSP b W HB s hS hW.big (by have := HQ.out.2.2.1.few; omega) rule place hru hpl
            rwa [← hr1] at this
          have hB : ∀ W, Env w b D 0 rule place tch ta tn tc S6 ib ic W → RP ib b W RB s → Calls Try.prog 22 #[.pointer (some ⟨RB, 0, none⟩), .int .i64 rule, .int .i64 place] W fun e w' => e = .returned (.int .i64 ev) ∧ RP ib b w' RB s1 ∧ ChgR b W w' := fun W hW hS => by
            have := enterRP ib b W RB s hS hW.big HQ.out.2.2.1 (by omega) rule place
            rwa [← hr1] at this
          have HC := Lib.hid (And.intro hA hB)
          clear hA hB hr1
          go_wp2_with fail
          refine wp_region_two (by kernel_rfl) (by kernel_rfl) [40, 41, 42, 43, 44, 45, 46, 47, 48, 49, 50, 51, 52, 8] (by kernel_rfl) 5 11 (by decide) (by decide) (fun rI rV => match rI with | 0 => rV = .pointer (some ⟨HB, 0, none⟩) | 1 => rV = .pointer (some ⟨D, 1, none⟩) | 2 => rV = .int .i64 rule | 3 => rV = .pointer (some ⟨D, 2, none⟩) | 4 => rV = .int .i64 place | 5 => rV = .int .i64 ev | 6 => rV = .pointer (some ⟨RB, 0, none⟩) | 7 => rV = .pointer (some ⟨D, 1, none⟩) | 8 => rV = .int .i64 rule | 9 => rV = .pointer (some ⟨D, 2, none⟩) | 10 => rV = .int .i64 place | 11 => rV = .int .i64 ev | 12 => rV = .bool true | 13 => rV = .bool true | _ => True) (fun l1 l2 W => Env w b D 0 rule place tch ta tn tc S6 ib ic W ∧ SP b W HB (if l1 = true then s1 else s) ∧ RP ib b W RB (if l2 = true then s1 else s)) ?h0A ?hstepA ?hdoneA
          case h0A =>
            exact ⟨HE.out.1.chg0 ((Chg.refl [] _).drew), HE.out.2.1.chg0 ((Chg.refl [] _).drew), HE.out.2.2.chg0 ((Chg.refl [] _).drew)⟩
          case hstepA =>
            intro rI rH us W l1 l2 hJ h1 h2 hdep K hK
            have hiN : rI < 14 := rH
            have HJ := Lib.hid hJ
            obtain ⟨k0, k1, k2, k3⟩ := cellsL4 hJ.1.dd
            clear hJ
            simp only [actU, Act.put, List.setIfInBounds_toArray, List.set_cons_succ, List.set_cons_zero, Nat.reduceAdd] at hK ⊢
            rcases (show rI = 0 ∨ rI = 1 ∨ rI = 2 ∨ rI = 3 ∨ rI = 4 ∨ rI = 5 ∨ rI = 6 ∨ rI = 7 ∨ rI = 8 ∨ rI = 9 ∨ rI = 10 ∨ rI = 11 ∨ rI = 12 ∨ rI = 13 by omega) with rfl | rfl | rfl | rfl | rfl | rfl | rfl | rfl | rfl | rfl | rfl | rfl | rfl | rfl
            · simp only [List.getD_cons_succ, List.getD_cons_zero, List.setIfInBounds_toArray, List.set_cons_succ, List.set_cons_zero] at hK ⊢
              refine wpOp_at rfl rfl ?_
              go_simp
              exact hK _ _ _ rfl HJ.out rfl
            · simp only [List.getD_cons_succ, List.getD_cons_zero, List.setIfInBounds_toArray, List.set_cons_succ, List.set_cons_zero] at hK ⊢
              refine wpOp_at rfl rfl ?_
              go_simp
              exact hK _ _ _ rfl HJ.out rfl
            · have l1 := hdep 1 (by kernel_rfl)
              replace l1 : us 1 = .pointer (some ⟨D, 1, none⟩) := l1
              simp only [List.getD_cons_succ, List.getD_cons_zero, List.setIfInBounds_toArray, List.set_cons_succ, List.set_cons_zero, l1] at hK ⊢
              refine wpOp_at rfl rfl ?_
              go_simp
              exact hK _ _ _ rfl HJ.out rfl
            · simp only [List.getD_cons_succ, List.getD_cons_zero, List.setIfInBounds_toArray, List.set_cons_succ, List.set_cons_zero] at hK ⊢
              refine wpOp_at rfl rfl ?_
              go_simp
              exact hK _ _ _ rfl HJ.out rfl
            · have l3 := hdep 3 (by kernel_rfl)
              replace l3 : us 3 = .pointer (some ⟨D, 2, none⟩) := l3
              simp only [List.getD_cons_succ, List.getD_cons_zero, List.setIfInBounds_toArray, List.set_cons_succ, List.set_cons_zero, l3] at hK ⊢
              refine wpOp_at rfl rfl ?_
              go_simp
              exact hK _ _ _ rfl HJ.out rfl
            · have l0 := hdep 0 (by kernel_rfl)
              replace l0 : us 0 = .pointer (some ⟨HB, 0, none⟩) := l0
              have l2 := hdep 2 (by kernel_rfl)
              replace l2 : us 2 = .int .i64 rule := l2
              have l4 := hdep 4 (by kernel_rfl)
              replace l4 : us 4 = .int .i64 place := l4
              simp only [List.getD_cons_succ, List.getD_cons_zero, List.setIfInBounds_toArray, List.set_cons_succ, List.set_cons_zero, l0, l2, l4] at hK ⊢
              refine wpOp_at rfl rfl ?_
              go_simp
              obtain rfl := h1 rfl
              refine (HC.out.1 W HJ.out.1 HJ.out.2.1).mono ?_
              rintro e wz ⟨rfl, hz1, hz2⟩
              exact hK _ _ _ rfl ⟨HJ.out.1.chgK hb0 hz2, hz1, HJ.out.2.2.chgK hz2⟩ rfl
            · simp only [List.getD_cons_succ, List.getD_cons_zero, List.setIfInBounds_toArray, List.set_cons_succ, List.set_cons_zero] at hK ⊢
              refine wpOp_at rfl rfl ?_
              go_simp
              exact hK _ _ _ rfl HJ.out rfl
            · simp only [List.getD_cons_succ, List.getD_cons_zero, List.setIfInBounds_toArray, List.set_cons_succ, List.set_cons_zero] at hK ⊢
              refine wpOp_at rfl rfl ?_
              go_simp
              exact hK _ _ _ rfl HJ.out rfl
            · have l7 := hdep 7 (by kernel_rfl)
              replace l7 : us 7 = .pointer (some ⟨D, 1, none⟩) := l7
              simp only [List.getD_cons_succ, List.getD_cons_zero, List.setIfInBounds_toArray, List.set_cons_succ, List.set_cons_zero, l7] at hK ⊢
              refine wpOp_at rfl rfl ?_
              go_simp
              exact hK _ _ _ rfl HJ.out rfl
            · simp only [List.getD_cons_succ, List.getD_cons_zero, List.setIfInBounds_toArray, List.set_cons_succ, List.set_cons_zero] at hK ⊢
              refine wpOp_at rfl rfl ?_
              go_simp
              exact hK _ _ _ rfl HJ.out rfl
            · have l9 := hdep 9 (by kernel_rfl)
              replace l9 : us 9 = .pointer (some ⟨D, 2, none⟩) := l9
              simp only [List.getD_cons_succ, List.getD_cons_zero, List.setIfInBounds_toArray, List.set_cons_succ, List.set_cons_zero, l9] at hK ⊢
              refine wpOp_at rfl rfl ?_
              go_simp
              exact hK _ _ _ rfl HJ.out rfl
            · have l6 := hdep 6 (by kernel_rfl)
              replace l6 : us 6 = .pointer (some ⟨RB, 0, none⟩) := l6
              have l8 := hdep 8 (by kernel_rfl)
              replace l8 : us 8 = .int .i64 rule := l8
              have l10 := hdep 10 (by kernel_rfl)
              replace l10 : us 10 = .int .i64 place := l10
              simp only [List.getD_cons_succ, List.getD_cons_zero, List.setIfInBounds_toArray, List.set_cons_succ, List.set_cons_zero, l6, l8, l10] at hK ⊢
              refine wpOp_at rfl rfl ?_
              go_simp
              obtain rfl := h2 rfl
              refine (HC.out.2 W HJ.out.1 HJ.out.2.2).mono ?_
              rintro e wz ⟨rfl, hz1, hz2⟩
              exact hK _ _ _ rfl ⟨HJ.out.1.chgR hb0 hz2, HJ.out.2.1.chgR hz2, hz1⟩ rfl
            · have l5 := hdep 5 (by kernel_rfl)
              replace l5 : us 5 = .int .i64 ev := l5
              have l11 := hdep 11 (by kernel_rfl)
              replace l11 : us 11 = .int .i64 ev := l11
              simp only [List.getD_cons_succ, List.getD_cons_zero, List.setIfInBounds_toArray, List.set_cons_succ, List.set_cons_zero, l5, l11] at hK ⊢
              refine wpOp_at rfl rfl ?_
              go_simp
              exact hK _ _ _ rfl HJ.out rfl
            · have l12 := hdep 12 (by kernel_rfl)
              replace l12 : us 12 = .bool true := l12
              simp only [List.getD_cons_succ, List.getD_cons_zero, List.setIfInBounds_toArray, List.set_cons_succ, List.set_cons_zero, l12] at hK ⊢
              refine wpOp_at rfl rfl ?_
              go_simp
              exact hK _ _ _ rfl HJ.out rfl
          case hdoneA =>
            intro us W hJ hall
            have l0 := hall 0 (by decide)
            replace l0 : us 0 = .pointer (some ⟨HB, 0, none⟩) := l0
            have l1 := hall 1 (by decide)
            replace l1 : us 1 = .pointer (some ⟨D, 1, none⟩) := l1
            have l2 := hall 2 (by decide)
            replace l2 : us 2 = .int .i64 rule := l2
            have l3 := hall 3 (by decide)
            replace l3 : us 3 = .pointer (some ⟨D, 2, none⟩) := l3
            have l4 := hall 4 (by decide)
            replace l4 : us 4 = .int .i64 place := l4
            have l5 := hall 5 (by decide)
            replace l5 : us 5 = .int .i64 ev := l5
            have l6 := hall 6 (by decide)
            replace l6 : us 6 = .pointer (some ⟨RB, 0, none⟩) := l6
            have l7 := hall 7 (by decide)
            replace l7 : us 7 = .pointer (some ⟨D, 1, none⟩) := l7
            have l8 := hall 8 (by decide)
            replace l8 : us 8 = .int .i64 rule := l8
            have l9 := hall 9 (by decide)
            replace l9 : us 9 = .pointer (some ⟨D, 2, none⟩) := l9
            have l10 := hall 10 (by decide)
            replace l10 : us 10 = .int .i64 place := l10
            have l11 := hall 11 (by decide)
            replace l11 : us 11 = .int .i64 ev := l11
            have l12 := hall 12 (by decide)
            replace l12 : us 12 = .bool true := l12
            have l13 := hall 13 (by decide)
            replace l13 : us 13 = .bool true := l13
            simp only [actU, Act.put, List.setIfInBounds_toArray, List.set_cons_succ, List.set_cons_zero, Nat.reduceAdd, l0, l1, l2, l3, l4, l5, l6, l7, l8, l9, l10, l11, l12, l13]
            clear hall l0 l1 l2 l3 l4 l5 l6 l7 l8 l9 l10 l11 l12 l13
            have HJ : Hid (Env w b D 0 rule place tch ta tn tc S6 ib ic W ∧ SP b W HB s1 ∧ RP ib b W RB s1) := Lib.hid hJ
            clear hJ
            go_wp2_with fail
            go_meet
            exact ⟨HB, rfl, rfl, Lib.hid ⟨s1, HJ.out.2.1, HJ.out.2.2, HG1.out, HJ.out.1⟩⟩
        · -- 1: read
          obtain ⟨⟨s1, ev⟩, hr1⟩ : ∃ z, z = readS s rule place := ⟨_, rfl⟩
          have HG1 : Hid (GoodS (i + 1) s1) := Lib.hid (by have := HQ.out.2.2.1.read (by omega) rule place; rw [← hr1] at this; exact this)
          have hA : ∀ W, Env w b D 1 rule place tch ta tn tc S6 ib ic W → SP b W HB s → Calls Try.prog 23 #[.pointer (some ⟨HB, 0, none⟩), .int .i64 rule, .int .i64 place] W fun e w' => e = .returned (.int .i64 ev) ∧ SP b w' HB s1 ∧ ChgK b W w' := fun W hW hS => by
            have := readSP b W HB s hS hW.big rule place hru
            rwa [← hr1] at this
          have hB : ∀ W, Env w b D 1 rule place tch ta tn tc S6 ib ic W → RP ib b W RB s → Calls Try.prog 24 #[.pointer (some ⟨RB, 0, none⟩), .int .i64 rule, .int .i64 place] W fun e w' => e = .returned (.int .i64 ev) ∧ RP ib b w' RB s1 ∧ ChgR b W w' := fun W hW hS => by
            have := readRP ib b W RB s hS hW.big HQ.out.2.2.1 (by omega) rule place
            rwa [← hr1] at this
          have HC := Lib.hid (And.intro hA hB)
          clear hA hB hr1
          go_wp2_with fail
          refine wp_region_two (by kernel_rfl) (by kernel_rfl) [55, 56, 57, 58, 59, 60, 61, 62, 63, 64, 65, 66, 67, 8] (by kernel_rfl) 5 11 (by decide) (by decide) (fun rI rV => match rI with | 0 => rV = .pointer (some ⟨HB, 0, none⟩) | 1 => rV = .pointer (some ⟨D, 1, none⟩) | 2 => rV = .int .i64 rule | 3 => rV = .pointer (some ⟨D, 2, none⟩) | 4 => rV = .int .i64 place | 5 => rV = .int .i64 ev | 6 => rV = .pointer (some ⟨RB, 0, none⟩) | 7 => rV = .pointer (some ⟨D, 1, none⟩) | 8 => rV = .int .i64 rule | 9 => rV = .pointer (some ⟨D, 2, none⟩) | 10 => rV = .int .i64 place | 11 => rV = .int .i64 ev | 12 => rV = .bool true | 13 => rV = .bool true | _ => True) (fun l1 l2 W => Env w b D 1 rule place tch ta tn tc S6 ib ic W ∧ SP b W HB (if l1 = true then s1 else s) ∧ RP ib b W RB (if l2 = true then s1 else s)) ?h0B ?hstepB ?hdoneB
          case h0B =>
            exact ⟨HE.out.1.chg0 ((Chg.refl [] _).drew), HE.out.2.1.chg0 ((Chg.refl [] _).drew), HE.out.2.2.chg0 ((Chg.refl [] _).drew)⟩
          case hstepB =>
            intro rI rH us W l1 l2 hJ h1 h2 hdep K hK
            have hiN : rI < 14 := rH
            have HJ := Lib.hid hJ
            obtain ⟨k0, k1, k2, k3⟩ := cellsL4 hJ.1.dd
            clear hJ
            simp only [actU, Act.put, List.setIfInBounds_toArray, List.set_cons_succ, List.set_cons_zero, Nat.reduceAdd] at hK ⊢
            rcases (show rI = 0 ∨ rI = 1 ∨ rI = 2 ∨ rI = 3 ∨ rI = 4 ∨ rI = 5 ∨ rI = 6 ∨ rI = 7 ∨ rI = 8 ∨ rI = 9 ∨ rI = 10 ∨ rI = 11 ∨ rI = 12 ∨ rI = 13 by omega) with rfl | rfl | rfl | rfl | rfl | rfl | rfl | rfl | rfl | rfl | rfl | rfl | rfl | rfl
            · simp only [List.getD_cons_succ, List.getD_cons_zero, List.setIfInBounds_toArray, List.set_cons_succ, List.set_cons_zero] at hK ⊢
              refine wpOp_at rfl rfl ?_
              go_simp
              exact hK _ _ _ rfl HJ.out rfl
            · simp only [List.getD_cons_succ, List.getD_cons_zero, List.setIfInBounds_toArray, List.set_cons_succ, List.set_cons_zero] at hK ⊢
              refine wpOp_at rfl rfl ?_
              go_simp
              exact hK _ _ _ rfl HJ.out rfl
            · have l1 := hdep 1 (by kernel_rfl)
              replace l1 : us 1 = .pointer (some ⟨D, 1, none⟩) := l1
              simp only [List.getD_cons_succ, List.getD_cons_zero, List.setIfInBounds_toArray, List.set_cons_succ, List.set_cons_zero, l1] at hK ⊢
              refine wpOp_at rfl rfl ?_
              go_simp
              exact hK _ _ _ rfl HJ.out rfl
            · simp only [List.getD_cons_succ, List.getD_cons_zero, List.setIfInBounds_toArray, List.set_cons_succ, List.set_cons_zero] at hK ⊢
              refine wpOp_at rfl rfl ?_
              go_simp
              exact hK _ _ _ rfl HJ.out rfl
            · have l3 := hdep 3 (by kernel_rfl)
              replace l3 : us 3 = .pointer (some ⟨D, 2, none⟩) := l3
              simp only [List.getD_cons_succ, List.getD_cons_zero, List.setIfInBounds_toArray, List.set_cons_succ, List.set_cons_zero, l3] at hK ⊢
              refine wpOp_at rfl rfl ?_
              go_simp
              exact hK _ _ _ rfl HJ.out rfl
            · have l0 := hdep 0 (by kernel_rfl)
              replace l0 : us 0 = .pointer (some ⟨HB, 0, none⟩) := l0
              have l2 := hdep 2 (by kernel_rfl)
              replace l2 : us 2 = .int .i64 rule := l2
              have l4 := hdep 4 (by kernel_rfl)
              replace l4 : us 4 = .int .i64 place := l4
              simp only [List.getD_cons_succ, List.getD_cons_zero, List.setIfInBounds_toArray, List.set_cons_succ, List.set_cons_zero, l0, l2, l4] at hK ⊢
              refine wpOp_at rfl rfl ?_
              go_simp
              obtain rfl := h1 rfl
              refine (HC.out.1 W HJ.out.1 HJ.out.2.1).mono ?_
              rintro e wz ⟨rfl, hz1, hz2⟩
              exact hK _ _ _ rfl ⟨HJ.out.1.chgK hb0 hz2, hz1, HJ.out.2.2.chgK hz2⟩ rfl
            · simp only [List.getD_cons_succ, List.getD_cons_zero, List.setIfInBounds_toArray, List.set_cons_succ, List.set_cons_zero] at hK ⊢
              refine wpOp_at rfl rfl ?_
              go_simp
              exact hK _ _ _ rfl HJ.out rfl
            · simp only [List.getD_cons_succ, List.getD_cons_zero, List.setIfInBounds_toArray, List.set_cons_succ, List.set_cons_zero] at hK ⊢
              refine wpOp_at rfl rfl ?_
              go_simp
              exact hK _ _ _ rfl HJ.out rfl
            · have l7 := hdep 7 (by kernel_rfl)
              replace l7 : us 7 = .pointer (some ⟨D, 1, none⟩) := l7
              simp only [List.getD_cons_succ, List.getD_cons_zero, List.setIfInBounds_toArray, List.set_cons_succ, List.set_cons_zero, l7] at hK ⊢
              refine wpOp_at rfl rfl ?_
              go_simp
              exact hK _ _ _ rfl HJ.out rfl
            · simp only [List.getD_cons_succ, List.getD_cons_zero, List.setIfInBounds_toArray, List.set_cons_succ, List.set_cons_zero] at hK ⊢
              refine wpOp_at rfl rfl ?_
              go_simp
              exact hK _ _ _ rfl HJ.out rfl
            · have l9 := hdep 9 (by kernel_rfl)
              replace l9 : us 9 = .pointer (some ⟨D, 2, none⟩) := l9
              simp only [List.getD_cons_succ, List.getD_cons_zero, List.setIfInBounds_toArray, List.set_cons_succ, List.set_cons_zero, l9] at hK ⊢
              refine wpOp_at rfl rfl ?_
              go_simp
              exact hK _ _ _ rfl HJ.out rfl
            · have l6 := hdep 6 (by kernel_rfl)
              replace l6 : us 6 = .pointer (some ⟨RB, 0, none⟩) := l6
              have l8 := hdep 8 (by kernel_rfl)
              replace l8 : us 8 = .int .i64 rule := l8
              have l10 := hdep 10 (by kernel_rfl)
              replace l10 : us 10 = .int .i64 place := l10
              simp only [List.getD_cons_succ, List.getD_cons_zero, List.setIfInBounds_toArray, List.set_cons_succ, List.set_cons_zero, l6, l8, l10] at hK ⊢
              refine wpOp_at rfl rfl ?_
              go_simp
              obtain rfl := h2 rfl
              refine (HC.out.2 W HJ.out.1 HJ.out.2.2).mono ?_
              rintro e wz ⟨rfl, hz1, hz2⟩
              exact hK _ _ _ rfl ⟨HJ.out.1.chgR hb0 hz2, HJ.out.2.1.chgR hz2, hz1⟩ rfl
            · have l5 := hdep 5 (by kernel_rfl)
              replace l5 : us 5 = .int .i64 ev := l5
              have l11 := hdep 11 (by kernel_rfl)
              replace l11 : us 11 = .int .i64 ev := l11
              simp only [List.getD_cons_succ, List.getD_cons_zero, List.setIfInBounds_toArray, List.set_cons_succ, List.set_cons_zero, l5, l11] at hK ⊢
              refine wpOp_at rfl rfl ?_
              go_simp
              exact hK _ _ _ rfl HJ.out rfl
            · have l12 := hdep 12 (by kernel_rfl)
              replace l12 : us 12 = .bool true := l12
              simp only [List.getD_cons_succ, List.getD_cons_zero, List.setIfInBounds_toArray, List.set_cons_succ, List.set_cons_zero, l12] at hK ⊢
              refine wpOp_at rfl rfl ?_
              go_simp
              exact hK _ _ _ rfl HJ.out rfl
          case hdoneB =>
            intro us W hJ hall
            have l0 := hall 0 (by decide)
            replace l0 : us 0 = .pointer (some ⟨HB, 0, none⟩) := l0
            have l1 := hall 1 (by decide)
            replace l1 : us 1 = .pointer (some ⟨D, 1, none⟩) := l1
            have l2 := hall 2 (by decide)
            replace l2 : us 2 = .int .i64 rule := l2
            have l3 := hall 3 (by decide)
            replace l3 : us 3 = .pointer (some ⟨D, 2, none⟩) := l3
            have l4 := hall 4 (by decide)
            replace l4 : us 4 = .int .i64 place := l4
            have l5 := hall 5 (by decide)
            replace l5 : us 5 = .int .i64 ev := l5
            have l6 := hall 6 (by decide)
            replace l6 : us 6 = .pointer (some ⟨RB, 0, none⟩) := l6
            have l7 := hall 7 (by decide)
            replace l7 : us 7 = .pointer (some ⟨D, 1, none⟩) := l7
            have l8 := hall 8 (by decide)
            replace l8 : us 8 = .int .i64 rule := l8
            have l9 := hall 9 (by decide)
            replace l9 : us 9 = .pointer (some ⟨D, 2, none⟩) := l9
            have l10 := hall 10 (by decide)
            replace l10 : us 10 = .int .i64 place := l10
            have l11 := hall 11 (by decide)
            replace l11 : us 11 = .int .i64 ev := l11
            have l12 := hall 12 (by decide)
            replace l12 : us 12 = .bool true := l12
            have l13 := hall 13 (by decide)
            replace l13 : us 13 = .bool true := l13
            simp only [actU, Act.put, List.setIfInBounds_toArray, List.set_cons_succ, List.set_cons_zero, Nat.reduceAdd, l0, l1, l2, l3, l4, l5, l6, l7, l8, l9, l10, l11, l12, l13]
            clear hall l0 l1 l2 l3 l4 l5 l6 l7 l8 l9 l10 l11 l12 l13
            have HJ : Hid (Env w b D 1 rule place tch ta tn tc S6 ib ic W ∧ SP b W HB s1 ∧ RP ib b W RB s1) := Lib.hid hJ
            clear hJ
            go_wp2_with fail
            go_meet
            exact ⟨HB, rfl, rfl, Lib.hid ⟨s1, HJ.out.2.1, HJ.out.2.2, HG1.out, HJ.out.1⟩⟩
        · -- 2: used
          obtain ⟨⟨s1, ev⟩, hr1⟩ : ∃ z, z = useS s place tch := ⟨_, rfl⟩
          have HG1 : Hid (GoodS (i + 1) s1) := Lib.hid (by have := HQ.out.2.2.1.use place (xs := tch) HQ.out.2.2.2.2.2.1; rw [← hr1] at this; exact this)
          have hA : ∀ W, Env w b D 2 rule place tch ta tn tc S6 ib ic W → SP b W HB s → Calls Try.prog 25 #[.pointer (some ⟨HB, 0, none⟩), .int .i64 place, .slice (some ⟨ib, 0, none⟩) tn ic] W fun e w' => e = .returned (.int .i64 ev) ∧ SP b w' HB s1 ∧ ChgK b W w' := fun W hW hS => by
            obtain ⟨-, g2, g3, g4, -⟩ := hW.lent
            have := useSP b W HB s hS hW.big place (some ⟨ib, 0, none⟩) tn ic tch HQ.out.2.2.2.2.1 (by have := HQ.out.2.2.2.2.1; omega) g4 g2 HQ.out.2.2.2.2.2.2.2.1
            rwa [← hr1] at this
          have hB : ∀ W, Env w b D 2 rule place tch ta tn tc S6 ib ic W → RP ib b W RB s → Calls Try.prog 26 #[.pointer (some ⟨RB, 0, none⟩), .int .i64 place, .slice ta tn tc] W fun e w' => e = .returned (.int .i64 ev) ∧ RP ib b w' RB s1 ∧ ChgR b W w' := fun W hW hS => by
            have := useRP ib b W RB s hS hW.big HQ.out.2.2.1 (by omega) place ta tn tc tch HQ.out.2.2.2.2.1 htc htm (HTI.out.keep hW.tot.kp) (fun ad e1 e2 => Nat.lt_of_lt_of_le (HQ.out.2.2.2.2.2.2.2.2 ad e1 e2) hb0) HQ.out.2.2.2.2.2.1
            rwa [← hr1] at this
          have HC := Lib.hid (And.intro hA hB)
          clear hA hB hr1
          go_wp2_with fail
          refine wp_region_two (by kernel_rfl) (by kernel_rfl) [70, 71, 72, 73, 74, 75, 76, 77, 78, 79, 80, 81, 8] (by kernel_rfl) 4 10 (by decide) (by decide) (fun rI rV => match rI with | 0 => rV = .pointer (some ⟨HB, 0, none⟩) | 1 => rV = .pointer (some ⟨D, 2, none⟩) | 2 => rV = .int .i64 place | 3 => rV = .slice (some ⟨ib, 0, none⟩) tn ic | 4 => rV = .int .i64 ev | 5 => rV = .pointer (some ⟨RB, 0, none⟩) | 6 => rV = .pointer (some ⟨D, 2, none⟩) | 7 => rV = .int .i64 place | 8 => rV = .pointer (some ⟨D, 3, none⟩) | 9 => rV = .slice ta tn tc | 10 => rV = .int .i64 ev | 11 => rV = .bool true | 12 => rV = .bool true | _ => True) (fun l1 l2 W => Env w b D 2 rule place tch ta tn tc S6 ib ic W ∧ SP b W HB (if l1 = true then s1 else s) ∧ RP ib b W RB (if l2 = true then s1 else s)) ?h0C ?hstepC ?hdoneC
          case h0C =>
            exact ⟨HE.out.1.chg0 ((Chg.refl [] _).drew), HE.out.2.1.chg0 ((Chg.refl [] _).drew), HE.out.2.2.chg0 ((Chg.refl [] _).drew)⟩
          case hstepC =>
            intro rI rH us W l1 l2 hJ h1 h2 hdep K hK
            have hiN : rI < 13 := rH
            have HJ := Lib.hid hJ
            obtain ⟨k0, k1, k2, k3⟩ := cellsL4 hJ.1.dd
            clear hJ
            simp only [actU, Act.put, List.setIfInBounds_toArray, List.set_cons_succ, List.set_cons_zero, Nat.reduceAdd] at hK ⊢
            rcases (show rI = 0 ∨ rI = 1 ∨ rI = 2 ∨ rI = 3 ∨ rI = 4 ∨ rI = 5 ∨ rI = 6 ∨ rI = 7 ∨ rI = 8 ∨ rI = 9 ∨ rI = 10 ∨ rI = 11 ∨ rI = 12 by omega) with rfl | rfl | rfl | rfl | rfl | rfl | rfl | rfl | rfl | rfl | rfl | rfl | rfl
            · simp only [List.getD_cons_succ, List.getD_cons_zero, List.setIfInBounds_toArray, List.set_cons_succ, List.set_cons_zero] at hK ⊢
              refine wpOp_at rfl rfl ?_
              go_simp
              exact hK _ _ _ rfl HJ.out rfl
            · simp only [List.getD_cons_succ, List.getD_cons_zero, List.setIfInBounds_toArray, List.set_cons_succ, List.set_cons_zero] at hK ⊢
              refine wpOp_at rfl rfl ?_
              go_simp
              exact hK _ _ _ rfl HJ.out rfl
            · have l1 := hdep 1 (by kernel_rfl)
              replace l1 : us 1 = .pointer (some ⟨D, 2, none⟩) := l1
              simp only [List.getD_cons_succ, List.getD_cons_zero, List.setIfInBounds_toArray, List.set_cons_succ, List.set_cons_zero, l1] at hK ⊢
              refine wpOp_at rfl rfl ?_
              go_simp
              exact hK _ _ _ rfl HJ.out rfl
            · simp only [List.getD_cons_succ, List.getD_cons_zero, List.setIfInBounds_toArray, List.set_cons_succ, List.set_cons_zero] at hK ⊢
              refine wpOp_at rfl rfl ?_
              go_simp
              exact hK _ _ _ rfl HJ.out rfl
            · have l0 := hdep 0 (by kernel_rfl)
              replace l0 : us 0 = .pointer (some ⟨HB, 0, none⟩) := l0
              have l2 := hdep 2 (by kernel_rfl)
              replace l2 : us 2 = .int .i64 place := l2
              have l3 := hdep 3 (by kernel_rfl)
              replace l3 : us 3 = .slice (some ⟨ib, 0, none⟩) tn ic := l3
              simp only [List.getD_cons_succ, List.getD_cons_zero, List.setIfInBounds_toArray, List.set_cons_succ, List.set_cons_zero, l0, l2, l3] at hK ⊢
              refine wpOp_at rfl rfl ?_
              go_simp
              obtain rfl := h1 rfl
              refine (HC.out.1 W HJ.out.1 HJ.out.2.1).mono ?_
              rintro e wz ⟨rfl, hz1, hz2⟩
              exact hK _ _ _ rfl ⟨HJ.out.1.chgK hb0 hz2, hz1, HJ.out.2.2.chgK hz2⟩ rfl
            · simp only [List.getD_cons_succ, List.getD_cons_zero, List.setIfInBounds_toArray, List.set_cons_succ, List.set_cons_zero] at hK ⊢
              refine wpOp_at rfl rfl ?_
              go_simp
              exact hK _ _ _ rfl HJ.out rfl
            · simp only [List.getD_cons_succ, List.getD_cons_zero, List.setIfInBounds_toArray, List.set_cons_succ, List.set_cons_zero] at hK ⊢
              refine wpOp_at rfl rfl ?_
              go_simp
              exact hK _ _ _ rfl HJ.out rfl
            · have l6 := hdep 6 (by kernel_rfl)
              replace l6 : us 6 = .pointer (some ⟨D, 2, none⟩) := l6
              simp only [List.getD_cons_succ, List.getD_cons_zero, List.setIfInBounds_toArray, List.set_cons_succ, List.set_cons_zero, l6] at hK ⊢
              refine wpOp_at rfl rfl ?_
              go_simp
              exact hK _ _ _ rfl HJ.out rfl
            · simp only [List.getD_cons_succ, List.getD_cons_zero, List.setIfInBounds_toArray, List.set_cons_succ, List.set_cons_zero] at hK ⊢
              refine wpOp_at rfl rfl ?_
              go_simp
              exact hK _ _ _ rfl HJ.out rfl
            · have l8 := hdep 8 (by kernel_rfl)
              replace l8 : us 8 = .pointer (some ⟨D, 3, none⟩) := l8
              simp only [List.getD_cons_succ, List.getD_cons_zero, List.setIfInBounds_toArray, List.set_cons_succ, List.set_cons_zero, l8] at hK ⊢
              refine wpOp_at rfl rfl ?_
              go_simp
              exact hK _ _ _ rfl HJ.out rfl
            · have l5 := hdep 5 (by kernel_rfl)
              replace l5 : us 5 = .pointer (some ⟨RB, 0, none⟩) := l5
              have l7 := hdep 7 (by kernel_rfl)
              replace l7 : us 7 = .int .i64 place := l7
              have l9 := hdep 9 (by kernel_rfl)
              replace l9 : us 9 = .slice ta tn tc := l9
              simp only [List.getD_cons_succ, List.getD_cons_zero, List.setIfInBounds_toArray, List.set_cons_succ, List.set_cons_zero, l5, l7, l9] at hK ⊢
              refine wpOp_at rfl rfl ?_
              go_simp
              obtain rfl := h2 rfl
              refine (HC.out.2 W HJ.out.1 HJ.out.2.2).mono ?_
              rintro e wz ⟨rfl, hz1, hz2⟩
              exact hK _ _ _ rfl ⟨HJ.out.1.chgR hb0 hz2, HJ.out.2.1.chgR hz2, hz1⟩ rfl
            · have l4 := hdep 4 (by kernel_rfl)
              replace l4 : us 4 = .int .i64 ev := l4
              have l10 := hdep 10 (by kernel_rfl)
              replace l10 : us 10 = .int .i64 ev := l10
              simp only [List.getD_cons_succ, List.getD_cons_zero, List.setIfInBounds_toArray, List.set_cons_succ, List.set_cons_zero, l4, l10] at hK ⊢
              refine wpOp_at rfl rfl ?_
              go_simp
              exact hK _ _ _ rfl HJ.out rfl
            · have l11 := hdep 11 (by kernel_rfl)
              replace l11 : us 11 = .bool true := l11
              simp only [List.getD_cons_succ, List.getD_cons_zero, List.setIfInBounds_toArray, List.set_cons_succ, List.set_cons_zero, l11] at hK ⊢
              refine wpOp_at rfl rfl ?_
              go_simp
              exact hK _ _ _ rfl HJ.out rfl
          case hdoneC =>
            intro us W hJ hall
            have l0 := hall 0 (by decide)
            replace l0 : us 0 = .pointer (some ⟨HB, 0, none⟩) := l0
            have l1 := hall 1 (by decide)
            replace l1 : us 1 = .pointer (some ⟨D, 2, none⟩) := l1
            have l2 := hall 2 (by decide)
            replace l2 : us 2 = .int .i64 place := l2
            have l3 := hall 3 (by decide)
            replace l3 : us 3 = .slice (some ⟨ib, 0, none⟩) tn ic := l3
            have l4 := hall 4 (by decide)
            replace l4 : us 4 = .int .i64 ev := l4
            have l5 := hall 5 (by decide)
            replace l5 : us 5 = .pointer (some ⟨RB, 0, none⟩) := l5
            have l6 := hall 6 (by decide)
            replace l6 : us 6 = .pointer (some ⟨D, 2, none⟩) := l6
            have l7 := hall 7 (by decide)
            replace l7 : us 7 = .int .i64 place := l7
            have l8 := hall 8 (by decide)
            replace l8 : us 8 = .pointer (some ⟨D, 3, none⟩) := l8
            have l9 := hall 9 (by decide)
            replace l9 : us 9 = .slice ta tn tc := l9
            have l10 := hall 10 (by decide)
            replace l10 : us 10 = .int .i64 ev := l10
            have l11 := hall 11 (by decide)
            replace l11 : us 11 = .bool true := l11
            have l12 := hall 12 (by decide)
            replace l12 : us 12 = .bool true := l12
            simp only [actU, Act.put, List.setIfInBounds_toArray, List.set_cons_succ, List.set_cons_zero, Nat.reduceAdd, l0, l1, l2, l3, l4, l5, l6, l7, l8, l9, l10, l11, l12]
            clear hall l0 l1 l2 l3 l4 l5 l6 l7 l8 l9 l10 l11 l12
            have HJ : Hid (Env w b D 2 rule place tch ta tn tc S6 ib ic W ∧ SP b W HB s1 ∧ RP ib b W RB s1) := Lib.hid hJ
            clear hJ
            go_wp2_with fail
            go_meet
            exact ⟨HB, rfl, rfl, Lib.hid ⟨s1, HJ.out.2.1, HJ.out.2.2, HG1.out, HJ.out.1⟩⟩
        · -- 3: left
          obtain ⟨⟨f, ev, s1⟩, hr1⟩ : ∃ z, z = leaveF s := ⟨_, rfl⟩
          obtain ⟨fr, fp, ft, fi, fb⟩ := f
          have hgl := HQ.out.2.2.1.leave (by omega)
          have hA := leaveSU b w6 HB s HE.out.2.1 HQ.out.2.2.1 (by omega)
          have hB : ∀ W, RP ib b W RB s → _ := fun W hW => leaveRU ib b W RB s hW HQ.out.2.2.1 (by omega)
          rw [← hr1] at hA hgl
          simp only [← hr1] at hA hB hgl
          have HG1 := Lib.hid hgl.1
          have hft := hgl.2
          have HBB := Lib.hid hB
          clear hr1 hB hgl
          go_wp2_with fail
          refine hA.mono ?_
          clear hA
          rintro e w7 ⟨ra, rn, rc, rfl, hrn, hrow7, hs7, hk7⟩
          obtain ⟨w8, e8⟩ : ∃ z, z = w7.alloc (.cells #[.int .i64 fr, .int .i64 fp, .slice ra rn rc, .bool fb] 65) := ⟨_, rfl⟩
          have hc8 := (Chg.refl [] w7).alloc (.cells #[.int .i64 fr, .int .i64 fp, .slice ra rn rc, .bool fb] 65)
          have hd8 := heap_alloc_same w7 (.cells #[.int .i64 fr, .int .i64 fp, .slice ra rn rc, .bool fb] 65)
          obtain ⟨X, hX⟩ : ∃ z, z = w7.heap.size := ⟨_, rfl⟩
          rw [← e8] at hc8 hd8
          rw [← hX] at hd8
          have H8 := Lib.hid (And.intro (hs7.chg0 hc8) (And.intro ((HE.out.2.2.chgK hk7).chg0 hc8) (And.intro ((HE.out.1.chgK hb0 hk7).chg0 hc8) (And.intro (show FreshInts 0 w8 ra rc ft from hc8.row hrow7 (fun _ _ => by simp)) (And.intro hd8 hrn)))))
          clear hs7 hk7 hrow7 hc8 hd8 hrn
          go_wp2_with fail
          rw [← hX, ← e8]
          refine (HBB.out w8 H8.out.2.1).mono ?_
          clear e8 hX
          rintro e w9 ⟨qa, qn, qc, ja, jn, jc, rfl, hqn, hrow9, hr9, hk9⟩
          obtain ⟨w10, e10⟩ : ∃ z, z = w9.alloc (.cells #[.int .i64 fr, .int .i64 fp, .slice qa qn qc, .slice ja jn jc, .bool fb] 69) := ⟨_, rfl⟩
          have hc10 := (Chg.refl [] w9).alloc (.cells #[.int .i64 fr, .int .i64 fp, .slice qa qn qc, .slice ja jn jc, .bool fb] 69)
          have hd10 := heap_alloc_same w9 (.cells #[.int .i64 fr, .int .i64 fp, .slice qa qn qc, .slice ja jn jc, .bool fb] 69)
          obtain ⟨Y, hY⟩ : ∃ z, z = w9.heap.size := ⟨_, rfl⟩
          rw [← e10] at hc10 hd10
          rw [← hY] at hd10
          have hxd := hc10.heap (hk9.heap H8.out.2.2.2.2.1 (by decide) (by decide)) (by simp)
          have hxr : FreshInts 0 w10 ra rc ft := hc10.row (hk9.row H8.out.2.2.2.1 (by decide) (by decide)) (fun _ _ => by simp)
          have hyr : FreshInts 0 w10 qa qc ft := hc10.row hrow9 (fun _ _ => by simp)
          have H10 := Lib.hid (And.intro ((H8.out.1.chgR hk9).chg0 hc10) (And.intro (hr9.chg0 hc10) (And.intro ((H8.out.2.2.1.chgR hb0 hk9).chg0 hc10) (And.intro hxr hyr))))
          have cS := sameInts_self w10 ra qa rn rc qn qc ft H8.out.2.2.2.2.2 hqn (by have := H8.out.2.2.2.2.2; omega) (ownInts_read H10.out.2.2.2.1.own).1 (ownInts_read H10.out.2.2.2.2.own).1
          obtain ⟨x0, x1, x2, x3⟩ := cellsL4 hxd
          obtain ⟨y0, y1, y2, y3, y4⟩ := cellsR5 hd10
          clear hr9 hk9 hrow9 hc10 hd10 hxd hxr hyr hqn y3
          go_upto_region 20 with fail
          rw [← hY, ← e10]
          clear e10 hY
          go_wp2_with fail
          refine cS.mono ?_
          clear cS x0 x1 x2 x3 y0 y1 y2 y4
          rintro e w11 ⟨rfl, hc11⟩
          have HW := Lib.hid hc11
          clear hc11
          go_wp2_with fail
          go_meet
          exact ⟨HB, rfl, rfl, Lib.hid ⟨s1, H10.out.1.chg0 HW.out, H10.out.2.1.chg0 HW.out, HG1.out, H10.out.2.2.1.chg0 HW.out⟩⟩
        · -- 4: copied
          have hcopy := copySP b w6 HB s HE.out.2.1 (by have := HQ.out.2.2.1.few; omega)
          obtain ⟨lo, hlo⟩ : ∃ z, z = w6.heap.size := ⟨_, rfl⟩
          rw [← hlo] at hcopy
          have hblo : b ≤ lo := by rw [hlo]; exact HE.out.1.big
          have HG1 : Hid (GoodS (i + 1) s) := Lib.hid (HQ.out.2.2.1.mono (Nat.le_succ _))
          have hfew : s.length ≤ 1000000 := by have := HQ.out.2.2.1.few; omega
          clear hlo
          go_wp2_with fail
          refine hcopy.mono ?_
          clear hcopy k0 k1 k2 k3
          rintro e w7 ⟨B', rfl, ho7, hn7, hc7⟩
          obtain ⟨hi7, hhi⟩ : ∃ z, z = w7.heap.size := ⟨_, rfl⟩
          rw [← hhi] at ho7 hn7
          have H7 := Lib.hid (And.intro ho7 (And.intro hn7 (And.intro (HE.out.1.chg0 hc7) (And.intro (HE.out.2.2.chg0 hc7) (Nat.le_of_eq hhi)))))
          clear ho7 hn7 hc7 hhi
          obtain ⟨⟨s8, v8⟩, hr8⟩ : ∃ z, z = readS s rule place := ⟨_, rfl⟩
          have h8 := readSO b lo hi7 w7 HB s H7.out.1 H7.out.2.2.1.big H7.out.2.2.2.2 rule place hru
          rw [← hr8] at h8
          simp only at h8
          obtain ⟨k0, k1, k2, k3⟩ := cellsL4 H7.out.2.2.1.dd
          have hl8 : s8.length ≤ 1000000 := by have := readS_len s rule place; rw [← hr8] at this; simp only at this; omega
          clear hr8
          go_wp2_with fail
          refine h8.mono ?_
          clear h8 k0 k1 k2 k3
          rintro e w8 ⟨rfl, ho8, hk8⟩
          have H8 := Lib.hid (And.intro ho8 (And.intro (H7.out.2.1.chgO hk8) (And.intro (H7.out.2.2.1.chgK hb0 hk8.chgK) (And.intro (H7.out.2.2.2.1.chgK hk8.chgK) (Nat.le_trans H7.out.2.2.2.2 hk8.chgK.size)))))
          clear ho8 hk8
          obtain ⟨⟨s9, v9⟩, hr9⟩ : ∃ z, z = useS s8 place tch := ⟨_, rfl⟩
          obtain ⟨-, g2, -, g4, -⟩ := H8.out.2.2.1.lent
          have h9 := useSO b lo hi7 w8 HB s8 H8.out.1 H8.out.2.2.1.big H8.out.2.2.2.2 place (some ⟨ib, 0, none⟩) tn ic tch HQ.out.2.2.2.2.1 (by have := H8.out.2.2.1.lent.2.2.1; have := HQ.out.2.2.2.2.1; omega) g4 g2 HQ.out.2.2.2.2.2.2.2.1
          rw [← hr9] at h9
          simp only at h9
          obtain ⟨k0, k1, k2, k3⟩ := cellsL4 H8.out.2.2.1.dd
          have hl9 : s9.length ≤ 1000000 := by have := useS_len s8 place tch; rw [← hr9] at this; simp only at this; omega
          clear hr9 g2 g4
          go_wp2_with fail
          refine h9.mono ?_
          clear h9 k0 k1 k2 k3
          rintro e w9 ⟨rfl, ho9, hk9⟩
          have H9 := Lib.hid (And.intro ho9 (And.intro (H8.out.2.1.chgO hk9) (And.intro (H8.out.2.2.1.chgK hb0 hk9.chgK) (And.intro (H8.out.2.2.2.1.chgK hk9.chgK) (Nat.le_trans H8.out.2.2.2.2 hk9.chgK.size)))))
          clear ho9 hk9
          obtain ⟨⟨s10, v10⟩, hr10⟩ : ∃ z, z = enterS s9 rule place := ⟨_, rfl⟩
          have h10 := enterSO b lo hi7 w9 HB s9 H9.out.1 H9.out.2.2.1.big H9.out.2.2.2.2 hl9 rule place hru hpl
          rw [← hr10] at h10
          simp only at h10
          obtain ⟨k0, k1, k2, k3⟩ := cellsL4 H9.out.2.2.1.dd
          clear hr10
          go_wp2_with fail
          refine h10.mono ?_
          clear h10 k0 k1 k2 k3
          rintro e w10 ⟨rfl, ho10, hk10⟩
          have H10 := Lib.hid (And.intro ho10 (And.intro (H9.out.2.1.chgO hk10) (And.intro (H9.out.2.2.1.chgK hb0 hk10.chgK) (And.intro (H9.out.2.2.2.1.chgK hk10.chgK) (Nat.le_trans H9.out.2.2.2.2 hk10.chgK.size)))))
          clear ho10 hk10
          obtain ⟨⟨s11, v11⟩, hr11⟩ : ∃ z, z = readS s10 rule place := ⟨_, rfl⟩
          have h11 := readSO b lo hi7 w10 HB s10 H10.out.1 H10.out.2.2.1.big H10.out.2.2.2.2 rule place hru
          rw [← hr11] at h11
          simp only at h11
          obtain ⟨k0, k1, k2, k3⟩ := cellsL4 H10.out.2.2.1.dd
          clear hr11
          go_wp2_with fail
          refine h11.mono ?_
          clear h11 k0 k1 k2 k3
          rintro e w11 ⟨rfl, ho11, hk11⟩
          have H11 := Lib.hid (And.intro ho11 (And.intro (H10.out.2.1.chgO hk11) (And.intro (H10.out.2.2.1.chgK hb0 hk11.chgK) (And.intro (H10.out.2.2.2.1.chgK hk11.chgK) (Nat.le_trans H10.out.2.2.2.2 hk11.chgK.size)))))
          clear ho11 hk11
          go_wp2_with fail
          go_meet
          exact ⟨B', rfl, rfl, Lib.hid ⟨s, H11.out.2.1.sp hblo, H11.out.2.2.2.1, HG1.out, H11.out.2.2.1⟩⟩
      case rest =>
        obtain ⟨HB', rfl, rfl, hcut⟩ := hcut
        obtain ⟨s', hs', hr', hg', hE'⟩ := hcut.out
        obtain ⟨k0, k1, k2, k3⟩ := cellsL4 hE'.dd
        obtain ⟨g1, g2, g3, g4, g5, g6, cur, hcur⟩ := hE'.lent
        have htn' := HQ.out.2.2.2.2.1
        have hkept := KeptInts_any wc ib 0 tn ic ta tn tc tch htn' htn' (by omega) (by omega) (by simp only [maxLen]; exact g4) g1 (HTI.out.keep hE'.tot.kp)
        have HK := Lib.hid (And.intro hs' (And.intro hr' (And.intro hg' hE')))
        have hic : tn + 12 ≤ ic := by omega
        clear hs' hr' hg' hE' g1 g2 g3 g5 g6 hcur htn'
        go_wp2_with fail
        refine hkept.mono ?_
        clear hkept
        rintro e w7 ⟨rfl, hc7⟩
        have hE7 := HK.out.2.2.2.chg0 hc7
        have hrow7 := hE7.row
        rw [← HQ.out.2.2.2.2.1] at hrow7
        have hover := OverInts_any w7 S6 ib tn ic _ (by omega) hic g4 hrow7
        have HE7 := Lib.hid hE7
        have HC7 := Lib.hid hc7
        clear hE7 hrow7 hc7 k0 k1 k2 k3
        go_wp2_with fail
        refine hover.mono ?_
        clear hover
        rintro e w8 ⟨rfl, hc8⟩
        obtain ⟨-, -, -, -, hSi, -, cur7, hcur7⟩ := HE7.out.lent
        have hs8 := (HK.out.1.chg0 HC7.out).spoil hcur7 hc8
        have hr8 := (HK.out.2.1.chg0 HC7.out).spoil hcur7 hc8
        have hd8 := hc8.heap HE7.out.dd (fun hm => by
          simp only [List.mem_singleton] at hm
          have h9 := HE7.out.dd
          rw [hm, hcur7] at h9
          simp only [Option.some.injEq, Obj.cells.injEq] at h9
          exact absurd h9.2.1 (by decide))
        have ht8 : Chg [] w w8 := HE7.out.tot.trans hc8 (fun j hj => .inr (by simp only [List.mem_singleton] at hj; omega))
        obtain ⟨k0, k1, k2, k3⟩ := cellsL4 hd8
        have hsame : Calls Try.prog 33 #[.pointer (some ⟨HB', 0, none⟩), .pointer (some ⟨RB, 0, none⟩), .agg #[.int .i64 what, .int .i64 rule, .int .i64 place, .slice ta tn tc]] w8 fun e w' => e = .returned (.bool true) ∧ Chg [] w8 w' := by
          have hr9 := hr8
          obtain ⟨ra, rc, l, q1, q2, q3⟩ := hr9
          exact same_any w8 b HB' RB s' hs8 ra rc l q1 q2 (HK.out.2.2.1.ok (by omega)) what rule place ta tn tc tch HQ.out.2.2.2.2.1 htc htm (HTI.out.keep ht8.kp) hru
        have H8 := Lib.hid (And.intro hs8 (And.intro hr8 ht8))
        clear hs8 hr8 hd8 ht8 hc8 hSi hcur7
        go_wp2_with fail
        refine hsame.mono ?_
        clear hsame
        rintro e w9 ⟨rfl, hc9⟩
        go_wp2_with fail
        go_roundg (n - (i + 1))
        case measure => omega
        case rel => exact ⟨i + 1, HB', rfl, by omega, rfl, by go_num, Lib.hid ⟨ib, s', H8.out.1.chg0 hc9, H8.out.2.1.chg0 hc9, HK.out.2.2.1, H8.out.2.2.tr hc9⟩⟩
    · obtain rfl : i = n := by omega
      go_wp2_with fail
      refine (awake20_any wq).mono ?_
      rintro e w2 ⟨rfl, hc2⟩
      go_wp2_with fail
      go_ret
      obtain ⟨NB, s, hs, hr, hg, hcq⟩ := hI.out
      exact ⟨rfl, hcq.tr hc2⟩
end Go.Proofs.Ytnajhcoimohcaaa

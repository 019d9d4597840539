/-
  The statements' history: a step that reads a rule, one that uses a rule.
  Conditions: none.
-/
import Derived.Test.YtnajhcoimohcaaaSmHs4
set_option linter.unusedVariables false
set_option linter.unusedSimpArgs false
set_option linter.unnecessarySimpa false
namespace Go.Proofs.Ytnajhcoimohcaaa
open Go.RowKit Go.MapKept

def ReadH (b : Nat) (w : World) (H : Nat) (s : List Fm) (l : List Sd) (rs : List Rd) (ts : List Tc) (k rule p : Int) : Ending → World → Prop :=
  if 0 ≤ whereI l rule p then OutH b w H (readS s rule p).1 l (rs ++ [⟨k, whereI l rule p⟩]) (ts ++ [⟨k, rule, p⟩]) ((readS s rule p).2 == 0)
  else OutH b w H (readS s rule p).1 l rs ts ((readS s rule p).2 == 5)
def UseH (b : Nat) (w : World) (H : Nat) (s : List Fm) (l : List Sd) (rs : List Rd) (ts : List Tc) (k rule p : Int) : Ending → World → Prop :=
  OutH b w H (useS s p [rule]).1 l rs (if l = [] then ts else ts ++ [⟨k, rule, p⟩]) ((useS s p [rule]).2 == 0)

set_option maxRecDepth 100000 in
set_option maxHeartbeats 8000000 in
theorem readH_any (b : Nat) (w : World) (H : Nat) (s : List Fm) (l : List Sd) (rs : List Rd) (ts : List Tc) (h : HP b w H s l rs ts) (hbw : b ≤ w.heap.size) (hrl : rs.length ≤ 1000) (hll : l.length ≤ 1000) (htl : ts.length ≤ 1000) (hnow : 0 ≤ nowI l ∧ nowI l ≤ 1000) (k what rule : Int) (on : Bool) (hk : I64 k) (hr : I64 rule) :
    Calls Try.prog 37 #[.pointer (some ⟨H, 0, none⟩), .int .i64 k, .agg #[.int .i64 what, .int .i64 rule, .bool on]] w (ReadH b w H s l rs ts k rule (nowI l)) := by
  obtain ⟨B, a, c, fr, x, hs, hh, hfp, rfl, rfl, rfl, rfl⟩ := h
  obtain ⟨l, rs, ts, la, lc, ra, rc, ta, tc⟩ := x
  simp only at *
  obtain ⟨p, hp⟩ : ∃ p, p = nowI l := ⟨_, rfl⟩
  rw [← hp] at hnow ⊢
  obtain ⟨W, hW⟩ : ∃ z, z = whereI l rule p := ⟨_, rfl⟩
  have hp64 : I64 p := ⟨by omega, by omega⟩
  have hca := (Chg.refl [] w).alloc (.cells #[.int .i64 what, .int .i64 rule, .bool on] 35)
  have hnew := heap_alloc_same w (.cells #[.int .i64 what, .int .i64 rule, .bool on] 35)
  obtain ⟨wa, ea⟩ : ∃ wa, wa = w.alloc (.cells #[.int .i64 what, .int .i64 rule, .bool on] 35) := ⟨_, rfl⟩
  rw [← ea] at hca hnew
  have h1 := now_any b wa H B _ (hh.chg0 hca)
  simp only at h1
  rw [← hp] at h1
  have HH := Lib.hid (And.intro (hs.chg0 hca) (And.intro (hh.chg0 hca) (And.intro hfp (And.intro hca (And.intro hbw (And.intro hrl (And.intro hW (And.intro hll (And.intro htl (And.intro hk (And.intro hr hp64)))))))))))
  have hsz : w.heap.size < wa.heap.size := lt_of_block hnew
  have HN := Lib.hid hnew
  clear hs hh hfp hca hbw hrl hll htl hk hr hnew hp64 hp
  go_enter Try.func37, Try.ntmps37
  go_wp2_with fail
  rw [← ea]
  refine h1.mono ?_
  clear h1 ea
  rintro e w1 ⟨rfl, hc1⟩
  have H1 := Lib.hid (And.intro (HH.out.1.chg0 hc1) (And.intro (HH.out.2.1.chg0 hc1) (And.intro (HH.out.2.2.2.1.tr hc1) (hc1.heap HN.out (by simp)))))
  obtain ⟨b0, b1, b2⟩ := cellsH3 H1.out.2.2.2
  have h2 := where_any b w1 H B _ H1.out.2.1 rule p
  simp only at h2
  rw [← hW] at h2
  clear hc1 hW
  obtain ⟨E, hEq⟩ : ∃ z, z = readS (fms fr) rule p := ⟨_, rfl⟩
  go_wp2_with fail
  refine h2.mono ?_
  clear h2
  rintro e w2 ⟨rfl, hc2⟩
  have H2 := Lib.hid (And.intro (H1.out.1.chg0 hc2) (And.intro (H1.out.2.1.chg0 hc2) (And.intro (H1.out.2.2.1.tr hc2) (hc2.heap H1.out.2.2.2 (by simp)))))
  obtain ⟨b0, b1, b2⟩ := cellsH3 H2.out.2.2.2
  obtain ⟨x0, x1, x2, x3, -⟩ := cellsH5 H2.out.2.1.top
  simp only at x0 x1 x2 x3
  clear hc2
  have h3 := fun (W : World) (hW : Chg [] w2 W) => readS_any W B a c fr (H2.out.1.chg0 hW) rule p HH.out.2.2.2.2.2.2.2.2.2.2.1
  rw [← hEq] at h3
  have H3 := Lib.hid (And.intro h3 hEq)
  clear h3 hEq x1 x2 x3
  go_wp2_with fail
  go_still_tail 7, (by kernel_rfl)
  change wpList _ _ _ _ _ w2.drew
  have hd := (Chg.refl [] w2).drew
  obtain ⟨w3, e3⟩ : ∃ w3, w3 = w2.drew := ⟨_, rfl⟩
  rw [← e3] at hd ⊢
  have h4 := H3.out.1 w3 hd
  clear e3 x0
  have HD := Lib.hid hd
  clear hd b0 b1 b2
  go_wp2_with fail
  refine h4.mono ?_
  clear h4
  rintro e w4 ⟨a4, c4, fr4, rfl, hs4, hf4, hc4, hfp4⟩
  have H4 := Lib.hid (And.intro hs4 (And.intro (HistAt.keepS (H2.out.2.1.chg0 HD.out) (H2.out.1.chg0 HD.out) hc4) (And.intro hf4 (And.intro hc4 (And.intro hfp4 (hc4.heap (HD.out.heap H2.out.2.2.2 (by simp)) (fun hm => by
    have := (H2.out.1.chg0 HD.out).fpKind hm (HD.out.heap H2.out.2.2.2 (by simp))
    rcases this with e | e
    · exact absurd e (by decide)
    · exact absurd e (by decide))))))))
  obtain ⟨b0, b1, b2⟩ := cellsH3 H4.out.2.2.2.2.2
  obtain ⟨x0, x1, x2, x3, -⟩ := cellsH5 H4.out.2.1.top
  simp only at x0 x1 x2 x3
  clear hs4 hf4 hc4 hfp4
  have hB4 : ∀ k ∈ fpS B a4 c4 fr4, b ≤ k := fun k hk => by
    rcases H4.out.2.2.2.2.1 k hk with h | h
    · exact HH.out.2.2.1 k h
    · have g1 := HH.out.2.2.2.2.1; have g2 := H2.out.2.2.1.size; have g3 := HD.out.size; omega
  have hC4 : ChgB b w w4 := (ChgB.of0 (H2.out.2.2.1.tr HD.out)).tr (.ofS (H2.out.1.chg0 HD.out) HH.out.2.2.1 H4.out.2.2.2.1)
  have HB4 := Lib.hid (And.intro hB4 hC4)
  clear hB4 hC4
  by_cases hw : 0 ≤ W
  · have hd1 : decide (0 ≤ W) = true := decide_eq_true hw
    have hrl := HH.out.2.2.2.2.2.1
    have htl := HH.out.2.2.2.2.2.2.2.2.1
    obtain ⟨nr, hnr⟩ : ∃ n, n = rs.length := ⟨_, rfl⟩
    obtain ⟨nt, hnt⟩ : ∃ n, n = ts.length := ⟨_, rfl⟩
    rw [← hnr] at hrl x2
    rw [← hnt] at htl x3
    have hrow := row_base (H4.out.2.1).rowR (Nat.zero_le _)
    simp only at hrow
    rw [← hnr] at hrow
    have hneH := ownsRow_ne hrow H4.out.2.1.top (by decide)
    have HR := Lib.hid (And.intro hnr (And.intro hnt (And.intro hrow hneH)))
    clear hnr hnt hrow hneH
    obtain ⟨iR, hR0, hR1, hR2, hR3⟩ := info_parts Try.infoRead
    obtain ⟨iT, hT0, hT1, hT2, hT3⟩ := info_parts Try.infoTouch
    have hcb := ((Chg.refl [] w4).alloc (.cells #[.int .i64 k, .int .i64 W] 37))
    have hbn := heap_alloc_same w4 (.cells #[.int .i64 k, .int .i64 W] 37)
    have hone : ∀ u ∈ ([.int .i64 k, .int .i64 W] : List Value), u.oneCell' = true := by simp [Value.oneCell']
    have h2' : nr + 1 ≤ maxLen ∧ (nr + 1) * 16 ≤ 140737488355328 := by simp only [maxLen]; omega
    have HA := Lib.hid (And.intro hcb (And.intro (cells_at hbn) (And.intro hone h2')))
    have hHl := lt_of_block H4.out.2.1.top
    have fH1 := free_of_cells H4.out.2.1.top 2
    clear hcb hbn hone h2' x0 x1
    go_wp2_with (at_builtin; refine wpList_append_row rfl _ _ 28 rfl 37 iR _ 2 16 Try.underlying28 hR0 hR1 hR2 hR3 rfl (by decide) (.slice ra nr rc) nr (rdCells rs) rfl (HA.out.1.row HR.out.2.2.1 (fun _ _ => by simp)) ⟨w4.heap.size, 0, none⟩ 1 1 [.int .i64 k, .int .i64 W] rfl rfl HA.out.2.1 HA.out.2.2.1 HA.out.2.2.2.1 HA.out.2.2.2.2 ?_; intro a5 c5 w5 hr5 hg5 hk5; have hB5 := grown_heap hg5 (HA.out.1.heap H4.out.2.1.top (by simp)) HR.out.2.2.2; have q5 := cell_of_cells hB5 2; have f5 := free_of_cells hB5 2; simp only [List.getElem?_toArray, List.getElem?_cons_succ, List.getElem?_cons_zero] at q5; have HX := Lib.hid (And.intro hr5 (And.intro hg5 hk5)); clear hr5 hg5 hk5 hB5)
    have hpush := H4.out.2.1.pushR (by have g1 := HH.out.2.2.2.2.1; have g2 := H2.out.2.2.1.size; have g3 := HD.out.size; have g4 := H4.out.2.2.2.1.size; omega) HA.out.1 ⟨k, W⟩ (w1 := w5) (a2 := a5) (c2 := c5) (by simp only; rw [← HR.out.1]; exact HX.out.1) (by simp only; rw [← HR.out.1]; exact HX.out.2.1) (by simp only; rw [← HR.out.1]; exact HX.out.2.2)
    simp only at hpush
    rw [← HR.out.1] at hpush
    obtain ⟨w6, e6⟩ : ∃ w6, w6 = w5.setCell ⟨H, 2, none⟩ (.slice a5 (nr + 1) c5) := ⟨_, rfl⟩
    rw [← e6] at hpush ⊢
    have hs6 := H4.out.1.keepH H4.out.2.1 hpush.2.1
    have hb6 := hpush.2.1.heap H4.out.2.2.2.2.2 (H4.out.2.1.notFp H4.out.2.2.2.2.2 (by decide) (by decide) (by decide) (by decide))
    obtain ⟨b0, b1, b2⟩ := cellsH3 hb6
    obtain ⟨x0, x1, x2, x3, -⟩ := cellsH5 hpush.1.top
    simp only at x0 x1 x2 x3
    rw [← HR.out.2.1] at x3
    have hrow := row_base hpush.1.rowT (Nat.zero_le _)
    simp only at hrow
    rw [← HR.out.2.1] at hrow
    have hneH := ownsRow_ne hrow hpush.1.top (by decide)
    have hcb := ((Chg.refl [] w6).alloc (.cells #[.int .i64 k, .int .i64 rule, .int .i64 p] 87)).drew
    have hbn := heap_alloc_same w6 (.cells #[.int .i64 k, .int .i64 rule, .int .i64 p] 87)
    have hone : ∀ u ∈ ([.int .i64 k, .int .i64 rule, .int .i64 p] : List Value), u.oneCell' = true := by simp [Value.oneCell']
    have h2' : nt + 1 ≤ maxLen ∧ (nt + 1) * 24 ≤ 140737488355328 := by simp only [maxLen]; omega
    have H6 := Lib.hid (And.intro hpush (And.intro hs6 (And.intro hcb (And.intro (cells_at_drew hbn) (And.intro hone (And.intro h2' (And.intro hrow hneH)))))))
    have hHl := lt_of_block hpush.1.top
    have fH1 := free_of_cells hpush.1.top 3
    clear hpush hs6 hb6 hrow hneH hcb hbn hone h2' x0 x1 x2 e6 q5 f5
    go_wp2_with fail
    go_region_law ((refine step_append_row rfl _ _ 29 rfl 87 iT _ 3 24 Try.underlying29 hT0 hT1 hT2 hT3 rfl (by decide) (.slice ta nt tc) nt (tcCells ts) rfl (H6.out.2.2.1.row H6.out.2.2.2.2.2.2.1 (fun _ _ => by simp)) ⟨w6.heap.size, 0, none⟩ 1 1 [.int .i64 k, .int .i64 rule, .int .i64 p] rfl rfl H6.out.2.2.2.1 H6.out.2.2.2.2.1 H6.out.2.2.2.2.2.1.1 H6.out.2.2.2.2.2.1.2 ?_; intro a7 c7 w7 hr7 hg7 hk7; have hB7 := grown_heap hg7 (H6.out.2.2.1.heap H6.out.1.1.top (by simp)) H6.out.2.2.2.2.2.2.2; have q7 := cell_of_cells hB7 3; have f7 := free_of_cells hB7 3; simp only [List.getElem?_toArray, List.getElem?_cons_succ, List.getElem?_cons_zero] at q7; have HY := Lib.hid (And.intro hr7 (And.intro hg7 hk7)); clear hr7 hg7 hk7 hB7))
    all_goals
      have hpush := H6.out.1.1.pushT (by have g1 := HH.out.2.2.2.2.1; have g2 := H2.out.2.2.1.size; have g3 := HD.out.size; have g4 := H4.out.2.2.2.1.size; have g5 := H6.out.1.2.1.size; omega) H6.out.2.2.1 ⟨k, rule, p⟩ (w1 := w7) (a2 := a7) (c2 := c7) (by simp only; rw [← HR.out.2.1]; exact HY.out.1) (by simp only; rw [← HR.out.2.1]; exact HY.out.2.1) (by simp only; rw [← HR.out.2.1]; exact HY.out.2.2)
      simp only at hpush
      rw [← HR.out.2.1] at hpush
      obtain ⟨w8, e8⟩ : ∃ w8, w8 = w7.setCell ⟨H, 3, none⟩ (.slice a7 (nt + 1) c7) := ⟨_, rfl⟩
      rw [← e8] at hpush ⊢
      have hs8 := H6.out.2.1.keepH H6.out.1.1 hpush.2.1
      have H8 := Lib.hid (And.intro hpush hs8)
      clear hpush hs8 q7 f7 e8
      go_wp2_with fail
      go_ret
      unfold ReadH
      rw [← HH.out.2.2.2.2.2.2.1, if_pos (show 0 ≤ W by omega), ← H3.out.2]
      refine ⟨rfl, ⟨B, a4, c4, fr4, _, H8.out.2, H8.out.1.1, HB4.out.1, H4.out.2.2.1, rfl, rfl, rfl⟩, (HB4.out.2.tr (.ofH H4.out.2.1 H6.out.1.2.1)).tr (.ofH H6.out.1.1 H8.out.1.2.1)⟩
  · have hd1 : decide (0 ≤ W) = false := decide_eq_false hw
    go_wp2_with fail
    go_ret
    unfold ReadH
    rw [← HH.out.2.2.2.2.2.2.1, if_neg (show ¬ 0 ≤ W by omega), ← H3.out.2]
    exact ⟨rfl, ⟨B, a4, c4, fr4, _, H4.out.1, H4.out.2.1, HB4.out.1, H4.out.2.2.1, rfl, rfl, rfl⟩, HB4.out.2⟩

set_option maxRecDepth 100000 in
set_option maxHeartbeats 8000000 in
theorem useH_any (b : Nat) (w : World) (H : Nat) (s : List Fm) (l : List Sd) (rs : List Rd) (ts : List Tc) (h : HP b w H s l rs ts) (hbw : b ≤ w.heap.size) (hrl : rs.length ≤ 1000) (hll : l.length ≤ 1000) (htl : ts.length ≤ 1000) (hnow : 0 ≤ nowI l ∧ nowI l ≤ 1000) (k what rule : Int) (on : Bool) (hk : I64 k) (hr : I64 rule) :
    Calls Try.prog 38 #[.pointer (some ⟨H, 0, none⟩), .int .i64 k, .agg #[.int .i64 what, .int .i64 rule, .bool on]] w (UseH b w H s l rs ts k rule (nowI l)) := by
  obtain ⟨B, a, c, fr, x, hs, hh, hfp, rfl, rfl, rfl, rfl⟩ := h
  obtain ⟨l, rs, ts, la, lc, ra, rc, ta, tc⟩ := x
  simp only at *
  obtain ⟨p, hp⟩ : ∃ p, p = nowI l := ⟨_, rfl⟩
  rw [← hp] at hnow ⊢
  obtain ⟨W, hW⟩ : ∃ z, z = whereI l rule p := ⟨_, rfl⟩
  have hp64 : I64 p := ⟨by omega, by omega⟩
  have hca := (Chg.refl [] w).alloc (.cells #[.int .i64 what, .int .i64 rule, .bool on] 35)
  have hnew := heap_alloc_same w (.cells #[.int .i64 what, .int .i64 rule, .bool on] 35)
  obtain ⟨wa, ea⟩ : ∃ wa, wa = w.alloc (.cells #[.int .i64 what, .int .i64 rule, .bool on] 35) := ⟨_, rfl⟩
  rw [← ea] at hca hnew
  have h1 := now_any b wa H B _ (hh.chg0 hca)
  simp only at h1
  rw [← hp] at h1
  have HH := Lib.hid (And.intro (hs.chg0 hca) (And.intro (hh.chg0 hca) (And.intro hfp (And.intro hca (And.intro hbw (And.intro hrl (And.intro hW (And.intro hll (And.intro htl (And.intro hk (And.intro hr hp64)))))))))))
  have hsz : w.heap.size < wa.heap.size := lt_of_block hnew
  have HN := Lib.hid hnew
  clear hs hh hfp hca hbw hrl hll htl hk hr hnew hp64 hp
  go_enter Try.func38, Try.ntmps38
  go_wp2_with fail
  rw [← ea]
  refine h1.mono ?_
  clear h1 ea
  rintro e w1 ⟨rfl, hc1⟩
  have H1 := Lib.hid (And.intro (HH.out.1.chg0 hc1) (And.intro (HH.out.2.1.chg0 hc1) (And.intro (HH.out.2.2.2.1.tr hc1) (hc1.heap HN.out (by simp)))))
  obtain ⟨b0, b1, b2⟩ := cellsH3 H1.out.2.2.2
  obtain ⟨E, hEq⟩ : ∃ z, z = useS (fms fr) p [rule] := ⟨_, rfl⟩
  obtain ⟨x0, x1, x2, x3, -⟩ := cellsH5 H1.out.2.1.top
  simp only at x0 x1 x2 x3
  clear hc1 hW x2
  by_cases hl0 : l = []
  · subst hl0
    simp only [List.length_nil] at x1
    clear x0 x3
    obtain ⟨w7, ew7⟩ : ∃ z, z = w1 := ⟨_, rfl⟩
    rw [← ew7]
    have hcW := ChgB.of0 (b := b) H1.out.2.2.1
    have hsW := H1.out.1
    have hhW := H1.out.2.1
    have hbW := H1.out.2.2.2
    rw [← ew7] at hcW hsW hhW hbW
    obtain ⟨b0, b1, b2⟩ := cellsH3 hbW
    obtain ⟨x0, x1, -, -, -⟩ := cellsH5 hhW.top
    simp only [List.length_nil] at x1
    have hHl := lt_of_block hhW.top
    have hbl := lt_of_block hbW
    have hnew := heap_alloc_same w7 (.cells #[.int .i64 rule] 3)
    have hcl := ((Chg.refl [] w7).alloc (.cells #[.int .i64 rule] 3)).drew
    have hu := useS_any (w7.alloc (.cells #[.int .i64 rule] 3)).drew B a c fr (hsW.chg0 hcl) p (some ⟨w7.heap.size, 0, none⟩) 1 1 [rule] rfl (by decide) (by decide) (fun i hi => ⟨w7.heap.size, 0, rfl, by
      have : i = 0 := by simpa using hi
      subst this
      exact cell_of_cells hnew 0⟩) (fun z hz => by simp only [List.mem_singleton] at hz; subst hz; exact HH.out.2.2.2.2.2.2.2.2.2.2.1)
    rw [← hEq] at hu
    have HU := Lib.hid (And.intro hu (And.intro hsW (And.intro hhW (And.intro hEq (And.intro hcW hcl)))))
    clear hu hsW hhW hnew hcW hbW ew7 hEq hcl
    go_wp2_with fail
    go_region_with (go_at_call 25; refine HU.out.1.mono ?_; rintro e w8 ⟨a8, c8, fr8, rfl, hs8, hf8, hc8, hfp8⟩; have H8 := Lib.hid (And.intro hs8 (And.intro hf8 (And.intro hc8 hfp8))); clear hs8 hf8 hc8 hfp8)
    all_goals
      go_wp2_with fail
      go_ret
      have hW1 := HU.out.2.2.2.2.2
      have hW2 := H8.out.2.2.1
      have hW3 := H8.out.2.2.2
      unfold UseH
      rw [if_pos rfl, ← HU.out.2.2.2.1]
      refine ⟨rfl, ⟨B, a8, c8, fr8, _, H8.out.1, (HU.out.2.2.1.chg0 hW1).keepS (HU.out.2.1.chg0 hW1) hW2, fun k hk => ?_, H8.out.2.1, rfl, rfl, rfl⟩, (HU.out.2.2.2.2.1.tr (.of0 hW1)).tr (.ofS (HU.out.2.1.chg0 hW1) HH.out.2.2.1 hW2)⟩
      rcases hW3 k hk with h | h
      · exact HH.out.2.2.1 k h
      · have g1 := HH.out.2.2.2.2.1; have g2 := HU.out.2.2.2.2.1.size; have g3 := hW1.size; omega
  · have htl := HH.out.2.2.2.2.2.2.2.2.1
    obtain ⟨nl, hnl⟩ : ∃ n, n + 1 = l.length := ⟨l.length - 1, by have : 0 < l.length := List.length_pos_iff.2 hl0; omega⟩
    obtain ⟨nt, hnt⟩ : ∃ n, n = ts.length := ⟨_, rfl⟩
    rw [← hnl] at x1
    rw [← hnt] at htl x3
    have hrow := row_base (H1.out.2.1).rowT (Nat.zero_le _)
    simp only at hrow
    rw [← hnt] at hrow
    have hneH := ownsRow_ne hrow H1.out.2.1.top (by decide)
    have HR := Lib.hid (And.intro hnl (And.intro hnt (And.intro hrow (And.intro hneH hl0))))
    clear hnl hnt hrow hneH hl0
    obtain ⟨iT, hT0, hT1, hT2, hT3⟩ := info_parts Try.infoTouch
    have hcb := ((Chg.refl [] w1).alloc (.cells #[.int .i64 k, .int .i64 rule, .int .i64 p] 87)).drew
    have hbn := heap_alloc_same w1 (.cells #[.int .i64 k, .int .i64 rule, .int .i64 p] 87)
    have hone : ∀ u ∈ ([.int .i64 k, .int .i64 rule, .int .i64 p] : List Value), u.oneCell' = true := by simp [Value.oneCell']
    have h2' : nt + 1 ≤ maxLen ∧ (nt + 1) * 24 ≤ 140737488355328 := by simp only [maxLen]; omega
    have hd1 : decide ((0 : Int) < ((nl + 1 : Nat) : Int)) = true := decide_eq_true (by omega)
    have HA := Lib.hid (And.intro hcb (And.intro (cells_at_drew hbn) (And.intro hone h2')))
    have hHl := lt_of_block H1.out.2.1.top
    have fH1 := free_of_cells H1.out.2.1.top 3
    clear hcb hbn hone h2' x0
    go_wp2_with fail
    go_region_law ((refine step_append_row rfl _ _ 29 rfl 87 iT _ 3 24 Try.underlying29 hT0 hT1 hT2 hT3 rfl (by decide) (.slice ta nt tc) nt (tcCells ts) rfl (HA.out.1.row HR.out.2.2.1 (fun _ _ => by simp)) ⟨w1.heap.size, 0, none⟩ 1 1 [.int .i64 k, .int .i64 rule, .int .i64 p] rfl rfl HA.out.2.1 HA.out.2.2.1 HA.out.2.2.2.1 HA.out.2.2.2.2 ?_; intro a5 c5 w5 hr5 hg5 hk5; have hB5 := grown_heap hg5 (HA.out.1.heap H1.out.2.1.top (by simp)) HR.out.2.2.2.1; have q5 := cell_of_cells hB5 3; have f5 := free_of_cells hB5 3; simp only [List.getElem?_toArray, List.getElem?_cons_succ, List.getElem?_cons_zero] at q5; have HX := Lib.hid (And.intro hr5 (And.intro hg5 hk5)); clear hr5 hg5 hk5 hB5))
    all_goals
      have hpush := H1.out.2.1.pushT (by have g1 := HH.out.2.2.2.2.1; have g2 := H1.out.2.2.1.size; omega) HA.out.1 ⟨k, rule, p⟩ (w1 := w5) (a2 := a5) (c2 := c5) (by simp only; rw [← HR.out.2.1]; exact HX.out.1) (by simp only; rw [← HR.out.2.1]; exact HX.out.2.1) (by simp only; rw [← HR.out.2.1]; exact HX.out.2.2)
      simp only at hpush
      rw [← HR.out.2.1] at hpush
      obtain ⟨w6, e6⟩ : ∃ w6, w6 = w5.setCell ⟨H, 3, none⟩ (.slice a5 (nt + 1) c5) := ⟨_, rfl⟩
      rw [← e6] at hpush ⊢
      have hs6 := H1.out.1.keepH H1.out.2.1 hpush.2.1
      have hb6 := hpush.2.1.heap H1.out.2.2.2 (H1.out.2.1.notFp H1.out.2.2.2 (by decide) (by decide) (by decide) (by decide))
      have hc6 : ChgB b w w6 := (ChgB.of0 H1.out.2.2.1).tr (.ofH H1.out.2.1 hpush.2.1)
      clear x1 x3 b0 b1 b2 e6 q5 f5 fH1 hHl
      obtain ⟨w7, ew7⟩ : ∃ z, z = w6 := ⟨_, rfl⟩
      rw [← ew7]
      have hcW := hc6
      have hsW := hs6
      have hhW := hpush.1
      have hbW := hb6
      rw [← ew7] at hcW hsW hhW hbW
      clear hc6 hs6 hb6 hpush
      obtain ⟨b0, b1, b2⟩ := cellsH3 hbW
      obtain ⟨x0, -, -, -, -⟩ := cellsH5 hhW.top
      have hHl := lt_of_block hhW.top
      have hbl := lt_of_block hbW
      have hnew := heap_alloc_same w7 (.cells #[.int .i64 rule] 3)
      have hcl := ((Chg.refl [] w7).alloc (.cells #[.int .i64 rule] 3)).drew
      have hu := useS_any (w7.alloc (.cells #[.int .i64 rule] 3)).drew B a c fr (hsW.chg0 hcl) p (some ⟨w7.heap.size, 0, none⟩) 1 1 [rule] rfl (by decide) (by decide) (fun i hi => ⟨w7.heap.size, 0, rfl, by
        have : i = 0 := by simpa using hi
        subst this
        exact cell_of_cells hnew 0⟩) (fun z hz => by simp only [List.mem_singleton] at hz; subst hz; exact HH.out.2.2.2.2.2.2.2.2.2.2.1)
      rw [← hEq] at hu
      have HU := Lib.hid (And.intro hu (And.intro hsW (And.intro hhW (And.intro hEq (And.intro hcW hcl)))))
      clear hu hsW hhW hnew hcW hbW ew7 hEq hcl
      go_wp2_with fail
      go_region_with (go_at_call 25; refine HU.out.1.mono ?_; rintro e w8 ⟨a8, c8, fr8, rfl, hs8, hf8, hc8, hfp8⟩; have H8 := Lib.hid (And.intro hs8 (And.intro hf8 (And.intro hc8 hfp8))); clear hs8 hf8 hc8 hfp8)
      all_goals
        go_wp2_with fail
        go_ret
        have hW1 := HU.out.2.2.2.2.2
        have hW2 := H8.out.2.2.1
        have hW3 := H8.out.2.2.2
        unfold UseH
        rw [if_neg HR.out.2.2.2.2, ← HU.out.2.2.2.1]
        refine ⟨rfl, ⟨B, a8, c8, fr8, _, H8.out.1, (HU.out.2.2.1.chg0 hW1).keepS (HU.out.2.1.chg0 hW1) hW2, fun k hk => ?_, H8.out.2.1, rfl, rfl, rfl⟩, (HU.out.2.2.2.2.1.tr (.of0 hW1)).tr (.ofS (HU.out.2.1.chg0 hW1) HH.out.2.2.1 hW2)⟩
        rcases hW3 k hk with h | h
        · exact HH.out.2.2.1 k h
        · have g1 := HH.out.2.2.2.2.1; have g2 := HU.out.2.2.2.2.1.size; have g3 := hW1.size; omega

end Go.Proofs.Ytnajhcoimohcaaa

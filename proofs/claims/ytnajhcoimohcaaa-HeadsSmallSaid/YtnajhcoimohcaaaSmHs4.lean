/-
  The statements' history: a step that enters a rule.
  Conditions: none.
-/
import Derived.Test.YtnajhcoimohcaaaSmHs3
import Derived.StillTailTactics
set_option linter.unusedVariables false
set_option linter.unusedSimpArgs false
set_option linter.unnecessarySimpa false
namespace Go.Proofs.Ytnajhcoimohcaaa
open Go.RowKit Go.MapKept

/-- A history and its stack, all of it made since. -/
def HP (b : Nat) (w : World) (H : Nat) (s : List Fm) (l : List Sd) (rs : List Rd) (ts : List Tc) : Prop :=
  ∃ B a c fr x, StackAt w B a c fr ∧ HistAt b w H B x ∧ (∀ k ∈ fpS B a c fr, b ≤ k) ∧ fms fr = s ∧ x.l = l ∧ x.rs = rs ∧ x.ts = ts
/-- Of what was made since, another; but no row of numbers, no row of such rows. -/
def ChgB (b : Nat) (w w' : World) : Prop := ∃ S, (∀ k ∈ S, b ≤ k ∧ ∀ cs t, w.heap[k]? = some (.cells cs t (0, 0)) → t ≠ 3 ∧ t ≠ 38) ∧ Chg S w w'
theorem ChgB.refl (b : Nat) (w : World) : ChgB b w w := ⟨[], by simp, Chg.refl _ _⟩
theorem ChgB.of0 {b : Nat} {w w' : World} (h : Chg [] w w') : ChgB b w w' := ⟨[], by simp, h⟩
theorem ChgB.tr {b : Nat} {u v w : World} (h : ChgB b u v) (k : ChgB b v w) : ChgB b u w := by
  obtain ⟨S, h1, h2⟩ := h
  obtain ⟨T, k1, k2⟩ := k
  exact ⟨S ++ T, fun j hj => by
    by_cases hjs : j ∈ S
    · exact h1 j hjs
    · have hjt : j ∈ T := (List.mem_append.1 hj).resolve_left hjs
      exact ⟨(k1 j hjt).1, fun cs t ht => (k1 j hjt).2 cs t (h2.heap ht hjs)⟩, (h2.mono (T := S ++ T) (fun j hj => .inl (by simp [hj]))).trans k2 (fun j hj => .inl (by simp [hj]))⟩
theorem ChgB.done {b : Nat} {v w : World} (h : ChgB b v w) (hb : v.heap.size ≤ b) : Chg [] v w := by
  obtain ⟨S, h1, h2⟩ := h
  exact h2.mono fun j hj => .inr (by have := (h1 j hj).1; omega)
theorem ChgB.size {b : Nat} {v w : World} (h : ChgB b v w) : v.heap.size ≤ w.heap.size := by
  obtain ⟨S, _, h2⟩ := h
  exact h2.size
def OutH (b : Nat) (w : World) (H : Nat) (s : List Fm) (l : List Sd) (rs : List Rd) (ts : List Tc) (ans : Bool) (e : Ending) (w' : World) : Prop :=
  e = .returned (.bool ans) ∧ HP b w' H s l rs ts ∧ ChgB b w w'
theorem HP.chg0 {b : Nat} {w w' : World} {H : Nat} {s : List Fm} {l : List Sd} {rs : List Rd} {ts : List Tc} (h : HP b w H s l rs ts) (hc : Chg [] w w') : HP b w' H s l rs ts := by
  obtain ⟨B, a, c, fr, x, h1, h2, h3, h4⟩ := h
  exact ⟨B, a, c, fr, x, h1.chg0 hc, h2.chg0 hc, h3, h4⟩
def plI (l : List Sd) (on : Bool) : Int := if on then nowI l + 1 else nowI l
theorem cellsH3 {w : World} {b : Nat} {v0 v1 v2 : Value} {t : TypeId} {m : Nat × Nat} (h : w.heap[b]? = some (.cells #[v0, v1, v2] t m)) :
    w.cell? ⟨b, 0, none⟩ = some v0 ∧ w.cell? ⟨b, 1, none⟩ = some v1 ∧ w.cell? ⟨b, 2, none⟩ = some v2 := ⟨cell_of_cells h 0, cell_of_cells h 1, cell_of_cells h 2⟩

theorem HistAt.notFp {b : Nat} {w : World} {H B : Nat} {x : Hst} (h : HistAt b w H B x) {k : Nat} {cs : Array Value} {t : TypeId} (ht : w.heap[k]? = some (.cells cs t (0, 0))) (n1 : t ≠ 31) (n2 : t ≠ 40) (n3 : t ≠ 37) (n4 : t ≠ 87) : k ∉ fpH H x := fun hk => by
  simp only [fpH, List.mem_cons, List.mem_append, Option.mem_toList] at hk
  rcases hk with rfl | hk | hk | hk
  · have := h.top
    rw [ht] at this
    simp only [Option.some.injEq, Obj.cells.injEq] at this
    exact n1 this.2.1
  · exact ownsRow_ne h.rowL ht n2 hk
  · exact ownsRow_ne h.rowR ht n3 hk
  · exact ownsRow_ne h.rowT ht n4 hk

theorem ChgB.ofS {b : Nat} {w w' : World} {B : Nat} {a : Option Addr} {c : Nat} {l : List Fr} (hs : StackAt w B a c l) (hfp : ∀ k ∈ fpS B a c l, b ≤ k) (h : Chg (fpS B a c l) w w') : ChgB b w w' :=
  ⟨_, fun k hk => ⟨hfp k hk, fun cs t ht => by rcases hs.fpKind hk ht with rfl | rfl <;> exact ⟨by decide, by decide⟩⟩, h⟩
theorem ChgB.ofH {b : Nat} {w w' : World} {H B : Nat} {x : Hst} (hh : HistAt b w H B x) (h : Chg (fpH H x) w w') : ChgB b w w' :=
  ⟨_, fun k hk => ⟨(hh.fpKind hk).1, fun cs t ht => ⟨fun e => by subst e; exact hh.notFp ht (by decide) (by decide) (by decide) (by decide) hk, fun e => by subst e; exact hh.notFp ht (by decide) (by decide) (by decide) (by decide) hk⟩⟩, h⟩
theorem ChgB.row {b : Nat} {w w' : World} (h : ChgB b w w') {base e size n : Nat} {v : Value} {xs : List Value} (hr : w.ownsRow base e size v n xs) (he : e = 3 ∨ e = 38) : w'.ownsRow base e size v n xs := by
  obtain ⟨S, h1, h2⟩ := h
  refine h2.row hr (fun k hk hm => ?_)
  obtain ⟨_, _, cur, hcur⟩ := row_beyond hr hk
  have := (h1 k hm).2 _ _ hcur
  rcases he with he | he
  · exact this.1 he
  · exact this.2 he

def EnterH (b : Nat) (w : World) (H : Nat) (s : List Fm) (l : List Sd) (rs : List Rd) (ts : List Tc) (k rule p : Int) : Ending → World → Prop :=
  if 0 ≤ whereI l rule p then OutH b w H (enterS s rule p).1 l rs ts ((enterS s rule p).2 == 8)
  else OutH b w H (enterS s rule p).1 (l ++ [⟨rule, p, k⟩]) rs (ts ++ [⟨k, rule, p⟩]) ((enterS s rule p).2 == 0)

set_option maxRecDepth 100000 in
set_option maxHeartbeats 8000000 in
theorem enterH_any (b : Nat) (w : World) (H : Nat) (s : List Fm) (l : List Sd) (rs : List Rd) (ts : List Tc) (h : HP b w H s l rs ts) (hbw : b ≤ w.heap.size) (hsl : s.length ≤ 1000) (hll : l.length ≤ 1000) (htl : ts.length ≤ 1000) (hnow : 0 ≤ nowI l ∧ nowI l ≤ 1000) (k what rule : Int) (on : Bool) (hk : I64 k) (hr : I64 rule) :
    Calls Try.prog 36 #[.pointer (some ⟨H, 0, none⟩), .int .i64 k, .agg #[.int .i64 what, .int .i64 rule, .bool on]] w (EnterH b w H s l rs ts k rule (plI l on)) := by
  obtain ⟨B, a, c, fr, x, hs, hh, hfp, rfl, rfl, rfl, rfl⟩ := h
  obtain ⟨l, rs, ts, la, lc, ra, rc, ta, tc⟩ := x
  simp only at *
  obtain ⟨p, hp⟩ : ∃ p, p = plI l on := ⟨_, rfl⟩
  rw [← hp]
  obtain ⟨p0, hp0⟩ : ∃ p, p = nowI l := ⟨_, rfl⟩
  obtain ⟨W, hW⟩ : ∃ z, z = whereI l rule p := ⟨_, rfl⟩
  have hp64 : I64 p := by
    rw [hp]; unfold plI
    cases on
    · exact ⟨by simp; omega, by simp; omega⟩
    · exact ⟨by simp; omega, by simp; omega⟩
  rw [← hp0] at hnow
  have hca := (Chg.refl [] w).alloc (.cells #[.int .i64 what, .int .i64 rule, .bool on] 35)
  have hnew := heap_alloc_same w (.cells #[.int .i64 what, .int .i64 rule, .bool on] 35)
  obtain ⟨wa, ea⟩ : ∃ wa, wa = w.alloc (.cells #[.int .i64 what, .int .i64 rule, .bool on] 35) := ⟨_, rfl⟩
  rw [← ea] at hca hnew
  have h1 := now_any b wa H B _ (hh.chg0 hca)
  simp only at h1
  rw [← hp0] at h1
  have HH := Lib.hid (And.intro (hs.chg0 hca) (And.intro (hh.chg0 hca) (And.intro hfp (And.intro hca (And.intro hbw (And.intro hp (And.intro hW (And.intro (show fr.length ≤ 1000 by rwa [fms_len] at hsl) (And.intro hll (And.intro htl (And.intro hk (And.intro hr (And.intro hp64 hp0)))))))))))))
  have hsz : w.heap.size < wa.heap.size := lt_of_block hnew
  have HN := Lib.hid hnew
  clear hs hh hfp hca hbw hsl hll htl hk hr hnew hp64 hp hp0
  go_enter Try.func36, Try.ntmps36
  go_wp2_with fail
  rw [← ea]
  refine h1.mono ?_
  clear h1 ea
  rintro e w1 ⟨rfl, hc1⟩
  have H1 := Lib.hid (And.intro (HH.out.1.chg0 hc1) (And.intro (HH.out.2.1.chg0 hc1) (And.intro (HH.out.2.2.2.1.tr hc1) (hc1.heap HN.out (by simp)))))
  obtain ⟨b0, b1, b2⟩ := cellsH3 H1.out.2.2.2
  have h2 := where_any b w1 H B _ H1.out.2.1 rule p
  simp only at h2
  rw [← hW] at h2
  clear hc1 hW
  have hE : IntKind.i64.wrap (p0 + 1) = p0 + 1 := IntWalk.i64_in _ (by omega)
  obtain ⟨E, hEq⟩ : ∃ z, z = enterS (fms fr) rule p := ⟨_, rfl⟩
  cases on with
  | false =>
    obtain rfl : p = p0 := by have h1 := HH.out.2.2.2.2.2.1; have h2 := HH.out.2.2.2.2.2.2.2.2.2.2.2.2.2; simp only [plI] at h1; rw [h1, h2]; rfl
    go_wp2_with fail
    skip
    refine h2.mono ?_
    clear h2
    rintro e w2 ⟨rfl, hc2⟩
    have H2 := Lib.hid (And.intro (H1.out.1.chg0 hc2) (And.intro (H1.out.2.1.chg0 hc2) (And.intro (H1.out.2.2.1.tr hc2) (hc2.heap H1.out.2.2.2 (by simp)))))
    obtain ⟨b0, b1, b2⟩ := cellsH3 H2.out.2.2.2
    obtain ⟨x0, x1, x2, x3, -⟩ := cellsH5 H2.out.2.1.top
    simp only at x0 x1 x2 x3
    clear hc2
    have h3 := fun (W : World) (hW : Chg [] w2 W) => enterS_any W B a c fr (H2.out.1.chg0 hW) (by have := HH.out.2.2.2.2.2.2.2.1; omega) rule p HH.out.2.2.2.2.2.2.2.2.2.2.2.1 HH.out.2.2.2.2.2.2.2.2.2.2.2.2.1
    rw [← hEq] at h3
    have H3 := Lib.hid (And.intro h3 hEq)
    clear h3 hEq x1 x2 x3
    go_wp2_with fail
    go_still_tail 7, (by kernel_rfl)
    change wpList _ _ _ _ _ w2.drew
    have hd := (Chg.refl [] w2).drew
    obtain ⟨w3, e3⟩ : ∃ w3, w3 = w2.drew := ⟨_, rfl⟩
    rw [← e3] at hd ⊢
    have h4 := H3.out.1 w3 hd
    clear e3 x0
    have HD := Lib.hid hd
    clear hd b0 b1 b2
    go_wp2_with fail
    refine h4.mono ?_
    clear h4
    rintro e w4 ⟨a4, c4, fr4, rfl, hs4, hf4, hc4, hfp4⟩
    have H4 := Lib.hid (And.intro hs4 (And.intro (HistAt.keepS (H2.out.2.1.chg0 HD.out) (H2.out.1.chg0 HD.out) hc4) (And.intro hf4 (And.intro hc4 (And.intro hfp4 (hc4.heap (HD.out.heap H2.out.2.2.2 (by simp)) (fun hm => by
      have := (H2.out.1.chg0 HD.out).fpKind hm (HD.out.heap H2.out.2.2.2 (by simp))
      rcases this with e | e
      · exact absurd e (by decide)
      · exact absurd e (by decide))))))))
    obtain ⟨b0, b1, b2⟩ := cellsH3 H4.out.2.2.2.2.2
    obtain ⟨x0, x1, x2, x3, -⟩ := cellsH5 H4.out.2.1.top
    simp only at x0 x1 x2 x3
    clear hs4 hf4 hc4 hfp4
    have hB4 : ∀ k ∈ fpS B a4 c4 fr4, b ≤ k := fun k hk => by
      rcases H4.out.2.2.2.2.1 k hk with h | h
      · exact HH.out.2.2.1 k h
      · have g1 := HH.out.2.2.2.2.1; have g2 := H2.out.2.2.1.size; have g3 := HD.out.size; omega
    have hC4 : ChgB b w w4 := (ChgB.of0 (H2.out.2.2.1.tr HD.out)).tr (.ofS (H2.out.1.chg0 HD.out) HH.out.2.2.1 H4.out.2.2.2.1)
    have HB4 := Lib.hid (And.intro hB4 hC4)
    clear hB4 hC4
    by_cases hw : 0 ≤ W
    · have hd1 : decide (0 ≤ W) = true := decide_eq_true hw
      go_wp2_with fail
      go_ret
      unfold EnterH
      rw [← HH.out.2.2.2.2.2.2.1, if_pos hw, ← H3.out.2]
      exact ⟨rfl, ⟨B, a4, c4, fr4, _, H4.out.1, H4.out.2.1, HB4.out.1, H4.out.2.2.1, rfl, rfl, rfl⟩, HB4.out.2⟩
    · have hd1 : decide (0 ≤ W) = false := decide_eq_false hw
      have hll := HH.out.2.2.2.2.2.2.2.2.1
      have htl := HH.out.2.2.2.2.2.2.2.2.2.1
      obtain ⟨nl, hnl⟩ : ∃ n, n = l.length := ⟨_, rfl⟩
      obtain ⟨nt, hnt⟩ : ∃ n, n = ts.length := ⟨_, rfl⟩
      rw [← hnl] at hll x1
      rw [← hnt] at htl x3
      have hrow := row_base (H4.out.2.1).rowL (Nat.zero_le _)
      simp only at hrow
      rw [← hnl] at hrow
      have hneH := ownsRow_ne hrow H4.out.2.1.top (by decide)
      have HR := Lib.hid (And.intro hnl (And.intro hnt (And.intro hrow hneH)))
      clear hnl hnt hrow hneH
      obtain ⟨iL, hL0, hL1, hL2, hL3⟩ := info_parts Try.infoStands
      obtain ⟨iT, hT0, hT1, hT2, hT3⟩ := info_parts Try.infoTouch
      have hcb := ((Chg.refl [] w4).alloc (.cells #[.int .i64 rule, .int .i64 p, .int .i64 k] 40)).drew
      have hbn := heap_alloc_same w4 (.cells #[.int .i64 rule, .int .i64 p, .int .i64 k] 40)
      have hone : ∀ u ∈ ([.int .i64 rule, .int .i64 p, .int .i64 k] : List Value), u.oneCell' = true := by simp [Value.oneCell']
      have h2' : nl + 1 ≤ maxLen ∧ (nl + 1) * 24 ≤ 140737488355328 := by simp only [maxLen]; omega
      have HA := Lib.hid (And.intro hcb (And.intro (cells_at_drew hbn) (And.intro hone h2')))
      have hHl := lt_of_block H4.out.2.1.top
      have fH1 := free_of_cells H4.out.2.1.top 1
      clear hcb hbn hone h2' x0 x2
      go_wp2_with fail
      go_region_law ((refine step_append_row rfl _ _ 27 rfl 40 iL _ 3 24 Try.underlying27 hL0 hL1 hL2 hL3 rfl (by decide) (.slice la nl lc) nl (sdCells l) rfl (HA.out.1.row HR.out.2.2.1 (fun _ _ => by simp)) ⟨w4.heap.size, 0, none⟩ 1 1 [.int .i64 rule, .int .i64 p, .int .i64 k] rfl rfl HA.out.2.1 HA.out.2.2.1 HA.out.2.2.2.1 HA.out.2.2.2.2 ?_; intro a5 c5 w5 hr5 hg5 hk5; have hB5 := grown_heap hg5 (HA.out.1.heap H4.out.2.1.top (by simp)) HR.out.2.2.2; have q5 := cell_of_cells hB5 1; have f5 := free_of_cells hB5 1; simp only [List.getElem?_toArray, List.getElem?_cons_succ, List.getElem?_cons_zero] at q5; have HX := Lib.hid (And.intro hr5 (And.intro hg5 hk5)); clear hr5 hg5 hk5 hB5))
      all_goals
        have hpush := H4.out.2.1.pushL (by have g1 := HH.out.2.2.2.2.1; have g2 := H2.out.2.2.1.size; have g3 := HD.out.size; have g4 := H4.out.2.2.2.1.size; omega) HA.out.1 ⟨rule, p, k⟩ (w1 := w5) (a2 := a5) (c2 := c5) (by simp only; rw [← HR.out.1]; exact HX.out.1) (by simp only; rw [← HR.out.1]; exact HX.out.2.1) (by simp only; rw [← HR.out.1]; exact HX.out.2.2)
        simp only at hpush
        rw [← HR.out.1] at hpush
        obtain ⟨w6, e6⟩ : ∃ w6, w6 = w5.setCell ⟨H, 1, none⟩ (.slice a5 (nl + 1) c5) := ⟨_, rfl⟩
        rw [← e6] at hpush ⊢
        have hs6 := H4.out.1.keepH H4.out.2.1 hpush.2.1
        have hb6 := hpush.2.1.heap H4.out.2.2.2.2.2 (H4.out.2.1.notFp H4.out.2.2.2.2.2 (by decide) (by decide) (by decide) (by decide))
        obtain ⟨b0, b1, b2⟩ := cellsH3 hb6
        obtain ⟨x0, x1, x2, x3, -⟩ := cellsH5 hpush.1.top
        simp only at x0 x1 x2 x3
        rw [← HR.out.2.1] at x3
        have hrow := row_base hpush.1.rowT (Nat.zero_le _)
        simp only at hrow
        rw [← HR.out.2.1] at hrow
        have hneH := ownsRow_ne hrow hpush.1.top (by decide)
        have hcb := ((Chg.refl [] w6).alloc (.cells #[.int .i64 k, .int .i64 rule, .int .i64 p] 87)).drew
        have hbn := heap_alloc_same w6 (.cells #[.int .i64 k, .int .i64 rule, .int .i64 p] 87)
        have hone : ∀ u ∈ ([.int .i64 k, .int .i64 rule, .int .i64 p] : List Value), u.oneCell' = true := by simp [Value.oneCell']
        have h2' : nt + 1 ≤ maxLen ∧ (nt + 1) * 24 ≤ 140737488355328 := by simp only [maxLen]; omega
        have H6 := Lib.hid (And.intro hpush (And.intro hs6 (And.intro hcb (And.intro (cells_at_drew hbn) (And.intro hone (And.intro h2' (And.intro hrow hneH)))))))
        have hHl := lt_of_block hpush.1.top
        have fH1 := free_of_cells hpush.1.top 3
        clear hpush hs6 hb6 hrow hneH hcb hbn hone h2' x0 x1 x2 e6 q5 f5
        go_wp2_with fail
        go_region_law ((refine step_append_row rfl _ _ 29 rfl 87 iT _ 3 24 Try.underlying29 hT0 hT1 hT2 hT3 rfl (by decide) (.slice ta nt tc) nt (tcCells ts) rfl (H6.out.2.2.1.row H6.out.2.2.2.2.2.2.1 (fun _ _ => by simp)) ⟨w6.heap.size, 0, none⟩ 1 1 [.int .i64 k, .int .i64 rule, .int .i64 p] rfl rfl H6.out.2.2.2.1 H6.out.2.2.2.2.1 H6.out.2.2.2.2.2.1.1 H6.out.2.2.2.2.2.1.2 ?_; intro a7 c7 w7 hr7 hg7 hk7; have hB7 := grown_heap hg7 (H6.out.2.2.1.heap H6.out.1.1.top (by simp)) H6.out.2.2.2.2.2.2.2; have q7 := cell_of_cells hB7 3; have f7 := free_of_cells hB7 3; simp only [List.getElem?_toArray, List.getElem?_cons_succ, List.getElem?_cons_zero] at q7; have HY := Lib.hid (And.intro hr7 (And.intro hg7 hk7)); clear hr7 hg7 hk7 hB7))
        all_goals
          have hpush := H6.out.1.1.pushT (by have g1 := HH.out.2.2.2.2.1; have g2 := H2.out.2.2.1.size; have g3 := HD.out.size; have g4 := H4.out.2.2.2.1.size; have g5 := H6.out.1.2.1.size; omega) H6.out.2.2.1 ⟨k, rule, p⟩ (w1 := w7) (a2 := a7) (c2 := c7) (by simp only; rw [← HR.out.2.1]; exact HY.out.1) (by simp only; rw [← HR.out.2.1]; exact HY.out.2.1) (by simp only; rw [← HR.out.2.1]; exact HY.out.2.2)
          simp only at hpush
          rw [← HR.out.2.1] at hpush
          obtain ⟨w8, e8⟩ : ∃ w8, w8 = w7.setCell ⟨H, 3, none⟩ (.slice a7 (nt + 1) c7) := ⟨_, rfl⟩
          rw [← e8] at hpush ⊢
          have hs8 := H6.out.2.1.keepH H6.out.1.1 hpush.2.1
          have H8 := Lib.hid (And.intro hpush hs8)
          clear hpush hs8 q7 f7 e8
          go_wp2_with fail
          go_ret
          unfold EnterH
          rw [← HH.out.2.2.2.2.2.2.1, if_neg (show ¬ 0 ≤ W by omega), ← H3.out.2]
          refine ⟨rfl, ⟨B, a4, c4, fr4, _, H8.out.2, H8.out.1.1, HB4.out.1, H4.out.2.2.1, rfl, rfl, rfl⟩, (HB4.out.2.tr (.ofH H4.out.2.1 H6.out.1.2.1)).tr (.ofH H6.out.1.1 H8.out.1.2.1)⟩
  | true =>
    have hpp : p0 + 1 = p := by have h1 := HH.out.2.2.2.2.2.1; have h2 := HH.out.2.2.2.2.2.2.2.2.2.2.2.2.2; simp only [plI] at h1; rw [h1, h2]; rfl
    rw [hpp] at hE
    go_wp2_with fail
    clear hE hpp
    refine h2.mono ?_
    clear h2
    rintro e w2 ⟨rfl, hc2⟩
    have H2 := Lib.hid (And.intro (H1.out.1.chg0 hc2) (And.intro (H1.out.2.1.chg0 hc2) (And.intro (H1.out.2.2.1.tr hc2) (hc2.heap H1.out.2.2.2 (by simp)))))
    obtain ⟨b0, b1, b2⟩ := cellsH3 H2.out.2.2.2
    obtain ⟨x0, x1, x2, x3, -⟩ := cellsH5 H2.out.2.1.top
    simp only at x0 x1 x2 x3
    clear hc2
    have h3 := fun (W : World) (hW : Chg [] w2 W) => enterS_any W B a c fr (H2.out.1.chg0 hW) (by have := HH.out.2.2.2.2.2.2.2.1; omega) rule p HH.out.2.2.2.2.2.2.2.2.2.2.2.1 HH.out.2.2.2.2.2.2.2.2.2.2.2.2.1
    rw [← hEq] at h3
    have H3 := Lib.hid (And.intro h3 hEq)
    clear h3 hEq x1 x2 x3
    go_wp2_with fail
    go_still_tail 7, (by kernel_rfl)
    change wpList _ _ _ _ _ w2.drew
    have hd := (Chg.refl [] w2).drew
    obtain ⟨w3, e3⟩ : ∃ w3, w3 = w2.drew := ⟨_, rfl⟩
    rw [← e3] at hd ⊢
    have h4 := H3.out.1 w3 hd
    clear e3 x0
    have HD := Lib.hid hd
    clear hd b0 b1 b2
    go_wp2_with fail
    refine h4.mono ?_
    clear h4
    rintro e w4 ⟨a4, c4, fr4, rfl, hs4, hf4, hc4, hfp4⟩
    have H4 := Lib.hid (And.intro hs4 (And.intro (HistAt.keepS (H2.out.2.1.chg0 HD.out) (H2.out.1.chg0 HD.out) hc4) (And.intro hf4 (And.intro hc4 (And.intro hfp4 (hc4.heap (HD.out.heap H2.out.2.2.2 (by simp)) (fun hm => by
      have := (H2.out.1.chg0 HD.out).fpKind hm (HD.out.heap H2.out.2.2.2 (by simp))
      rcases this with e | e
      · exact absurd e (by decide)
      · exact absurd e (by decide))))))))
    obtain ⟨b0, b1, b2⟩ := cellsH3 H4.out.2.2.2.2.2
    obtain ⟨x0, x1, x2, x3, -⟩ := cellsH5 H4.out.2.1.top
    simp only at x0 x1 x2 x3
    clear hs4 hf4 hc4 hfp4
    have hB4 : ∀ k ∈ fpS B a4 c4 fr4, b ≤ k := fun k hk => by
      rcases H4.out.2.2.2.2.1 k hk with h | h
      · exact HH.out.2.2.1 k h
      · have g1 := HH.out.2.2.2.2.1; have g2 := H2.out.2.2.1.size; have g3 := HD.out.size; omega
    have hC4 : ChgB b w w4 := (ChgB.of0 (H2.out.2.2.1.tr HD.out)).tr (.ofS (H2.out.1.chg0 HD.out) HH.out.2.2.1 H4.out.2.2.2.1)
    have HB4 := Lib.hid (And.intro hB4 hC4)
    clear hB4 hC4
    by_cases hw : 0 ≤ W
    · have hd1 : decide (0 ≤ W) = true := decide_eq_true hw
      go_wp2_with fail
      go_ret
      unfold EnterH
      rw [← HH.out.2.2.2.2.2.2.1, if_pos hw, ← H3.out.2]
      exact ⟨rfl, ⟨B, a4, c4, fr4, _, H4.out.1, H4.out.2.1, HB4.out.1, H4.out.2.2.1, rfl, rfl, rfl⟩, HB4.out.2⟩
    · have hd1 : decide (0 ≤ W) = false := decide_eq_false hw
      have hll := HH.out.2.2.2.2.2.2.2.2.1
      have htl := HH.out.2.2.2.2.2.2.2.2.2.1
      obtain ⟨nl, hnl⟩ : ∃ n, n = l.length := ⟨_, rfl⟩
      obtain ⟨nt, hnt⟩ : ∃ n, n = ts.length := ⟨_, rfl⟩
      rw [← hnl] at hll x1
      rw [← hnt] at htl x3
      have hrow := row_base (H4.out.2.1).rowL (Nat.zero_le _)
      simp only at hrow
      rw [← hnl] at hrow
      have hneH := ownsRow_ne hrow H4.out.2.1.top (by decide)
      have HR := Lib.hid (And.intro hnl (And.intro hnt (And.intro hrow hneH)))
      clear hnl hnt hrow hneH
      obtain ⟨iL, hL0, hL1, hL2, hL3⟩ := info_parts Try.infoStands
      obtain ⟨iT, hT0, hT1, hT2, hT3⟩ := info_parts Try.infoTouch
      have hcb := ((Chg.refl [] w4).alloc (.cells #[.int .i64 rule, .int .i64 p, .int .i64 k] 40)).drew
      have hbn := heap_alloc_same w4 (.cells #[.int .i64 rule, .int .i64 p, .int .i64 k] 40)
      have hone : ∀ u ∈ ([.int .i64 rule, .int .i64 p, .int .i64 k] : List Value), u.oneCell' = true := by simp [Value.oneCell']
      have h2' : nl + 1 ≤ maxLen ∧ (nl + 1) * 24 ≤ 140737488355328 := by simp only [maxLen]; omega
      have HA := Lib.hid (And.intro hcb (And.intro (cells_at_drew hbn) (And.intro hone h2')))
      have hHl := lt_of_block H4.out.2.1.top
      have fH1 := free_of_cells H4.out.2.1.top 1
      clear hcb hbn hone h2' x0 x2
      go_wp2_with fail
      go_region_law ((refine step_append_row rfl _ _ 27 rfl 40 iL _ 3 24 Try.underlying27 hL0 hL1 hL2 hL3 rfl (by decide) (.slice la nl lc) nl (sdCells l) rfl (HA.out.1.row HR.out.2.2.1 (fun _ _ => by simp)) ⟨w4.heap.size, 0, none⟩ 1 1 [.int .i64 rule, .int .i64 p, .int .i64 k] rfl rfl HA.out.2.1 HA.out.2.2.1 HA.out.2.2.2.1 HA.out.2.2.2.2 ?_; intro a5 c5 w5 hr5 hg5 hk5; have hB5 := grown_heap hg5 (HA.out.1.heap H4.out.2.1.top (by simp)) HR.out.2.2.2; have q5 := cell_of_cells hB5 1; have f5 := free_of_cells hB5 1; simp only [List.getElem?_toArray, List.getElem?_cons_succ, List.getElem?_cons_zero] at q5; have HX := Lib.hid (And.intro hr5 (And.intro hg5 hk5)); clear hr5 hg5 hk5 hB5))
      all_goals
        have hpush := H4.out.2.1.pushL (by have g1 := HH.out.2.2.2.2.1; have g2 := H2.out.2.2.1.size; have g3 := HD.out.size; have g4 := H4.out.2.2.2.1.size; omega) HA.out.1 ⟨rule, p, k⟩ (w1 := w5) (a2 := a5) (c2 := c5) (by simp only; rw [← HR.out.1]; exact HX.out.1) (by simp only; rw [← HR.out.1]; exact HX.out.2.1) (by simp only; rw [← HR.out.1]; exact HX.out.2.2)
        simp only at hpush
        rw [← HR.out.1] at hpush
        obtain ⟨w6, e6⟩ : ∃ w6, w6 = w5.setCell ⟨H, 1, none⟩ (.slice a5 (nl + 1) c5) := ⟨_, rfl⟩
        rw [← e6] at hpush ⊢
        have hs6 := H4.out.1.keepH H4.out.2.1 hpush.2.1
        have hb6 := hpush.2.1.heap H4.out.2.2.2.2.2 (H4.out.2.1.notFp H4.out.2.2.2.2.2 (by decide) (by decide) (by decide) (by decide))
        obtain ⟨b0, b1, b2⟩ := cellsH3 hb6
        obtain ⟨x0, x1, x2, x3, -⟩ := cellsH5 hpush.1.top
        simp only at x0 x1 x2 x3
        rw [← HR.out.2.1] at x3
        have hrow := row_base hpush.1.rowT (Nat.zero_le _)
        simp only at hrow
        rw [← HR.out.2.1] at hrow
        have hneH := ownsRow_ne hrow hpush.1.top (by decide)
        have hcb := ((Chg.refl [] w6).alloc (.cells #[.int .i64 k, .int .i64 rule, .int .i64 p] 87)).drew
        have hbn := heap_alloc_same w6 (.cells #[.int .i64 k, .int .i64 rule, .int .i64 p] 87)
        have hone : ∀ u ∈ ([.int .i64 k, .int .i64 rule, .int .i64 p] : List Value), u.oneCell' = true := by simp [Value.oneCell']
        have h2' : nt + 1 ≤ maxLen ∧ (nt + 1) * 24 ≤ 140737488355328 := by simp only [maxLen]; omega
        have H6 := Lib.hid (And.intro hpush (And.intro hs6 (And.intro hcb (And.intro (cells_at_drew hbn) (And.intro hone (And.intro h2' (And.intro hrow hneH)))))))
        have hHl := lt_of_block hpush.1.top
        have fH1 := free_of_cells hpush.1.top 3
        clear hpush hs6 hb6 hrow hneH hcb hbn hone h2' x0 x1 x2 e6 q5 f5
        go_wp2_with fail
        go_region_law ((refine step_append_row rfl _ _ 29 rfl 87 iT _ 3 24 Try.underlying29 hT0 hT1 hT2 hT3 rfl (by decide) (.slice ta nt tc) nt (tcCells ts) rfl (H6.out.2.2.1.row H6.out.2.2.2.2.2.2.1 (fun _ _ => by simp)) ⟨w6.heap.size, 0, none⟩ 1 1 [.int .i64 k, .int .i64 rule, .int .i64 p] rfl rfl H6.out.2.2.2.1 H6.out.2.2.2.2.1 H6.out.2.2.2.2.2.1.1 H6.out.2.2.2.2.2.1.2 ?_; intro a7 c7 w7 hr7 hg7 hk7; have hB7 := grown_heap hg7 (H6.out.2.2.1.heap H6.out.1.1.top (by simp)) H6.out.2.2.2.2.2.2.2; have q7 := cell_of_cells hB7 3; have f7 := free_of_cells hB7 3; simp only [List.getElem?_toArray, List.getElem?_cons_succ, List.getElem?_cons_zero] at q7; have HY := Lib.hid (And.intro hr7 (And.intro hg7 hk7)); clear hr7 hg7 hk7 hB7))
        all_goals
          have hpush := H6.out.1.1.pushT (by have g1 := HH.out.2.2.2.2.1; have g2 := H2.out.2.2.1.size; have g3 := HD.out.size; have g4 := H4.out.2.2.2.1.size; have g5 := H6.out.1.2.1.size; omega) H6.out.2.2.1 ⟨k, rule, p⟩ (w1 := w7) (a2 := a7) (c2 := c7) (by simp only; rw [← HR.out.2.1]; exact HY.out.1) (by simp only; rw [← HR.out.2.1]; exact HY.out.2.1) (by simp only; rw [← HR.out.2.1]; exact HY.out.2.2)
          simp only at hpush
          rw [← HR.out.2.1] at hpush
          obtain ⟨w8, e8⟩ : ∃ w8, w8 = w7.setCell ⟨H, 3, none⟩ (.slice a7 (nt + 1) c7) := ⟨_, rfl⟩
          rw [← e8] at hpush ⊢
          have hs8 := H6.out.2.1.keepH H6.out.1.1 hpush.2.1
          have H8 := Lib.hid (And.intro hpush hs8)
          clear hpush hs8 q7 f7 e8
          go_wp2_with fail
          go_ret
          unfold EnterH
          rw [← HH.out.2.2.2.2.2.2.1, if_neg (show ¬ 0 ≤ W by omega), ← H3.out.2]
          refine ⟨rfl, ⟨B, a4, c4, fr4, _, H8.out.2, H8.out.1.1, HB4.out.1, H4.out.2.2.1, rfl, rfl, rfl⟩, (HB4.out.2.tr (.ofH H4.out.2.1 H6.out.1.2.1)).tr (.ofH H6.out.1.1 H8.out.1.2.1)⟩

end Go.Proofs.Ytnajhcoimohcaaa

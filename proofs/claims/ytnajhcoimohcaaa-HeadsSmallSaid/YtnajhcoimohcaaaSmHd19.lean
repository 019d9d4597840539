/-
  Package heads: the same stack once more.
  Conditions: none.
-/
import Derived.Test.YtnajhcoimohcaaaSmHd18
import Derived.Deep.Cut
import Derived.Deep.CutRange
set_option linter.unusedVariables false
set_option linter.unusedSimpArgs false
set_option linter.unnecessarySimpa false
namespace Go.Proofs.Ytnajhcoimohcaaa
open Go.RowKit Go.MapKept

/-- An activation more, its sets new. -/
theorem StackAt.push2 {w2 wA w5 : World} {B : Nat} {a : Option Addr} {c : Nat} {l : List Fr} (h : StackAt w2 B a c l) (hA : Chg [] w2 wA) (y : Fr) (hs1 : SetIs wA y.bt y.f.tch) (hs2 : SetIs wA y.bi y.f.inv) (hb1 : w2.heap.size ≤ y.bt) (hb2 : w2.heap.size ≤ y.bi) (hne : y.bt ≠ y.bi) (hw : I64 y.f.rule ∧ I64 y.f.place)
    {a5 : Option Addr} {c5 : Nat} (hrow : w5.ownsRow 0 83 5 (.slice a5 (l.length + 1) c5) (l.length + 1) (frCells l ++ y.cells)) (hg : wA.grownBy w5 (Value.slice a l.length c).ownBlock)
    (hk : (Value.slice a5 (l.length + 1) c5).ownBlock = (Value.slice a l.length c).ownBlock ∨ (Value.slice a5 (l.length + 1) c5).ownBlock = some wA.heap.size) :
    StackAt (w5.setCell ⟨B, 1, none⟩ (.slice a5 (l.length + 1) c5)) B a5 c5 (l ++ [y]) ∧ Chg (fpS B a c l) w2 (w5.setCell ⟨B, 1, none⟩ (.slice a5 (l.length + 1) c5)) ∧ ∀ x ∈ fpS B a5 c5 (l ++ [y]), x ∈ fpS B a c l ∨ w2.heap.size ≤ x := by
  have hA' := h.chg0 hA
  have hcG : Chg (Value.slice a l.length c).ownBlock.toList wA w5 := (Chg.refl _ wA).grown hg (fun k hk => .inl (by rw [hk]; simp))
  have hB5 := grown_heap hg hA'.top h.topNeRow
  have hset := heap_setCell_same hB5 1 (.slice a5 (l.length + 1) c5)
  have hcS := (Chg.refl [B] w5).setCell (p := ⟨B, 1, none⟩) (.inl (by simp)) (.slice a5 (l.length + 1) c5)
  have hblk : ∀ x, (Value.slice a5 (l.length + 1) c5).ownBlock = some x → (Value.slice a l.length c).ownBlock = some x ∨ wA.heap.size ≤ x := fun x hx => by
    rcases hk with e | e
    · rw [e] at hx; exact .inl hx
    · rw [e] at hx; cases hx; exact .inr (Nat.le_refl _)
  have setK : ∀ {b : Nat} {T : List Int}, SetIs wA b T → SetIs (w5.setCell ⟨B, 1, none⟩ (.slice a5 (l.length + 1) c5)) b T := fun {b T} hs => by
    obtain ⟨es, cl, hbm⟩ := hs.map.block
    have h5 : SetIs w5 b T := hs.chg hcG (fun hm => by
      obtain ⟨_, _, cur, hcur⟩ := row_beyond hA'.row (by simpa using hm)
      rw [hbm] at hcur
      cases hcur)
    refine h5.chg hcS (fun hm => ?_)
    simp only [List.mem_singleton] at hm
    obtain ⟨es5, cl5, hb5⟩ := h5.map.block
    rw [hm, hB5] at hb5
    cases hb5
  refine ⟨⟨?_, ?_, fun x hx => ?_, ?_, fun x hx => ?_⟩, ?_, fun x hx => ?_⟩
  · simpa using hset
  · rw [List.length_append, frCells_append]
    have e : frCells [y] = y.cells := by simp [frCells]
    rw [e]
    exact hcS.rowOf hrow (fun k hk => by simp only [List.mem_singleton] at hk; subst hk; exact .of_cells hB5 (by decide))
  · rcases List.mem_append.1 hx with hx | hx
    · exact ⟨setK (hA'.sets x hx).1, setK (hA'.sets x hx).2⟩
    · simp only [List.mem_singleton] at hx
      subst hx
      exact ⟨setK hs1, setK hs2⟩
  · rw [mapsOf_append]
    refine List.nodup_append.2 ⟨h.apart, by simp [mapsOf, hne], fun x hx z hz e => ?_⟩
    have := h.mapLt hx
    simp [mapsOf] at hz
    rcases hz with rfl | rfl <;> omega
  · rcases List.mem_append.1 hx with hx | hx
    · exact h.wf x hx
    · simp only [List.mem_singleton] at hx
      subst hx
      exact hw
  · refine ((hA.any (S := fpS B a c l)).grown hg (fun k hk => .inl (by simp [fpS, hk]))).setCell (p := ⟨B, 1, none⟩) (.inl (by simp [fpS])) _
  · simp only [fpS, List.mem_cons, List.mem_append, Option.mem_toList, List.length_append, List.length_singleton, mapsOf_append] at hx ⊢
    have hsz := hA.size
    rcases hx with rfl | hx | hx | hx
    · exact .inl (.inl rfl)
    · rcases hblk x hx with h1 | h1
      · exact .inl (.inr (.inl h1))
      · exact .inr (by omega)
    · exact .inl (.inr (.inr hx))
    · simp [mapsOf] at hx
      rcases hx with rfl | rfl
      · exact .inr hb1
      · exact .inr hb2


def CloneP (w : World) (T : List Int) (e : Ending) (w' : World) : Prop := ∃ b1, e = .returned (.map (some b1)) ∧ w.heap.size ≤ b1 ∧ b1 < w'.heap.size ∧ SetIs w' b1 T ∧ Chg [] w w'
theorem cloneE_any (w : World) (b : Nat) (T : List Int) (h : SetIs w b T) : Calls Try.prog 53 #[.map (some b)] w (CloneP w T) :=
  (cloneSet_any w b T h).mono fun e w' h => ⟨w.heap.size, h.1, Nat.le_refl _, h.2.1.lt, h.2.1, h.2.2⟩

/-- A frame with sets of its own. -/
def ClonedF (wq : World) (F : Nat) (rule place : Int) (tch inv : List Int) (tnt : Bool) (wx : World) : Prop :=
  ∃ b1 b2, wx.heap[F]? = some (.cells #[.int .i64 rule, .int .i64 place, .map (some b1), .map (some b2), .bool tnt] 83 (0, 0)) ∧ SetIs wx b1 tch ∧ SetIs wx b2 inv ∧ wq.heap.size ≤ b1 ∧ wq.heap.size ≤ b2 ∧ b1 ≠ b2 ∧ Chg [] wq wx
theorem clonedF_of {wq wf wl : World} {F : Nat} {rule place : Int} {tch inv : List Int} {tnt : Bool} {m1 m2 : Value} {b1 b2 : Nat} (hq : Chg [] wq wf) (hF : F = wq.heap.size) (hc : Chg [] wf wl) (hb : wf.heap[F]? = some (.cells #[.int .i64 rule, .int .i64 place, m1, m2, .bool tnt] 83 (0, 0))) (h1 : SetIs wl b1 tch) (h2 : SetIs wl b2 inv) (g1 : wf.heap.size ≤ b1) (g2 : wf.heap.size ≤ b2) (hne : b1 ≠ b2) :
    ClonedF wq F rule place tch inv tnt ((wl.setCell ⟨F, 2, none⟩ (.map (some b1))).setCell ⟨F, 3, none⟩ (.map (some b2))) := by
  have hl := hc.heap hb (by simp)
  have hs := heap_setCell_same (heap_setCell_same hl 2 (.map (some b1))) 3 (.map (some b2))
  have hFl := lt_of_block hb
  have hcS : Chg [F] wl ((wl.setCell ⟨F, 2, none⟩ (.map (some b1))).setCell ⟨F, 3, none⟩ (.map (some b2))) := ((Chg.refl [F] wl).setCell (p := ⟨F, 2, none⟩) (.inl (by simp)) _).setCell (p := ⟨F, 3, none⟩) (.inl (by simp)) _
  refine ⟨b1, b2, by simpa using hs, h1.chg hcS (by simp only [List.mem_singleton]; omega), h2.chg hcS (by simp only [List.mem_singleton]; omega), by have := hq.size; omega, by have := hq.size; omega, hne, (hq.tr hc).trans hcS (fun j hj => .inr (by simp only [List.mem_singleton] at hj; omega))⟩

def CopyP (w : World) (s : List Fm) (e : Ending) (w' : World) : Prop :=
  ∃ B a c l, e = .returned (.pointer (some ⟨B, 0, none⟩)) ∧ StackAt w' B a c l ∧ fms l = s ∧ (∀ k ∈ fpS B a c l, w.heap.size ≤ k) ∧ Chg [] w w'
set_option maxRecDepth 100000 in
set_option maxHeartbeats 8000000 in
theorem copyS_any (w : World) (B : Nat) (a : Option Addr) (c : Nat) (l : List Fr) (h : StackAt w B a c l) (hl : l.length ≤ 1000000) :
    Calls Try.prog 30 #[.pointer (some ⟨B, 0, none⟩)] w (CopyP w (fms l)) := by
  obtain ⟨i1, hi1, hy0, hy1, hy2⟩ := info_parts Try.infoFrame
  obtain ⟨n, hn⟩ : ∃ n, n = l.length := ⟨_, rfl⟩
  obtain ⟨x0, x1⟩ := cells2 h.top
  have h1 := isS_any w B true x0
  obtain ⟨S0, hS0⟩ : ∃ z, z = w.heap.size := ⟨_, rfl⟩
  rw [← hn] at hl
  have HH := Lib.hid (And.intro h (And.intro hn hS0))
  clear h hn hS0 x0 x1
  go_enter Try.func30, Try.ntmps30
  go_wp2_with fail
  refine h1.mono ?_
  clear h1
  rintro e w1 ⟨rfl, hc1⟩
  have h2 := newS_any w1
  have H1 := Lib.hid hc1
  clear hc1
  go_wp2_with fail
  refine h2.mono ?_
  clear h2
  rintro e w2 ⟨rfl, hs2, hc2⟩
  obtain ⟨Bc, hBc⟩ : ∃ z, z = w1.heap.size := ⟨_, rfl⟩
  rw [← hBc] at hs2
  have hcw := H1.out.tr hc2
  obtain ⟨x0, x1⟩ := cells2 (HH.out.1.chg0 hcw).top
  rw [← HH.out.2.1] at x1
  have hBs : S0 ≤ Bc := by rw [HH.out.2.2, hBc]; exact H1.out.size
  have H2 := Lib.hid (And.intro hs2 (And.intro hcw hBc))
  clear hs2 hc2 hcw hBc x0
  go_wp2_with fail
  rw [← H2.out.2.2]
  clear x1
  go_loopg [15] n (fun dd iv wr => ∃ i : Nat, dd = n - i ∧ i ≤ n ∧ iv = .int .i64 i ∧ Hid (∃ a2 c2 l2, StackAt wr Bc a2 c2 l2 ∧ fms l2 = (fms l).take i ∧ (∀ k ∈ fpS Bc a2 c2 l2, S0 ≤ k) ∧ Chg [] w wr))
  case atStart => exact ⟨0, rfl, Nat.zero_le _, rfl, Lib.hid ⟨none, 0, [], H2.out.1, rfl, fun k hk => by simp [fpS, mapsOf, Value.ownBlock] at hk; omega, H2.out.2.1⟩⟩
  case round =>
    obtain ⟨i, rfl, hi, rfl, hI⟩ := hrel
    obtain ⟨wq, rfl⟩ : ∃ wq, wq = wr := ⟨_, rfl⟩
    by_cases hil : i < n
    · have hiL : i < l.length := by have := HH.out.2.1; omega
      obtain ⟨a2, c2, l2, hs2, hf2, hfp2, hcq⟩ := hI.out
      have hso := HH.out.1.chg0 hcq
      obtain ⟨G, eG, hc1, hc2', z0, z1, z2, z3, z4, -, hG, -⟩ := hso.at hiL
      subst eG
      rw [← HH.out.2.1] at hc1
      have hsets := hso.sets _ (List.getElem_mem hiL)
      have hwf := hso.wf _ (List.getElem_mem hiL)
      obtain ⟨y, hy⟩ : ∃ y, y = l[i] := ⟨_, rfl⟩
      rw [← hy] at z0 z1 z2 z3 z4 hsets hwf
      have HX : Hid (∃ h : i < l.length, y = l[i]) := Lib.hid ⟨hiL, hy⟩
      obtain ⟨⟨rule, place, tch, inv, tnt⟩, bt, bi⟩ := y
      simp only at z0 z1 z2 z3 z4 hsets hwf
      have hi1' : (i : Int) < n := by omega
      have hl2 : l2.length = i := by
        have := congrArg List.length hf2
        rw [fms_len, List.length_take, fms_len] at this
        omega
      have HQ := Lib.hid (And.intro hs2 (And.intro hf2 (And.intro hfp2 (And.intro hcq (And.intro hsets (And.intro hwf hl2))))))
      clear hiL hy hs2 hf2 hfp2 hcq hso hsets hwf hl2
      go_wp2_with fail
      have hcf := (Chg.refl [] wq).alloc (.cells #[.int .i64 rule, .int .i64 place, .map (some bt), .map (some bi), .bool tnt] 83)
      have hbf := heap_alloc_same wq (.cells #[.int .i64 rule, .int .i64 place, .map (some bt), .map (some bi), .bool tnt] 83)
      obtain ⟨F, hF⟩ : ∃ z, z = wq.heap.size := ⟨_, rfl⟩
      rw [← hF] at hbf ⊢
      obtain ⟨wf, ef⟩ : ∃ z, z = wq.alloc (.cells #[.int .i64 rule, .int .i64 place, .map (some bt), .map (some bi), .bool tnt] 83) := ⟨_, rfl⟩
      rw [← ef] at hcf hbf ⊢
      obtain ⟨r0, r1, r2, r3, r4⟩ := cellsL5 hbf
      have f2 := free_of_cells hbf 2
      have f3 := free_of_cells hbf 3
      have HF := Lib.hid (And.intro hcf (And.intro hbf hF))
      have HC := Lib.hid ((Chg.refl [] wf).drew)
      clear hcf hbf hF ef z0 z1 z2 z3 z4 r0 r1 r4
      go_cut [] from 16 to 37 (fun wx => ClonedF wq F rule place tch inv tnt wx)
      case first =>
        go_region_with (first | (go_at_call 53; refine (cloneE_any _ bt tch ((HQ.out.2.2.2.2.1.1.chg0 HF.out.1).chg0 HC.out)).mono ?_; rintro e wl ⟨b1, rfl, g1, g2, g3, g4⟩; have SA := Lib.hid g3; have HhA := Lib.hid g4; replace HC := Lib.hid (HC.out.tr g4); obtain ⟨-, -, r2, r3, -⟩ := cellsL5 (HC.out.heap HF.out.2.1 (by simp)); have f2 := free_of_cells (HC.out.heap HF.out.2.1 (by simp)) 2; have f3 := free_of_cells (HC.out.heap HF.out.2.1 (by simp)) 3; clear g3 g4) | (go_at_call 53; refine (cloneE_any _ bi inv ((HQ.out.2.2.2.2.1.2.chg0 HF.out.1).chg0 HC.out)).mono ?_; rintro e wl ⟨b2, rfl, g5, g6, g7, g8⟩; have SB := Lib.hid g7; have HhB := Lib.hid g8; replace HC := Lib.hid (HC.out.tr g8); obtain ⟨-, -, r2, r3, -⟩ := cellsL5 (HC.out.heap HF.out.2.1 (by simp)); have f2 := free_of_cells (HC.out.heap HF.out.2.1 (by simp)) 2; have f3 := free_of_cells (HC.out.heap HF.out.2.1 (by simp)) 3; clear g7 g8))
        all_goals (try go_wp2_with fail)
        all_goals go_meet
        all_goals exact clonedF_of HF.out.1 HF.out.2.2 HC.out HF.out.2.1 (by first | exact SA.out | exact SA.out.chg0 HhB.out) (by first | exact SB.out | exact SB.out.chg0 HhA.out) (by have : wf.drew.heap.size = wf.heap.size := rfl; omega) (by have : wf.drew.heap.size = wf.heap.size := rfl; omega) (by omega)
      case rest =>
        obtain ⟨b1, b2, hbF, hsA, hsB, g1, g2, hne, hcc⟩ := hcut
        have hs9 := HQ.out.1.chg0 hcc
        obtain ⟨x0, x1⟩ := cells2 hs9.top
        rw [HQ.out.2.2.2.2.2.2] at x1
        obtain ⟨r0, r1, r2, r3, r4⟩ := cellsL5 hbF
        have hcb := ((Chg.refl [] wc).alloc (.cells #[.int .i64 rule, .int .i64 place, .map (some b1), .map (some b2), .bool tnt] 83)).drew
        have hbn := heap_alloc_same wc (.cells #[.int .i64 rule, .int .i64 place, .map (some b1), .map (some b2), .bool tnt] 83)
        have hone : ∀ u ∈ ([.int .i64 rule, .int .i64 place, .map (some b1), .map (some b2), .bool tnt] : List Value), u.oneCell' = true := by simp [Value.oneCell']
        have h2' : i + 1 ≤ maxLen ∧ (i + 1) * 40 ≤ 140737488355328 := by simp only [maxLen]; omega
        have hrow := (hs9.chg0 hcb).row
        rw [HQ.out.2.2.2.2.2.2] at hrow
        have hneB : (Value.slice a2 i c2).ownBlock ≠ some Bc := ownsRow_ne hrow (hs9.chg0 hcb).top (by decide)
        have hBl := lt_of_block hs9.top
        have fB := free_of_cells hs9.top 1
        have HA := Lib.hid (And.intro hcb (And.intro (cells_at_drew hbn) (And.intro hone (And.intro h2' (And.intro hrow (And.intro hneB (And.intro hs9 (And.intro hsA (And.intro hsB (And.intro hne hcc))))))))))
        clear hbF hsA hsB hne hcc hs9 hcb hbn hone h2' hrow hneB x0 HC
        go_wp2_with fail
        go_region_law ((refine step_append_row rfl _ _ 76 rfl 83 i1 _ 5 40 Try.underlying76 hi1 hy0 hy1 hy2 rfl (by decide) (.slice a2 i c2) i (frCells l2) rfl HA.out.2.2.2.2.1 ⟨wc.heap.size, 0, none⟩ 1 1 [.int .i64 rule, .int .i64 place, .map (some b1), .map (some b2), .bool tnt] rfl rfl HA.out.2.1 HA.out.2.2.1 HA.out.2.2.2.1.1 HA.out.2.2.2.1.2 ?_; intro a5 c5 w5 hr5 hg5 hk5; have hB5 := grown_heap hg5 (HA.out.2.2.2.2.2.2.1.chg0 HA.out.1).top HA.out.2.2.2.2.2.1; have q5 := cell_of_cells hB5 1; have f5 := free_of_cells hB5 1; simp only [List.getElem?_toArray, List.getElem?_cons_succ, List.getElem?_cons_zero] at q5; have HX5 := Lib.hid (And.intro hr5 (And.intro hg5 hk5)); clear hr5 hg5 hk5 hB5))
        all_goals
          have hpush := HQ.out.1.push2 (HA.out.2.2.2.2.2.2.2.2.2.2.tr HA.out.1) ⟨⟨rule, place, tch, inv, tnt⟩, b1, b2⟩ (HA.out.2.2.2.2.2.2.2.1.chg0 HA.out.1) (HA.out.2.2.2.2.2.2.2.2.1.chg0 HA.out.1) g1 g2 HA.out.2.2.2.2.2.2.2.2.2.1 HQ.out.2.2.2.2.2.1 (w5 := w5) (a5 := a5) (c5 := c5) (by rw [HQ.out.2.2.2.2.2.2]; exact HX5.out.1) (by rw [HQ.out.2.2.2.2.2.2]; exact HX5.out.2.1) (by rw [HQ.out.2.2.2.2.2.2]; exact HX5.out.2.2)
          rw [HQ.out.2.2.2.2.2.2] at hpush
          obtain ⟨w6, e6⟩ : ∃ w6, w6 = w5.setCell ⟨Bc, 1, none⟩ (.slice a5 (i + 1) c5) := ⟨_, rfl⟩
          rw [← e6] at hpush ⊢
          have HP := Lib.hid hpush
          clear hpush e6 q5 f5
          go_wp2_with fail
          go_roundg (n - (i + 1))
          case measure => omega
          case rel =>
            obtain ⟨hiL, hyy⟩ := HX.out
            refine ⟨i + 1, rfl, by omega, by go_num, Lib.hid ⟨a5, c5, _, HP.out.1, ?_, fun k hk => ?_, HQ.out.2.2.2.1.trans HP.out.2.1 (fun j hj => .inr ?_)⟩⟩
            · rw [List.take_succ_eq_append_getElem (by rw [fms_len]; exact hiL), fms_get l hiL, ← hyy, ← HQ.out.2.1]
              simp [fms]
            · rcases HP.out.2.2 k hk with h | h
              · exact HQ.out.2.2.1 k h
              · have := HQ.out.2.2.2.1.size; have := HH.out.2.2; omega
            · have := HQ.out.2.2.1 j hj; have := HH.out.2.2; omega
    · obtain rfl : i = n := by omega
      obtain ⟨a2, c2, l2, hs2, hf2, hfp2, hcq⟩ := hI.out
      have HE := Lib.hid (And.intro hs2 (And.intro hf2 (And.intro hfp2 hcq)))
      clear hs2 hf2 hfp2 hcq
      go_wp2_with fail
      go_ret
      refine ⟨Bc, a2, c2, l2, rfl, HE.out.1, ?_, ?_, HE.out.2.2.2⟩
      · rw [HE.out.2.1, List.take_of_length_le (by rw [fms_len, ← HH.out.2.1]; exact Nat.le_refl _)]
      · rw [← HH.out.2.2]; exact HE.out.2.2.1
end Go.Proofs.Ytnajhcoimohcaaa

/-
 The document's Right, Size, Height, Owner: the walks; they are the program's.
 Conditions: the grammar reads as data (GramAt); its lists are within the reach.
-/
import Derived.Test.YtlklmpjakeedcaaGreatDoorSEnGAft
import Derived.Test.YtlklmpjakeedcaaGreatDoorSEnNuB
import Derived.Test.YtlklmpjakeedcaaGreatDoorSEnRf1
import Derived.Test.YtlklmpjakeedcaaGreatDoorSEnAp0
import Derived.Test.YtlklmpjakeedcaaGreatDoorSEnGAny2
set_option linter.unusedVariables false
set_option linter.unusedSimpArgs false
namespace Go.Proofs.YtlklmpjakeedcaaGreatDoor
open Go.RowKit Go.MapKept Go.Shelf

theorem chain_at {g : Gr} {k x : Nat} (hk : k < g.rules.length) : chain g (g.rules.drop k) k x = if nameB g.rules[k].name && decide (ruleI g.rules g.rules[k].name = (k : Int)) && decide (g.rules[k].body = (x : Int)) then
   (match aft g.nodes 16 x with | none => none | some (to, _) => chain g (g.rules.drop (k + 1)) (k + 1) to) else none := by
 rw [List.drop_eq_getElem_cons hk]
 rfl
theorem right_of {g : Gr} (hs : sizesB g = true) (ha : allB g = true) {o : Option Nat} (hc : chain g g.rules 0 0 = o) : rightB g = (o == some g.nodes.length) := by
 unfold rightB
 rw [hs, ha, hc]
 simp

set_option maxRecDepth 100000 in
set_option maxHeartbeats 8000000 in
theorem refRight_any (w : World) (a1 : Option Addr) (n1 c1 : Nat) (a2 : Option Addr) (n2 c2 : Nat) (g : Gr) (hg : GramAt w a1 n1 c1 a2 n2 c2 g) :
  Calls Tryz.prog 114 #[.agg #[.slice a1 n1 c1, .slice a2 n2 c2]] w fun e w' => e = .returned (.bool (rightB g)) ∧ Chg [] w w' := by
 obtain ⟨hs1, hs2⟩ := hg.small
 have HG := Lib.hid hg
 by_cases hsz : 1 ≤ n1 ∧ n1 ≤ 32 ∧ n2 ≤ 2048
 ·obtain ⟨z1, z2, z3⟩ := hsz
  have HS : Hid (sizesB g = true) := Lib.hid (by unfold sizesB; rw [← hg.e1, ← hg.e2]; simp [z1, z2, z3])
  clear hg
  have k0 : decide ((n1 : Int) < 1) = false := by simp; omega
  have k1 : decide (32 < (n1 : Int)) = false := by simp; omega
  have k2 : decide (2048 < (n2 : Int)) = false := by simp; omega
  obtain ⟨R, hR⟩ : ∃ R, R = rightB g := ⟨_, rfl⟩
  rw [← hR]
  have HR := Lib.hid hR
  clear hR
  go_enter Tryz.func114, Tryz.ntmps114
  go_wp2_with fail
  have HB := Lib.hid (GrBox.new w a1 n1 c1 a2 n2 c2)
  go_loopg [3] n2 (fun d iv wr => ∃ i : Nat, d = n2 - i ∧ i ≤ n2 ∧ iv = .int .i64 i ∧ Hid (GrBox w w.heap.size a1 n1 c1 a2 n2 c2 wr ∧ ∀ j (hj : j < g.nodes.length), j < i → nodeB g.nodes[j] (n1 : Int) = true))
  case atStart => exact ⟨0, rfl, Nat.zero_le _, rfl, Lib.hid ⟨HB.out, fun j _ h => by omega⟩⟩
  case round =>
   obtain ⟨i, rfl, hi, rfl, HI⟩ := hrel
   obtain ⟨wq, rfl⟩ : ∃ wq : World, wq = wr := ⟨_, rfl⟩
   obtain ⟨x0, x1⟩ := cells2 HI.out.1.box
   have hl := lt_of_block HI.out.1.box
   by_cases hlt : i < n2
   ·have hil : i < g.nodes.length := by have := HG.out.e2; omega
    obtain ⟨b, o, ak, nk, ck, rfl, hx2⟩ := (HG.out.nodes.keep HI.out.1.ch.kp) i hil
    have hnb : nodeB g.nodes[i] (n1 : Int) = true ∨ nodeB g.nodes[i] (n1 : Int) = false := by cases nodeB g.nodes[i] (n1 : Int) <;> simp
    have hnext : nodeB g.nodes[i] (n1 : Int) = true → ∀ j (hj : j < g.nodes.length), j < i + 1 → nodeB g.nodes[j] (n1 : Int) = true := by
     intro h j hj hji
     by_cases e : j = i
     ·subst e; exact h
     ·exact HI.out.2 j hj (by omega)
    have hbad : nodeB g.nodes[i] (n1 : Int) = false → R = false := by
     intro h
     have : allB g = false := by
      unfold allB
      rw [List.all_eq_false]
      exact ⟨_, List.getElem_mem hil, by rw [← HG.out.e1, h]; simp⟩
     rw [HR.out]
     unfold rightB
     rw [this]
     simp
    have HN := Lib.hid (And.intro hnext hbad)
    clear hnext hbad
    obtain ⟨bn, hbn⟩ : ∃ bn, bn = nodeB g.nodes[i] (n1 : Int) := ⟨_, rfl⟩
    have HBN := Lib.hid hbn
    rw [← hbn] at hnb
    obtain ⟨xn, hxn⟩ : ∃ xn, xn = g.nodes[i] := ⟨_, rfl⟩
    rw [← hxn] at hx2 hbn
    clear hxn
    obtain ⟨xk, xc0, xc1, xc2, xc3, xs, xr, xl, xkids⟩ := xn
    obtain ⟨v0, v1, v2, v3, v4, v5, v6, v7, v8, l1, l2, l3, l4⟩ := hx2
    have hb8 := World.block_lt_of_cell? _ _ v8
    simp only at hb8
    unfold nodeB at hbn
    dsimp only at v0 v1 v2 v3 v4 v5 v6 v7 v8 l1 hbn
    rw [← l1] at hbn
    clear l1 l2 l3 l4
    have cN := calls_rg (w := wq) (fun w1 h1 => refNode_any w1 xk xc0 xc1 xc2 xc3 xr xl n1 xs ak nk ck)
    rw [← hbn] at cN
    clear hbn
    have kx0 := cell_rg x0
    have kx1 := cell_rg x1
    have kv0 := cell_rg v0
    have kv1 := cell_rg v1
    have kv2 := cell_rg v2
    have kv3 := cell_rg v3
    have kv4 := cell_rg v4
    have kv5 := cell_rg v5
    have kv6 := cell_rg v6
    have kv7 := cell_rg v7
    have kv8 := cell_rg v8
    have qn0 : (0 : Int) ≤ (i : Int) := by omega
    have qn1 : (i : Int) < (n2 : Int) := by omega
    go_wp2_with fail
    refine wp_region_quiet_below (by kernel_rfl) (by kernel_rfl) ?_
    repeat (go_big_quiet_step (with_reducible exact cN _ _))
    refine wpQuiet_nil ?_
    intro w4 hw4
    have HR4 := Lib.hid (HI.out.1.keep (chg_of_rg hw4))
    clear hw4 kx0 kx1 kv0 kv1 kv2 kv3 kv4 kv5 kv6 kv7 kv8 cN x0 x1 hl v0 v1 v2 v3 v4 v5 v6 v7 v8
    rcases hnb with hb | hb
    ·subst hb
     have hn := HN.out.1 HBN.out.symm
     have HN2 := Lib.hid hn
     clear hn
     go_wp2
     go_roundg (n2 - (i + 1))
     case measure => omega
     case rel => exact ⟨i + 1, rfl, by omega, by go_num, Lib.hid ⟨HR4.out, HN2.out⟩⟩
    ·subst hb
     have hn := HN.out.2 HBN.out.symm
     subst hn
     go_wp2
     go_ret
     exact ⟨rfl, HR4.out.ch⟩
   ·obtain rfl : i = n2 := by omega
    have hall : allB g = true := by
     unfold allB
     rw [List.all_eq_true]
     intro x hx
     obtain ⟨j, hj, rfl⟩ := List.mem_iff_getElem.1 hx
     rw [← HG.out.e1]
     exact HI.out.2 j hj (by have := HG.out.e2; omega)
    have HA := Lib.hid hall
    clear hall
    go_wp2_with fail
    go_loopg [5, 4] n1 (fun d kv xv wr => ∃ k x : Nat, d = n1 - k ∧ k ≤ n1 ∧ kv = .int .i64 k ∧ xv = .int .i64 x ∧ x ≤ i ∧ Hid (GrBox w w.heap.size a1 n1 c1 a2 i c2 wr ∧ chain g g.rules 0 0 = chain g (g.rules.drop k) k x))
    case atStart => exact ⟨0, 0, rfl, Nat.zero_le _, rfl, rfl, Nat.zero_le _, Lib.hid ⟨HI.out.1, by simp⟩⟩
    case round =>
     obtain ⟨k, x, rfl, hk, rfl, rfl, hx, HK⟩ := hrel
     obtain ⟨wp, rfl⟩ : ∃ wp : World, wp = wr := ⟨_, rfl⟩
     clear x0 x1 hl
     obtain ⟨x0, x1⟩ := cells2 HK.out.1.box
     have hl := lt_of_block HK.out.1.box
     by_cases hlt : k < n1
     ·have hkl : k < g.rules.length := by have := HG.out.e1; omega
      obtain ⟨b, o, rfl, r0, r1⟩ := (HG.out.rules.keep HK.out.1.ch.kp) k hkl
      have hbr := World.block_lt_of_cell? _ _ r0
      simp only at hbr
      have hnm := HG.out.wf.names _ (List.getElem_mem hkl)
      have hch := (chain_at (g := g) (x := x) hkl)
      obtain ⟨r, hr⟩ : ∃ r, r = g.rules[k] := ⟨_, rfl⟩
      rw [← hr] at r0 r1 hnm hch
      clear hr
      obtain ⟨nm, bd⟩ := r
      dsimp only at r0 r1 hnm hch
      have HC := Lib.hid hch
      clear hch
      have hfail : chain g (g.rules.drop k) k x = none → R = false := by
       intro h
       rw [HR.out, right_of HS.out HA.out (HK.out.2.trans h)]
       rfl
      have HF := Lib.hid hfail
      clear hfail
      have cN := calls_rg (w := wp) (fun w1 h1 => refName_any nm w1 hnm)
      have cR := calls_rg (w := wp) (fun w1 h1 => refRule_any w1 _ n1 c1 a2 i c2 g.rules nm HG.out.e1 hs1 (HG.out.rules.keep (HK.out.1.ch.tr h1).kp))
      obtain ⟨A, hA⟩ : ∃ A, A = nameB nm := ⟨_, rfl⟩
      obtain ⟨I, hI⟩ : ∃ I, I = ruleI g.rules nm := ⟨_, rfl⟩
      rw [← hA] at cN
      rw [← hI] at cR
      have HAI := Lib.hid (And.intro hA hI)
      clear hA hI hnm
      have kx0 := cell_rg x0
      have kx1 := cell_rg x1
      have kr0 := cell_rg r0
      have kr1 := cell_rg r1
      have qk0 : (0 : Int) ≤ (k : Int) := by omega
      have qk1 : (k : Int) < (n1 : Int) := by omega
      have hcs : A = false ∨ (A = true ∧ (I != (k : Int)) = true) ∨ (A = true ∧ (I != (k : Int)) = false ∧ (bd != (x : Int)) = true) ∨ (A = true ∧ (I != (k : Int)) = false ∧ (bd != (x : Int)) = false) := by
       cases A <;> simp; by_cases h1 : I = (k : Int) <;> by_cases h2 : bd = (x : Int) <;> simp [h1, h2]
      rcases hcs with rfl | ⟨rfl, q1⟩ | ⟨rfl, q1, q2⟩ | ⟨rfl, q1, q2⟩
      ·have hRf := HF.out (by rw [HC.out, ← HAI.out.1]; simp)
       subst hRf
       go_wp2_with fail
       refine wp_region_quiet_below (by kernel_rfl) (by kernel_rfl) ?_
       repeat (go_big_quiet_step (first | (with_reducible exact cN _ _) | (with_reducible exact cR _ _)))
       refine wpQuiet_nil ?_
       intro w4 hw4
       have HR4 := Lib.hid (HK.out.1.keep (chg_of_rg hw4))
       clear hw4
       go_wp2
       go_ret
       exact ⟨rfl, HR4.out.ch⟩
      ·have hRf := HF.out (by rw [HC.out, ← HAI.out.2]; simp at q1; simp [q1])
       subst hRf
       go_wp2_with fail
       refine wp_region_quiet_below (by kernel_rfl) (by kernel_rfl) ?_
       repeat (go_big_quiet_step (first | (with_reducible exact cN _ _) | (with_reducible exact cR _ _)))
       refine wpQuiet_nil ?_
       intro w4 hw4
       have HR4 := Lib.hid (HK.out.1.keep (chg_of_rg hw4))
       clear hw4
       go_wp2
       go_ret
       exact ⟨rfl, HR4.out.ch⟩
      ·have hRf := HF.out (by rw [HC.out]; simp at q2; simp [q2])
       subst hRf
       go_wp2_with fail
       refine wp_region_quiet_below (by kernel_rfl) (by kernel_rfl) ?_
       repeat (go_big_quiet_step (first | (with_reducible exact cN _ _) | (with_reducible exact cR _ _)))
       refine wpQuiet_nil ?_
       intro w4 hw4
       have HR4 := Lib.hid (HK.out.1.keep (chg_of_rg hw4))
       clear hw4
       go_wp2
       go_ret
       exact ⟨rfl, HR4.out.ch⟩
      ·go_wp2_with fail
       refine wp_region_quiet_below (by kernel_rfl) (by kernel_rfl) ?_
       repeat (go_big_quiet_step (first | (with_reducible exact cN _ _) | (with_reducible exact cR _ _)))
       refine wpQuiet_nil ?_
       intro w4 hw4
       have HR4 := Lib.hid (HK.out.1.keep (chg_of_rg hw4))
       have hch2 : chain g (g.rules.drop k) k x = (match aft g.nodes 16 x with | none => none | some (to, _) => chain g (g.rules.drop (k + 1)) (k + 1) to) := by
        have e1 : I = (k : Int) := by simpa using q1
        have e2 : bd = (x : Int) := by simpa using q2
        rw [HC.out, ← HAI.out.1, ← HAI.out.2, e1, e2]
        simp
       have HC2 := Lib.hid hch2
       clear hw4 kx0 kx1 kr0 kr1 cN cR x0 x1 hl r0 r1 hch2 q1 q2
       obtain ⟨x0, x1⟩ := cells2 HR4.out.box
       have hl := lt_of_block HR4.out.box
       go_wp2_with fail
       refine (after_any _ n1 c1 a2 i c2 g (by omega) 16 x _ (HG.out.keep HR4.out.ch.kp) (by decide) (by omega)).mono ?_
       rintro e w5 ⟨rfl, hc⟩
       have HR5 := Lib.hid (HR4.out.keep hc)
       clear hc x0 x1 hl
       cases hax : aft g.nodes 16 x with
       | none =>
        have hRf := HF.out (by rw [HC2.out, hax])
        subst hRf
        clear hax
        simp only [aftI]
        go_wp2_with fail
        go_ret
        exact ⟨rfl, HR5.out.ch⟩
       | some p =>
        obtain ⟨to, h⟩ := p
        have h1 := (aft_cover hax).1
        have hto : to ≤ i := by have := HG.out.e2; omega
        have hstep : chain g g.rules 0 0 = chain g (g.rules.drop (k + 1)) (k + 1) to := by rw [HK.out.2, HC2.out, hax]
        have HS2 := Lib.hid hstep
        clear hax hstep
        simp only [aftI]
        go_wp2_with fail
        go_roundg (n1 - (k + 1))
        case measure => omega
        case rel => exact ⟨k + 1, to, rfl, by omega, by go_num, rfl, hto, Lib.hid ⟨HR5.out, HS2.out⟩⟩
     ·obtain rfl : k = n1 := by omega
      have hRv : R = ((x : Int) == (i : Int)) := by
       have hc : chain g g.rules 0 0 = some x := by
        rw [HK.out.2, HG.out.e1, List.drop_length]
        rfl
       rw [HR.out, right_of HS.out HA.out hc, ← HG.out.e2, Bool.eq_iff_iff]
       simp
       omega
      subst hRv
      go_wp2
      go_ret
      exact ⟨rfl, HK.out.1.ch⟩
 ·have hnone : rightB g = false := by
   have : sizesB g = false := by unfold sizesB; rw [← hg.e1, ← hg.e2]; simp; omega
   unfold rightB
   rw [this]
   simp
  rw [hnone]
  clear hnone hg
  have hcs : decide ((n1 : Int) < 1) = true ∨ (decide ((n1 : Int) < 1) = false ∧ decide (32 < (n1 : Int)) = true) ∨ (decide ((n1 : Int) < 1) = false ∧ decide (32 < (n1 : Int)) = false ∧ decide (2048 < (n2 : Int)) = true) := by
   simp; omega
  clear hsz
  rcases hcs with k0 | ⟨k0, k1⟩ | ⟨k0, k1, k2⟩
  all_goals
   go_enter Tryz.func114, Tryz.ntmps114
   go_wp2_with fail
   go_ret
   exact ⟨rfl, (Chg.refl _ _).alloc _⟩
end Go.Proofs.YtlklmpjakeedcaaGreatDoor
set_option linter.unusedVariables false
set_option linter.unusedSimpArgs false
set_option linter.unnecessarySimpa false
namespace Go.Proofs.YtlklmpjakeedcaaGreatDoor
open Go.RowKit Go.MapKept Go.Shelf

/-- Ranks in the round behind the j-th, the first i rules gone through. -/
def rkAt (g : Gr) (j i : Nat) : List Int := (List.range g.rules.length).map fun (q : Nat) => ((if q < i then rk g (j + 1) q else rk g j q : Nat) : Int)
theorem rkAt_len (g : Gr) (j i : Nat) : (rkAt g j i).length = g.rules.length := by simp [rkAt]
theorem rkAt_get (g : Gr) (j i : Nat) {q : Nat} (hq : q < g.rules.length) : (rkAt g j i)[q]? = some (((if q < i then rk g (j + 1) q else rk g j q : Nat) : Int)) := by simp [rkAt, hq]
theorem rkAt_calls (g : Gr) (j i : Nat) : callsB (rkAt g j i) ((j : Int) + 1) = callsR g j := by
 funext q
 unfold callsB callsR
 by_cases hq : 0 ≤ q
 ·rw [decide_eq_true hq, Bool.true_and, Bool.true_and]
  by_cases hl : q.toNat < g.rules.length
  ·rw [rkAt_get g j i hl]
   simp only
   have hle := rk_le g j q.toNat
   split
   ·rw [rk_step g j hl]
    split
    ·rename_i h
     rw [h.1]
     simp
    ·rw [Bool.eq_iff_iff]
     simp only [Bool.and_eq_true, decide_eq_true_eq]
     omega
   ·rw [Bool.eq_iff_iff]
    simp only [Bool.and_eq_true, decide_eq_true_eq]
    omega
  ·rw [rk_out g j (by omega)]
   have : (rkAt g j i)[q.toNat]? = none := by rw [List.getElem?_eq_none_iff, rkAt_len]; omega
   rw [this]
   rfl
 ·rw [decide_eq_false hq]; rfl
theorem rkAt_next (g : Gr) (j : Nat) : rkAt g j g.rules.length = rkAt g (j + 1) 0 := by
 unfold rkAt
 refine List.map_congr_left fun q hq => ?_
 rw [if_pos (List.mem_range.1 hq), if_neg (Nat.not_lt_zero _)]
theorem rkAt_skip (g : Gr) (j i : Nat) (h : rk g (j + 1) i = rk g j i) : rkAt g j (i + 1) = rkAt g j i := by
 unfold rkAt
 refine List.map_congr_left fun q hq => ?_
 by_cases e : q = i
 ·subst e; rw [if_pos (by omega), if_neg (by omega), h]
 ·by_cases e2 : q < i
  ·rw [if_pos (by omega), if_pos e2]
  ·rw [if_neg (by omega), if_neg e2]
theorem rkAt_put (g : Gr) (j i : Nat) (hi : i < g.rules.length) (h : rk g (j + 1) i = j + 1) : rkAt g j (i + 1) = (rkAt g j i).set i ((j : Int) + 1) := by
 apply List.ext_getElem
 ·rw [List.length_set, rkAt_len, rkAt_len]
 ·intro q h1 h2
  rw [List.getElem_set]
  simp only [rkAt, List.getElem_map, List.getElem_range]
  by_cases e : i = q
  ·subst e; rw [if_pos (by omega), if_pos rfl, h]; rfl
  ·rw [if_neg e]
   by_cases e2 : q < i
   ·rw [if_pos (by omega), if_pos e2]
   ·rw [if_neg (by omega), if_neg e2]

set_option maxRecDepth 100000 in
set_option maxHeartbeats 16000000 in
theorem refRanks_any (w : World) (a1 : Option Addr) (n1 c1 : Nat) (a2 : Option Addr) (n2 c2 : Nat) (g : Gr) (hg : GramAt w a1 n1 c1 a2 n2 c2 g) (hr : rightB g = true) :
  Calls Tryz.prog 115 #[.agg #[.slice a1 n1 c1, .slice a2 n2 c2]] w (ClonedInts w (ranksL g g.rules.length)) := by
 have hn32 : n1 ≤ 32 := by have := (right_sizes hr).2.1; have := hg.e1; omega
 have hmk := run_zeros n1 (by omega)
 have H := Lib.hid (And.intro hg (And.intro hr hg.e1))
 clear hg hr
 go_enter Tryz.func115, Tryz.ntmps115
 go_wp2_with fail
 obtain ⟨B, hB⟩ : ∃ B, B = w.heap.size + 1 := ⟨_, rfl⟩
 have h0 : ((w.alloc (.cells #[.slice a1 n1 c1, .slice a2 n2 c2] 31)).alloc (rowOf n1 (List.replicate n1 0))).ownsRow w.heap.size 3 1 (.slice (some ⟨B, 0, none⟩) n1 n1) n1 ((rkAt g 0 0).map (Value.int .i64)) := by
  have he := H.out.2.2
  have e1 : rkAt g 0 0 = List.replicate n1 0 := by
   apply List.ext_getElem
   ·rw [rkAt_len, List.length_replicate, he]
   ·intro q h1 h2
    simp [rkAt, rk]
  have h2 := heap_alloc_same (w.alloc (.cells #[.slice a1 n1 c1, .slice a2 n2 c2] 31)) (rowOf n1 (List.replicate n1 0))
  rw [World.size_alloc, ← hB] at h2
  rw [e1]
  exact ⟨by simp, .inr ⟨B, n1, _, rfl, by omega, h2, Nat.le_refl _, by simp only [maxLen]; omega, by simp, by simp⟩⟩
 have hb0 : ((w.alloc (.cells #[.slice a1 n1 c1, .slice a2 n2 c2] 31)).alloc (rowOf n1 (List.replicate n1 0))).heap[w.heap.size]? = some (.cells #[.slice a1 n1 c1, .slice a2 n2 c2] 31 (0, 0)) := heap_alloc_lt (heap_alloc_same _ _) _
 have hc0 : Chg [] w ((w.alloc (.cells #[.slice a1 n1 c1, .slice a2 n2 c2] 31)).alloc (rowOf n1 (List.replicate n1 0))) := ((Chg.refl [] w).alloc _).alloc _
 obtain ⟨w0, e0⟩ : ∃ w0, w0 = ((w.alloc (.cells #[.slice a1 n1 c1, .slice a2 n2 c2] 31)).alloc (rowOf n1 (List.replicate n1 0))) := ⟨_, rfl⟩
 rw [← e0] at h0 hb0 hc0 ⊢
 rw [← hB]
 have H0 := Lib.hid (And.intro h0 (And.intro hb0 (And.intro hc0 hB)))
 clear e0 h0 hb0 hc0 hB hmk
 go_loopg [4] n1 (fun dd iv wr => ∃ j : Nat, dd = n1 - j ∧ j ≤ n1 ∧ iv = .int .i64 ((j : Int) + 1) ∧ Hid (wr.ownsRow w.heap.size 3 1 (.slice (some ⟨B, 0, none⟩) n1 n1) n1 ((rkAt g j 0).map (Value.int .i64)) ∧ wr.heap[w.heap.size]? = some (.cells #[.slice a1 n1 c1, .slice a2 n2 c2] 31 (0, 0)) ∧ Chg [] w wr))
 case atStart => exact ⟨0, rfl, Nat.zero_le _, rfl, Lib.hid ⟨H0.out.1, H0.out.2.1, H0.out.2.2.1⟩⟩
 case round =>
  obtain ⟨j, rfl, hj, rfl, hin⟩ := hrel
  obtain ⟨wq, rfl⟩ : ∃ wq, wq = wr := ⟨_, rfl⟩
  obtain ⟨x0, x1⟩ := cells2 hin.out.2.1
  by_cases hjl : j < n1
  ·go_wp2_with fail
   rw [show decide ((j : Int) + 1 ≤ n1) = true from decide_eq_true (by omega)]
   clear x0 x1
   go_loopg [5] n1 (fun dd iv wr => ∃ i : Nat, dd = n1 - i ∧ i ≤ n1 ∧ iv = .int .i64 i ∧ Hid (wr.ownsRow w.heap.size 3 1 (.slice (some ⟨B, 0, none⟩) n1 n1) n1 ((rkAt g j i).map (Value.int .i64)) ∧ wr.heap[w.heap.size]? = some (.cells #[.slice a1 n1 c1, .slice a2 n2 c2] 31 (0, 0)) ∧ Chg [] w wr))
   case atStart => exact ⟨0, rfl, Nat.zero_le _, rfl, hin⟩
   case round =>
    obtain ⟨i, rfl, hi, rfl, hin2⟩ := hrel
    obtain ⟨wr, rfl⟩ : ∃ wz, wz = wr := ⟨_, rfl⟩
    obtain ⟨x0, x1⟩ := cells2 hin2.out.2.1
    by_cases hil : i < n1
    ·have hig : i < g.rules.length := by rw [← H.out.2.2]; exact hil
     obtain ⟨hc, hf, -, -, hput⟩ := row_put hin2.out.1 (i := i) (by omega)
     rw [List.getElem?_map, rkAt_get g j i hig, if_neg (Nat.lt_irrefl _), Option.map_some] at hc
     have HP := Lib.hid (And.intro hput hig)
     clear hput
     obtain ⟨bR, oR, rfl, hn, hbd⟩ := (H.out.1.keep hin2.out.2.2.kp).rules i hig
     have kx0 := cell_rg x0
     have kx1 := cell_rg x1
     have kc := cell_rg hc
     have kb := cell_rg hbd
     have hi1 : (i : Int) < n1 := by omega
     have hlc := (H.out.1).le1
     have hi2 : (i : Int) < c1 := by omega
     by_cases hz : rk g j i = 0
     ·obtain ⟨q, hq, hqn⟩ := right_body H.out.2.1 hig
      have hmay : mayN g.nodes (callsB (rkAt g j i) ((j : Int) + 1)) q = mayR g j g.rules[i].body := by rw [rkAt_calls, hq]; rfl
      have cA := calls_rg (w := wr) (fun w1 h1 => refMay_any (some ⟨bR, oR, none⟩) n1 c1 a2 n2 c2 g H.out.2.1 (some ⟨B, 0, none⟩) n1 n1 (rkAt g j i) (rkAt_len g j i) (by rw [rkAt_len]; exact H.out.2.2) ((j : Int) + 1) g.nodes.length q (by omega) hqn w1 (H.out.1.keep (hin2.out.2.2.tr h1).kp) (by
       have h9 : OwnInts wr (.slice (some ⟨B, 0, none⟩) n1 n1) (rkAt g j i) := by
        unfold OwnInts
        rw [rkAt_len, ← H.out.2.2]
        exact row_base hin2.out.1 (Nat.zero_le _)
       exact (ownInts_read h9).1.keep h1.kp))
      rw [hmay] at cA
      rw [hq] at kb
      rw [hz] at kc hc
      obtain ⟨fv, hfv⟩ : ∃ fv, fv = mayR g j g.rules[i].body := ⟨_, rfl⟩
      rw [← hfv] at cA
      have HK := Lib.hid (And.intro hfv hz)
      clear hfv hz hq hmay hqn hn hbd
      cases fv with
      | true =>
       go_wp2_with fail
       refine wp_region_quiet_below (by kernel_rfl) (by kernel_rfl) ?_
       repeat (go_big_quiet_step (with_reducible exact cA _ _))
       refine wpQuiet_nil ?_
       intro w7 hw7
       have hc7 := chg_of_rg hw7
       have hc9 := hc7.cell hc (by simp)
       obtain ⟨-, hf9, -, -, hput⟩ := row_put (hc7.row hin2.out.1 (fun _ _ => by simp)) (i := i) (by omega)
       have HW := Lib.hid (And.intro (hput (.int .i64 ((j : Int) + 1))) (And.intro (hc7.heap hin2.out.2.1 (by simp)) (hin2.out.2.2.tr hc7)))
       clear hw7 hc7 cA kx0 kx1 kc kb hc hf hput x0 x1
       go_wp2_with fail
       go_roundg (n1 - (i + 1))
       case measure => omega
       case rel =>
        obtain ⟨⟨p1, p2⟩, p3, p4⟩ := HW.out
        refine ⟨i + 1, rfl, by omega, by go_num, Lib.hid ⟨?_, p2.heap p3 (by have := H0.out.2.2.2; simp; omega), p4.trans p2 (fun y hy => .inr (by have := H0.out.2.2.2; simp at hy; omega))⟩⟩
        rw [rkAt_put g j i HP.out.2 (by rw [rk_step g j HP.out.2, if_pos ⟨HK.out.2, HK.out.1.symm⟩]), List.map_set]
        exact p1
      | false =>
       go_wp2_with fail
       refine wp_region_quiet_below (by kernel_rfl) (by kernel_rfl) ?_
       repeat (go_big_quiet_step (with_reducible exact cA _ _))
       refine wpQuiet_nil ?_
       intro w7 hw7
       have hc7 := chg_of_rg hw7
       have HW := Lib.hid (And.intro (hc7.row hin2.out.1 (fun _ _ => by simp)) (And.intro (hc7.heap hin2.out.2.1 (by simp)) (hin2.out.2.2.tr hc7)))
       clear hw7 hc7 cA kx0 kx1 kc kb hc hf x0 x1
       go_wp2_with fail
       go_roundg (n1 - (i + 1))
       case measure => omega
       case rel =>
        refine ⟨i + 1, rfl, by omega, by go_num, Lib.hid ⟨?_, HW.out.2.1, HW.out.2.2⟩⟩
        rw [rkAt_skip g j i (by rw [rk_step g j HP.out.2, if_neg (fun h => by rw [← HK.out.1] at h; exact absurd h.2 (by simp))])]
        exact HW.out.1
     ·obtain ⟨z, hzz⟩ : ∃ z : Nat, z = rk g j i := ⟨_, rfl⟩
      rw [← hzz] at kc hc hz
      have hz1 : ¬ ((z : Int) = 0) := by omega
      have HK := Lib.hid (And.intro hzz hz)
      have hd : ((z : Int) == 0) = false := by simp; exact hz
      clear hzz hz hn
      go_wp2_with fail
      refine wp_region_quiet_below (by kernel_rfl) (by kernel_rfl) ?_
      repeat (go_big_quiet_step (fail))
      refine wpQuiet_nil ?_
      intro w7 hw7
      have hc7 := chg_of_rg hw7
      have HW := Lib.hid (And.intro (hc7.row hin2.out.1 (fun _ _ => by simp)) (And.intro (hc7.heap hin2.out.2.1 (by simp)) (hin2.out.2.2.tr hc7)))
      clear hw7 hc7 kx0 kx1 kc kb hc hf x0 x1 hbd
      go_wp2_with fail
      go_roundg (n1 - (i + 1))
      case measure => omega
      case rel =>
       refine ⟨i + 1, rfl, by omega, by go_num, Lib.hid ⟨?_, HW.out.2.1, HW.out.2.2⟩⟩
       rw [rkAt_skip g j i (by rw [rk_step g j HP.out.2, if_neg (fun h => HK.out.2 (HK.out.1.trans h.1))])]
       exact HW.out.1
    ·obtain rfl : i = n1 := by omega
     have h9 := hin2.out.1
     have e9 : rkAt g j i = rkAt g (j + 1) 0 := by rw [← rkAt_next, ← H.out.2.2]
     rw [e9] at h9
     have HW := Lib.hid (And.intro h9 hin2.out.2)
     clear h9 e9
     go_wp2_with fail
     go_roundg (i - (j + 1))
     case measure => omega
     case rel => exact ⟨j + 1, rfl, by omega, by go_num, HW⟩
  ·obtain rfl : j = n1 := by omega
   go_wp2_with fail
   go_ret
   obtain ⟨h1, h2, h3⟩ := hin.out
   have he := H.out.2.2
   have e9 : rkAt g j 0 = ranksL g g.rules.length := by
    unfold rkAt
    rw [he]
    simp [ranksL]
   rw [e9] at h1
   have hl : (ranksL g g.rules.length).length = j := by rw [← e9, rkAt_len, he]
   refine ⟨some ⟨B, 0, none⟩, j, congrArg (fun m => Ending.returned (.slice (some ⟨B, 0, none⟩) m j)) hl.symm, ?_, h3⟩
   unfold FreshInts
   rw [hl]
   exact h1
end Go.Proofs.YtlklmpjakeedcaaGreatDoor
set_option linter.unusedVariables false
set_option linter.unusedSimpArgs false
set_option linter.unnecessarySimpa false
namespace Go.Proofs.YtlklmpjakeedcaaGreatDoor
open Go.RowKit Go.MapKept Go.Shelf

theorem ranks_all {g : Gr} (hr : rightB g = true) : callsB (ranksL g g.rules.length) 1073741824 = callsR g g.rules.length := by
 funext q
 unfold callsB callsR
 by_cases hq : 0 ≤ q
 ·rw [decide_eq_true hq, Bool.true_and, Bool.true_and]
  by_cases hl : q.toNat < g.rules.length
  ·rw [ranksL_at g _ hl]
   have hle := rk_le g g.rules.length q.toNat
   have := (right_sizes hr).2.1
   rw [Bool.eq_iff_iff]
   simp only [Bool.and_eq_true, decide_eq_true_eq]
   omega
  ·rw [rk_out g _ (by omega)]
   have : (ranksL g g.rules.length)[q.toNat]? = none := by rw [List.getElem?_eq_none_iff, ranksL_len]; omega
   rw [this]
   rfl
 ·rw [decide_eq_false hq]; rfl
end Go.Proofs.YtlklmpjakeedcaaGreatDoor

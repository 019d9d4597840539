/-
  The document's Right, Size, Height, Owner: the walks; they are the program's.
  Conditions: the grammar reads as data (GramAt); its lists are within the reach.
-/
import Derived.Test.YtibgfgfmljhimaaGreatQGAft
import Derived.Test.YtibgfgfmljhimaaGreatQGDup
set_option linter.unusedVariables false
set_option linter.unusedSimpArgs false
namespace Go.Proofs.YtibgfgfmljhimaaGreat
open Go.RowKit Go.MapKept Go.Shelf

theorem chain_at {g : Gr} {k x : Nat} (hk : k < g.rules.length) : chain g (g.rules.drop k) k x = if nameB g.rules[k].name && decide (ruleI g.rules g.rules[k].name = (k : Int)) && decide (g.rules[k].body = (x : Int)) then
      (match aft g.nodes 16 x with | none => none | some (to, _) => chain g (g.rules.drop (k + 1)) (k + 1) to) else none := by
  rw [List.drop_eq_getElem_cons hk]
  rfl
theorem right_of {g : Gr} (hs : sizesB g = true) (ha : allB g = true) {o : Option Nat} (hc : chain g g.rules 0 0 = o) : rightB g = (o == some g.nodes.length) := by
  unfold rightB
  rw [hs, ha, hc]
  simp

set_option maxRecDepth 100000 in
set_option maxHeartbeats 8000000 in
theorem refRight_any (w : World) (a1 : Option Addr) (n1 c1 : Nat) (a2 : Option Addr) (n2 c2 : Nat) (g : Gr) (hg : GramAt w a1 n1 c1 a2 n2 c2 g) :
    Calls Tryz.prog 87 #[.agg #[.slice a1 n1 c1, .slice a2 n2 c2]] w fun e w' => e = .returned (.bool (rightB g)) ∧ Chg [] w w' := by
  obtain ⟨hs1, hs2⟩ := hg.small
  have HG := Lib.hid hg
  by_cases hsz : 1 ≤ n1 ∧ n1 ≤ 32 ∧ n2 ≤ 2048
  · obtain ⟨z1, z2, z3⟩ := hsz
    have HS : Hid (sizesB g = true) := Lib.hid (by unfold sizesB; rw [← hg.e1, ← hg.e2]; simp [z1, z2, z3])
    clear hg
    have k0 : decide ((n1 : Int) < 1) = false := by simp; omega
    have k1 : decide (32 < (n1 : Int)) = false := by simp; omega
    have k2 : decide (2048 < (n2 : Int)) = false := by simp; omega
    obtain ⟨R, hR⟩ : ∃ R, R = rightB g := ⟨_, rfl⟩
    rw [← hR]
    have HR := Lib.hid hR
    clear hR
    go_enter Tryz.func87, Tryz.ntmps87
    go_wp2_with fail
    have HB := Lib.hid (GrBox.new w a1 n1 c1 a2 n2 c2)
    go_loopg [3] n2 (fun d iv wr => ∃ i : Nat, d = n2 - i ∧ i ≤ n2 ∧ iv = .int .i64 i ∧ Hid (GrBox w w.heap.size a1 n1 c1 a2 n2 c2 wr ∧ ∀ j (hj : j < g.nodes.length), j < i → nodeB g.nodes[j] (n1 : Int) = true))
    case atStart => exact ⟨0, rfl, Nat.zero_le _, rfl, Lib.hid ⟨HB.out, fun j _ h => by omega⟩⟩
    case round =>
      obtain ⟨i, rfl, hi, rfl, HI⟩ := hrel
      obtain ⟨wq, rfl⟩ : ∃ wq : World, wq = wr := ⟨_, rfl⟩
      obtain ⟨x0, x1⟩ := cells2 HI.out.1.box
      have hl := lt_of_block HI.out.1.box
      by_cases hlt : i < n2
      · have hil : i < g.nodes.length := by have := HG.out.e2; omega
        obtain ⟨b, o, ak, nk, ck, rfl, hx2⟩ := (HG.out.nodes.keep HI.out.1.ch.kp) i hil
        have hnb : nodeB g.nodes[i] (n1 : Int) = true ∨ nodeB g.nodes[i] (n1 : Int) = false := by cases nodeB g.nodes[i] (n1 : Int) <;> simp
        have hnext : nodeB g.nodes[i] (n1 : Int) = true → ∀ j (hj : j < g.nodes.length), j < i + 1 → nodeB g.nodes[j] (n1 : Int) = true := by
          intro h j hj hji
          by_cases e : j = i
          · subst e; exact h
          · exact HI.out.2 j hj (by omega)
        have hbad : nodeB g.nodes[i] (n1 : Int) = false → R = false := by
          intro h
          have : allB g = false := by
            unfold allB
            rw [List.all_eq_false]
            exact ⟨_, List.getElem_mem hil, by rw [← HG.out.e1, h]; simp⟩
          rw [HR.out]
          unfold rightB
          rw [this]
          simp
        have HN := Lib.hid (And.intro hnext hbad)
        clear hnext hbad
        obtain ⟨bn, hbn⟩ : ∃ bn, bn = nodeB g.nodes[i] (n1 : Int) := ⟨_, rfl⟩
        have HBN := Lib.hid hbn
        rw [← hbn] at hnb
        obtain ⟨xn, hxn⟩ : ∃ xn, xn = g.nodes[i] := ⟨_, rfl⟩
        rw [← hxn] at hx2 hbn
        clear hxn
        obtain ⟨xk, xc0, xc1, xc2, xc3, xs, xr, xl, xkids⟩ := xn
        obtain ⟨v0, v1, v2, v3, v4, v5, v6, v7, v8, l1, l2, l3, l4⟩ := hx2
        have hb8 := World.block_lt_of_cell? _ _ v8
        simp only at hb8
        unfold nodeB at hbn
        dsimp only at v0 v1 v2 v3 v4 v5 v6 v7 v8 l1 hbn
        rw [← l1] at hbn
        clear l1 l2 l3 l4
        have cN := calls_rg (w := wq) (fun w1 h1 => refNode_any w1 xk xc0 xc1 xc2 xc3 xr xl n1 xs ak nk ck)
        rw [← hbn] at cN
        clear hbn
        have kx0 := cell_rg x0
        have kx1 := cell_rg x1
        have kv0 := cell_rg v0
        have kv1 := cell_rg v1
        have kv2 := cell_rg v2
        have kv3 := cell_rg v3
        have kv4 := cell_rg v4
        have kv5 := cell_rg v5
        have kv6 := cell_rg v6
        have kv7 := cell_rg v7
        have kv8 := cell_rg v8
        have qn0 : (0 : Int) ≤ (i : Int) := by omega
        have qn1 : (i : Int) < (n2 : Int) := by omega
        go_wp2_with fail
        refine wp_region_quiet_below (by kernel_rfl) (by kernel_rfl) ?_
        repeat (go_big_quiet_step (with_reducible exact cN _ _))
        refine wpQuiet_nil ?_
        intro w4 hw4
        have HR4 := Lib.hid (HI.out.1.keep (chg_of_rg hw4))
        clear hw4 kx0 kx1 kv0 kv1 kv2 kv3 kv4 kv5 kv6 kv7 kv8 cN x0 x1 hl v0 v1 v2 v3 v4 v5 v6 v7 v8
        rcases hnb with hb | hb
        · subst hb
          have hn := HN.out.1 HBN.out.symm
          have HN2 := Lib.hid hn
          clear hn
          go_wp2
          go_roundg (n2 - (i + 1))
          case measure => omega
          case rel => exact ⟨i + 1, rfl, by omega, by go_num, Lib.hid ⟨HR4.out, HN2.out⟩⟩
        · subst hb
          have hn := HN.out.2 HBN.out.symm
          subst hn
          go_wp2
          go_ret
          exact ⟨rfl, HR4.out.ch⟩
      · obtain rfl : i = n2 := by omega
        have hall : allB g = true := by
          unfold allB
          rw [List.all_eq_true]
          intro x hx
          obtain ⟨j, hj, rfl⟩ := List.mem_iff_getElem.1 hx
          rw [← HG.out.e1]
          exact HI.out.2 j hj (by have := HG.out.e2; omega)
        have HA := Lib.hid hall
        clear hall
        go_wp2_with fail
        go_loopg [5, 4] n1 (fun d kv xv wr => ∃ k x : Nat, d = n1 - k ∧ k ≤ n1 ∧ kv = .int .i64 k ∧ xv = .int .i64 x ∧ x ≤ i ∧ Hid (GrBox w w.heap.size a1 n1 c1 a2 i c2 wr ∧ chain g g.rules 0 0 = chain g (g.rules.drop k) k x))
        case atStart => exact ⟨0, 0, rfl, Nat.zero_le _, rfl, rfl, Nat.zero_le _, Lib.hid ⟨HI.out.1, by simp⟩⟩
        case round =>
          obtain ⟨k, x, rfl, hk, rfl, rfl, hx, HK⟩ := hrel
          obtain ⟨wp, rfl⟩ : ∃ wp : World, wp = wr := ⟨_, rfl⟩
          clear x0 x1 hl
          obtain ⟨x0, x1⟩ := cells2 HK.out.1.box
          have hl := lt_of_block HK.out.1.box
          by_cases hlt : k < n1
          · have hkl : k < g.rules.length := by have := HG.out.e1; omega
            obtain ⟨b, o, rfl, r0, r1⟩ := (HG.out.rules.keep HK.out.1.ch.kp) k hkl
            have hbr := World.block_lt_of_cell? _ _ r0
            simp only at hbr
            have hnm := HG.out.wf.names _ (List.getElem_mem hkl)
            have hch := (chain_at (g := g) (x := x) hkl)
            obtain ⟨r, hr⟩ : ∃ r, r = g.rules[k] := ⟨_, rfl⟩
            rw [← hr] at r0 r1 hnm hch
            clear hr
            obtain ⟨nm, bd⟩ := r
            dsimp only at r0 r1 hnm hch
            have HC := Lib.hid hch
            clear hch
            have hfail : chain g (g.rules.drop k) k x = none → R = false := by
              intro h
              rw [HR.out, right_of HS.out HA.out (HK.out.2.trans h)]
              rfl
            have HF := Lib.hid hfail
            clear hfail
            have cN := calls_rg (w := wp) (fun w1 h1 => refName_any nm w1 hnm)
            have cR := calls_rg (w := wp) (fun w1 h1 => refRule_any w1 _ n1 c1 a2 i c2 g.rules nm HG.out.e1 hs1 (HG.out.rules.keep (HK.out.1.ch.tr h1).kp))
            obtain ⟨A, hA⟩ : ∃ A, A = nameB nm := ⟨_, rfl⟩
            obtain ⟨I, hI⟩ : ∃ I, I = ruleI g.rules nm := ⟨_, rfl⟩
            rw [← hA] at cN
            rw [← hI] at cR
            have HAI := Lib.hid (And.intro hA hI)
            clear hA hI hnm
            have kx0 := cell_rg x0
            have kx1 := cell_rg x1
            have kr0 := cell_rg r0
            have kr1 := cell_rg r1
            have qk0 : (0 : Int) ≤ (k : Int) := by omega
            have qk1 : (k : Int) < (n1 : Int) := by omega
            have hcs : A = false ∨ (A = true ∧ (I != (k : Int)) = true) ∨ (A = true ∧ (I != (k : Int)) = false ∧ (bd != (x : Int)) = true) ∨ (A = true ∧ (I != (k : Int)) = false ∧ (bd != (x : Int)) = false) := by
              cases A <;> simp; by_cases h1 : I = (k : Int) <;> by_cases h2 : bd = (x : Int) <;> simp [h1, h2]
            rcases hcs with rfl | ⟨rfl, q1⟩ | ⟨rfl, q1, q2⟩ | ⟨rfl, q1, q2⟩
            · have hRf := HF.out (by rw [HC.out, ← HAI.out.1]; simp)
              subst hRf
              go_wp2_with fail
              refine wp_region_quiet_below (by kernel_rfl) (by kernel_rfl) ?_
              repeat (go_big_quiet_step (first | (with_reducible exact cN _ _) | (with_reducible exact cR _ _)))
              refine wpQuiet_nil ?_
              intro w4 hw4
              have HR4 := Lib.hid (HK.out.1.keep (chg_of_rg hw4))
              clear hw4
              go_wp2
              go_ret
              exact ⟨rfl, HR4.out.ch⟩
            · have hRf := HF.out (by rw [HC.out, ← HAI.out.2]; simp at q1; simp [q1])
              subst hRf
              go_wp2_with fail
              refine wp_region_quiet_below (by kernel_rfl) (by kernel_rfl) ?_
              repeat (go_big_quiet_step (first | (with_reducible exact cN _ _) | (with_reducible exact cR _ _)))
              refine wpQuiet_nil ?_
              intro w4 hw4
              have HR4 := Lib.hid (HK.out.1.keep (chg_of_rg hw4))
              clear hw4
              go_wp2
              go_ret
              exact ⟨rfl, HR4.out.ch⟩
            · have hRf := HF.out (by rw [HC.out]; simp at q2; simp [q2])
              subst hRf
              go_wp2_with fail
              refine wp_region_quiet_below (by kernel_rfl) (by kernel_rfl) ?_
              repeat (go_big_quiet_step (first | (with_reducible exact cN _ _) | (with_reducible exact cR _ _)))
              refine wpQuiet_nil ?_
              intro w4 hw4
              have HR4 := Lib.hid (HK.out.1.keep (chg_of_rg hw4))
              clear hw4
              go_wp2
              go_ret
              exact ⟨rfl, HR4.out.ch⟩
            · go_wp2_with fail
              refine wp_region_quiet_below (by kernel_rfl) (by kernel_rfl) ?_
              repeat (go_big_quiet_step (first | (with_reducible exact cN _ _) | (with_reducible exact cR _ _)))
              refine wpQuiet_nil ?_
              intro w4 hw4
              have HR4 := Lib.hid (HK.out.1.keep (chg_of_rg hw4))
              have hch2 : chain g (g.rules.drop k) k x = (match aft g.nodes 16 x with | none => none | some (to, _) => chain g (g.rules.drop (k + 1)) (k + 1) to) := by
                have e1 : I = (k : Int) := by simpa using q1
                have e2 : bd = (x : Int) := by simpa using q2
                rw [HC.out, ← HAI.out.1, ← HAI.out.2, e1, e2]
                simp
              have HC2 := Lib.hid hch2
              clear hw4 kx0 kx1 kr0 kr1 cN cR x0 x1 hl r0 r1 hch2 q1 q2
              obtain ⟨x0, x1⟩ := cells2 HR4.out.box
              have hl := lt_of_block HR4.out.box
              go_wp2_with fail
              refine (after_any _ n1 c1 a2 i c2 g (by omega) 16 x _ (HG.out.keep HR4.out.ch.kp) (by decide) (by omega)).mono ?_
              rintro e w5 ⟨rfl, hc⟩
              have HR5 := Lib.hid (HR4.out.keep hc)
              clear hc x0 x1 hl
              cases hax : aft g.nodes 16 x with
              | none =>
                have hRf := HF.out (by rw [HC2.out, hax])
                subst hRf
                clear hax
                simp only [aftI]
                go_wp2_with fail
                go_ret
                exact ⟨rfl, HR5.out.ch⟩
              | some p =>
                obtain ⟨to, h⟩ := p
                have h1 := (aft_cover hax).1
                have hto : to ≤ i := by have := HG.out.e2; omega
                have hstep : chain g g.rules 0 0 = chain g (g.rules.drop (k + 1)) (k + 1) to := by rw [HK.out.2, HC2.out, hax]
                have HS2 := Lib.hid hstep
                clear hax hstep
                simp only [aftI]
                go_wp2_with fail
                go_roundg (n1 - (k + 1))
                case measure => omega
                case rel => exact ⟨k + 1, to, rfl, by omega, by go_num, rfl, hto, Lib.hid ⟨HR5.out, HS2.out⟩⟩
          · obtain rfl : k = n1 := by omega
            have hRv : R = ((x : Int) == (i : Int)) := by
              have hc : chain g g.rules 0 0 = some x := by
                rw [HK.out.2, HG.out.e1, List.drop_length]
                rfl
              rw [HR.out, right_of HS.out HA.out hc, ← HG.out.e2, Bool.eq_iff_iff]
              simp
              omega
            subst hRv
            go_wp2
            go_ret
            exact ⟨rfl, HK.out.1.ch⟩
  · have hnone : rightB g = false := by
      have : sizesB g = false := by unfold sizesB; rw [← hg.e1, ← hg.e2]; simp; omega
      unfold rightB
      rw [this]
      simp
    rw [hnone]
    clear hnone hg
    have hcs : decide ((n1 : Int) < 1) = true ∨ (decide ((n1 : Int) < 1) = false ∧ decide (32 < (n1 : Int)) = true) ∨ (decide ((n1 : Int) < 1) = false ∧ decide (32 < (n1 : Int)) = false ∧ decide (2048 < (n2 : Int)) = true) := by
      simp; omega
    clear hsz
    rcases hcs with k0 | ⟨k0, k1⟩ | ⟨k0, k1, k2⟩
    all_goals
      go_enter Tryz.func87, Tryz.ntmps87
      go_wp2_with fail
      go_ret
      exact ⟨rfl, (Chg.refl _ _).alloc _⟩
end Go.Proofs.YtibgfgfmljhimaaGreat

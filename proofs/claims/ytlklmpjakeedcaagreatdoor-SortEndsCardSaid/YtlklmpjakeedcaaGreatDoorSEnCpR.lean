/-
 Whether a graph is right, by the package and by the document.
 Conditions: the rows read as data.
-/
import Derived.Test.YtlklmpjakeedcaaGreatDoorSEnCpM
set_option linter.unusedVariables false
set_option linter.unusedSimpArgs false
set_option linter.unnecessarySimpa false
namespace Go.Proofs.YtlklmpjakeedcaaGreatDoor
open Go.RowKit Go.MapKept Go.Shelf

set_option maxRecDepth 100000 in
set_option maxHeartbeats 4000000 in
theorem rightC_any (w : World) (a : Option Addr) (n c : Nat) (VS : List Is) (hn : n = VS.length) (hs : n ≤ 9223372036854775807) (hx : IntRows w a VS) :
  Calls Tryz.prog 148 #[.slice a n c] w fun e w' => e = .returned (.bool (Cp.rightI (VS.map (·.2.2)))) ∧ Chg [] w w' := by
 obtain ⟨R, hR⟩ : ∃ R, R = Cp.rightI (VS.map (·.2.2)) := ⟨_, rfl⟩
 rw [← hR]
 have H := Lib.hid (And.intro hn (And.intro hx hR))
 clear hn hx hR
 go_enter Tryz.func148, Tryz.ntmps148
 by_cases hg : 64 < n
 ·go_wp2_with fail
  go_ret
  exact ⟨ret_bool (a := false) (by rw [H.out.2.2, Cp.right_great (by rw [List.length_map, ← H.out.1]; exact hg)]), Chg.refl _ _⟩
 ·go_wp2_with fail
  go_loopg [12] n (fun d iv wr => ∃ i : Nat, d = n - i ∧ i ≤ n ∧ iv = .int .i64 i ∧ Hid (Chg [] w wr ∧ ∀ j, (h : j < VS.length) → j < i → Cp.okRow n VS[j].2.2 = true))
  case atStart => exact ⟨0, rfl, Nat.zero_le _, rfl, Lib.hid ⟨Chg.refl _ _, fun j _ h => absurd h (Nat.not_lt_zero _)⟩⟩
  case round =>
   obtain ⟨i, rfl, hi, rfl, hin⟩ := hrel
   obtain ⟨wq, rfl⟩ : ∃ wq, wq = wr := ⟨_, rfl⟩
   by_cases hlt : i < n
   ·have hiv : i < VS.length := by have := H.out.1; omega
    obtain ⟨bx, ox, rfl, hcx, ix, lx⟩ := (H.out.2.1.keep hin.out.1.kp) i hiv
    obtain ⟨zs, hzs⟩ : ∃ zs, zs = VS[i].2.2 := ⟨_, rfl⟩
    obtain ⟨va, hva⟩ : ∃ va, va = VS[i].1 := ⟨_, rfl⟩
    obtain ⟨vc, hvc⟩ : ∃ vc, vc = VS[i].2.1 := ⟨_, rfl⟩
    obtain ⟨m, hm⟩ : ∃ m, m = zs.length := ⟨_, rfl⟩
    simp only [Is.cell] at hcx
    rw [← hzs] at lx
    rw [← hzs, ← hva, ← hvc, ← hm] at hcx
    rw [← hzs, ← hva] at ix
    rw [← hm] at lx
    have hmV : VS[i].2.2.length = m := by rw [hm, hzs]
    have HI := Lib.hid (And.intro hzs (And.intro ix (And.intro hm (And.intro hcx hmV))))
    clear hzs hva hvc hm ix hmV
    go_wp2_with fail
    clear hcx
    go_loopg [18] m (fun d kv wr => ∃ k : Nat, d = m - k ∧ k ≤ m ∧ kv = .int .i64 k ∧ Hid (Chg [] wq wr ∧ ∀ j, j < k → 0 ≤ zs.getD j 0 ∧ zs.getD j 0 < n ∧ (0 < j → zs.getD (j - 1) 0 < zs.getD j 0)))
    case atStart => exact ⟨0, rfl, Nat.zero_le _, rfl, Lib.hid ⟨Chg.refl _ _, fun j h => absurd h (Nat.not_lt_zero _)⟩⟩
    case round =>
     obtain ⟨k, rfl, hk, rfl, hin2⟩ := hrel
     obtain ⟨wp, rfl⟩ : ∃ wp, wp = wr := ⟨_, rfl⟩
     have hcx := hin2.out.1.cell HI.out.2.2.2.1 (by simp)
     by_cases hkl : k < m
     ·have hkz : k < zs.length := by have := HI.out.2.2.1; omega
      obtain ⟨bz, oz, rfl, hz⟩ := (HI.out.2.1.keep hin2.out.1.kp) k hkz
      obtain ⟨z, hzz⟩ : ∃ z, z = zs.getD k 0 := ⟨_, rfl⟩
      have hz' : wp.cell? ⟨bz, oz + k, none⟩ = some (.int .i64 z) := by rw [hz, hzz, List.getD_eq_getElem?_getD, List.getElem?_eq_getElem hkz]; rfl
      have hbad : ¬ (0 ≤ z ∧ z < n ∧ (0 < k → zs.getD (k - 1) 0 < z)) → R = false := fun hb => by
       have := HI.out.2.2.1
       rw [H.out.2.2]
       refine Cp.right_not (i := i) (by rw [List.length_map]; exact hiv) (j := k) ?_ ?_
       ·rw [List.getElem_map, ← HI.out.1]; exact hkz
       ·rw [List.getElem_map, ← HI.out.1, ← hzz, List.length_map, ← H.out.1]; exact hb
      have HZ := Lib.hid (And.intro hzz hbad)
      clear hz hbad hkz
      rcases Nat.eq_zero_or_pos k with e | e
      ·have HE := Lib.hid e
       have hk0 : ¬ (0 : Int) < (k : Int) := by omega
       clear hzz e
       by_cases h1 : z < 0
       ·have g1 : decide (z < 0) = true := decide_eq_true h1
        go_wp2_with fail
        go_ret
        exact ⟨ret_bool (a := false) (HZ.out.2 (by first | omega | (have := HE.out; omega))).symm, hin.out.1.tr (hin2.out.1)⟩
       ·have g1 : decide (z < 0) = false := decide_eq_false h1
        by_cases h2 : z < n
        ·have g2 : decide ((n : Int) ≤ z) = false := decide_eq_false (by omega)
         have g3 : decide (0 < k) = false := decide_eq_false (by omega)
         go_wp2_with fail
         go_roundg (m - (k + 1))
         case measure => omega
         case rel => exact ⟨k + 1, rfl, by omega, by go_num, Lib.hid ⟨hin2.out.1, fun j hj => by
          have h5 := HE.out
          obtain rfl : j = k := by omega
          rw [← HZ.out.1]; exact ⟨by omega, h2, fun h => by omega⟩⟩⟩
        ·have g2 : decide ((n : Int) ≤ z) = true := decide_eq_true (by omega)
         go_wp2_with fail
         go_ret
         exact ⟨ret_bool (a := false) (HZ.out.2 (by first | omega | (have := HE.out; omega))).symm, hin.out.1.tr (hin2.out.1)⟩
      ·obtain ⟨y, hy⟩ : ∃ y, y = zs.getD (k - 1) 0 := ⟨_, rfl⟩
       have hkz : k - 1 < zs.length := by have := HI.out.2.2.1; omega
       obtain ⟨bz2, oz2, e2, hz2⟩ := (HI.out.2.1.keep hin2.out.1.kp) (k - 1) hkz
       cases e2
       have hy' : wp.cell? ⟨bz, oz + (k - 1), none⟩ = some (.int .i64 y) := by rw [hz2, hy, List.getD_eq_getElem?_getD, List.getElem?_eq_getElem hkz]; rfl
       obtain ⟨q, hq⟩ : ∃ q, k = q + 1 := ⟨k - 1, by omega⟩
       have HY := Lib.hid hy
       clear hy hzz hz2 hkz e
       subst hq
       rw [Nat.add_sub_cancel] at hy'
       have hw1 : IntKind.i64.wrap (((q + 1 : Nat) : Int) - 1) = (q : Int) := by rw [IntWalk.i64_in _ (by omega)]; omega
       by_cases h1 : z < 0
       ·have g1 : decide (z < 0) = true := decide_eq_true h1
        go_wp2_with fail
        go_ret
        exact ⟨ret_bool (a := false) (HZ.out.2 (by first | omega | (have := HE.out; omega))).symm, hin.out.1.tr (hin2.out.1)⟩
       ·have g1 : decide (z < 0) = false := decide_eq_false h1
        by_cases h2 : z < n
        ·have g2 : decide ((n : Int) ≤ z) = false := decide_eq_false (by omega)
         by_cases h3 : z ≤ y
         ·have g3 : decide (z ≤ y) = true := decide_eq_true h3
          go_wp2_with fail
          go_ret
          exact ⟨ret_bool (a := false) (HZ.out.2 (by have := HY.out; omega)).symm, hin.out.1.tr (hin2.out.1)⟩
         ·have g3 : decide (z ≤ y) = false := decide_eq_false h3
          go_wp2_with fail
          go_roundg (m - (q + 1 + 1))
          case measure => omega
          case rel => exact ⟨q + 1 + 1, rfl, by omega, by go_num, Lib.hid ⟨hin2.out.1, fun j hj => by
           by_cases e : j = q + 1
           ·subst e; rw [← HZ.out.1]; exact ⟨by omega, h2, fun _ => by rw [← HY.out]; omega⟩
           ·exact hin2.out.2 j (by omega)⟩⟩
        ·have g2 : decide ((n : Int) ≤ z) = true := decide_eq_true (by omega)
         go_wp2_with fail
         go_ret
         exact ⟨ret_bool (a := false) (HZ.out.2 (by first | omega | (have := HE.out; omega))).symm, hin.out.1.tr (hin2.out.1)⟩
     ·obtain rfl : k = m := by omega
      go_wp2_with fail
      go_roundg (n - (i + 1))
      case measure => omega
      case rel => exact ⟨i + 1, rfl, by omega, by go_num, Lib.hid ⟨hin.out.1.tr hin2.out.1, fun j hj hji => by
       by_cases e : j = i
       ·subst e
        have h1 := HI.out.1
        have h2 := HI.out.2.2.1
        rw [← h1]
        exact Cp.okRow_at.2 (fun t ht => hin2.out.2 t (by omega))
       ·exact hin.out.2 j hj (by omega)⟩⟩
   ·obtain rfl : i = n := by omega
    go_wp2_with fail
    go_ret
    refine ⟨ret_bool (a := true) ?_, hin.out.1⟩
    refine (H.out.2.2.trans (Cp.right_of (n := i) (by rw [List.length_map, ← H.out.1]) (by omega) (fun j l hj => ?_))).symm
    rw [List.getElem?_map, Option.map_eq_some_iff] at hj
    obtain ⟨p, hp, rfl⟩ := hj
    obtain ⟨hjl, rfl⟩ := List.getElem?_eq_some_iff.1 hp
    exact hin.out.2 j hjl (by rw [H.out.1]; exact hjl)

set_option maxRecDepth 100000 in
set_option maxHeartbeats 4000000 in
theorem rightR_any (w : World) (a : Option Addr) (n c : Nat) (VS : List Is) (hn : n = VS.length) (hs : n ≤ 9223372036854775807) (hx : IntRows w a VS) :
  Calls Tryz.prog 119 #[.slice a n c] w fun e w' => e = .returned (.bool (Cp.rightI (VS.map (·.2.2)))) ∧ Chg [] w w' := by
 obtain ⟨R, hR⟩ : ∃ R, R = Cp.rightI (VS.map (·.2.2)) := ⟨_, rfl⟩
 rw [← hR]
 have H := Lib.hid (And.intro hn (And.intro hx hR))
 clear hn hx hR
 go_enter Tryz.func119, Tryz.ntmps119
 by_cases hg : 64 < n
 ·go_wp2_with fail
  go_ret
  exact ⟨ret_bool (a := false) (by rw [H.out.2.2, Cp.right_great (by rw [List.length_map, ← H.out.1]; exact hg)]), Chg.refl _ _⟩
 ·go_wp2_with fail
  go_loopg [3] n (fun d iv wr => ∃ i : Nat, d = n - i ∧ i ≤ n ∧ iv = .int .i64 i ∧ Hid (Chg [] w wr ∧ ∀ j, (h : j < VS.length) → j < i → Cp.okRow n VS[j].2.2 = true))
  case atStart => exact ⟨0, rfl, Nat.zero_le _, rfl, Lib.hid ⟨Chg.refl _ _, fun j _ h => absurd h (Nat.not_lt_zero _)⟩⟩
  case round =>
   obtain ⟨i, rfl, hi, rfl, hin⟩ := hrel
   obtain ⟨wq, rfl⟩ : ∃ wq, wq = wr := ⟨_, rfl⟩
   by_cases hlt : i < n
   ·have hiv : i < VS.length := by have := H.out.1; omega
    obtain ⟨bx, ox, rfl, hcx, ix, lx⟩ := (H.out.2.1.keep hin.out.1.kp) i hiv
    obtain ⟨zs, hzs⟩ : ∃ zs, zs = VS[i].2.2 := ⟨_, rfl⟩
    obtain ⟨va, hva⟩ : ∃ va, va = VS[i].1 := ⟨_, rfl⟩
    obtain ⟨vc, hvc⟩ : ∃ vc, vc = VS[i].2.1 := ⟨_, rfl⟩
    obtain ⟨m, hm⟩ : ∃ m, m = zs.length := ⟨_, rfl⟩
    simp only [Is.cell] at hcx
    rw [← hzs] at lx
    rw [← hzs, ← hva, ← hvc, ← hm] at hcx
    rw [← hzs, ← hva] at ix
    rw [← hm] at lx
    have hmV : VS[i].2.2.length = m := by rw [hm, hzs]
    have HI := Lib.hid (And.intro hzs (And.intro ix (And.intro hm (And.intro hcx hmV))))
    clear hzs hva hvc hm ix hmV
    go_wp2_with fail
    clear hcx
    go_loopg [4] m (fun d kv wr => ∃ k : Nat, d = m - k ∧ k ≤ m ∧ kv = .int .i64 k ∧ Hid (Chg [] wq wr ∧ ∀ j, j < k → 0 ≤ zs.getD j 0 ∧ zs.getD j 0 < n ∧ (0 < j → zs.getD (j - 1) 0 < zs.getD j 0)))
    case atStart => exact ⟨0, rfl, Nat.zero_le _, rfl, Lib.hid ⟨Chg.refl _ _, fun j h => absurd h (Nat.not_lt_zero _)⟩⟩
    case round =>
     obtain ⟨k, rfl, hk, rfl, hin2⟩ := hrel
     obtain ⟨wp, rfl⟩ : ∃ wp, wp = wr := ⟨_, rfl⟩
     have hcx := hin2.out.1.cell HI.out.2.2.2.1 (by simp)
     by_cases hkl : k < m
     ·have hkz : k < zs.length := by have := HI.out.2.2.1; omega
      obtain ⟨bz, oz, rfl, hz⟩ := (HI.out.2.1.keep hin2.out.1.kp) k hkz
      obtain ⟨z, hzz⟩ : ∃ z, z = zs.getD k 0 := ⟨_, rfl⟩
      have hz' : wp.cell? ⟨bz, oz + k, none⟩ = some (.int .i64 z) := by rw [hz, hzz, List.getD_eq_getElem?_getD, List.getElem?_eq_getElem hkz]; rfl
      have hbad : ¬ (0 ≤ z ∧ z < n ∧ (0 < k → zs.getD (k - 1) 0 < z)) → R = false := fun hb => by
       have := HI.out.2.2.1
       rw [H.out.2.2]
       refine Cp.right_not (i := i) (by rw [List.length_map]; exact hiv) (j := k) ?_ ?_
       ·rw [List.getElem_map, ← HI.out.1]; exact hkz
       ·rw [List.getElem_map, ← HI.out.1, ← hzz, List.length_map, ← H.out.1]; exact hb
      have HZ := Lib.hid (And.intro hzz hbad)
      clear hz hbad hkz
      rcases Nat.eq_zero_or_pos k with e | e
      ·have HE := Lib.hid e
       have hk0 : ¬ (0 : Int) < (k : Int) := by omega
       clear hzz e
       by_cases h1 : z < 0
       ·have g1 : decide (z < 0) = true := decide_eq_true h1
        go_wp2_with fail; have kcx := cell_rg hcx; have kz := cell_rg hz'; have ky := cell_rg (hz'); clear hcx hz'; refine wp_region_quiet_below (by kernel_rfl) (by kernel_rfl) ?_; (repeat (go_big_quiet_step (fail))); refine wpQuiet_nil ?_; intro w4 hw4; have hc4 := chg_of_rg hw4; clear hw4 kcx kz ky; go_wp2_with fail
        go_ret
        exact ⟨ret_bool (a := false) (HZ.out.2 (by first | omega | (have := HE.out; omega))).symm, hin.out.1.tr (hin2.out.1.tr hc4)⟩
       ·have g1 : decide (z < 0) = false := decide_eq_false h1
        by_cases h2 : z < n
        ·have g2 : decide ((n : Int) ≤ z) = false := decide_eq_false (by omega)
         have g3 : decide (0 < k) = false := decide_eq_false (by omega)
         go_wp2_with fail; have kcx := cell_rg hcx; have kz := cell_rg hz'; have ky := cell_rg (hz'); clear hcx hz'; refine wp_region_quiet_below (by kernel_rfl) (by kernel_rfl) ?_; (repeat (go_big_quiet_step (fail))); refine wpQuiet_nil ?_; intro w4 hw4; have hc4 := chg_of_rg hw4; clear hw4 kcx kz ky; go_wp2_with fail
         go_roundg (m - (k + 1))
         case measure => omega
         case rel => exact ⟨k + 1, rfl, by omega, by go_num, Lib.hid ⟨hin2.out.1.tr hc4, fun j hj => by
          have h5 := HE.out
          obtain rfl : j = k := by omega
          rw [← HZ.out.1]; exact ⟨by omega, h2, fun h => by omega⟩⟩⟩
        ·have g2 : decide ((n : Int) ≤ z) = true := decide_eq_true (by omega)
         go_wp2_with fail; have kcx := cell_rg hcx; have kz := cell_rg hz'; have ky := cell_rg (hz'); clear hcx hz'; refine wp_region_quiet_below (by kernel_rfl) (by kernel_rfl) ?_; (repeat (go_big_quiet_step (fail))); refine wpQuiet_nil ?_; intro w4 hw4; have hc4 := chg_of_rg hw4; clear hw4 kcx kz ky; go_wp2_with fail
         go_ret
         exact ⟨ret_bool (a := false) (HZ.out.2 (by first | omega | (have := HE.out; omega))).symm, hin.out.1.tr (hin2.out.1.tr hc4)⟩
      ·obtain ⟨y, hy⟩ : ∃ y, y = zs.getD (k - 1) 0 := ⟨_, rfl⟩
       have hkz : k - 1 < zs.length := by have := HI.out.2.2.1; omega
       obtain ⟨bz2, oz2, e2, hz2⟩ := (HI.out.2.1.keep hin2.out.1.kp) (k - 1) hkz
       cases e2
       have hy' : wp.cell? ⟨bz, oz + (k - 1), none⟩ = some (.int .i64 y) := by rw [hz2, hy, List.getD_eq_getElem?_getD, List.getElem?_eq_getElem hkz]; rfl
       obtain ⟨q, hq⟩ : ∃ q, k = q + 1 := ⟨k - 1, by omega⟩
       have HY := Lib.hid hy
       clear hy hzz hz2 hkz e
       subst hq
       rw [Nat.add_sub_cancel] at hy'
       have hw1 : IntKind.i64.wrap (((q + 1 : Nat) : Int) - 1) = (q : Int) := by rw [IntWalk.i64_in _ (by omega)]; omega
       by_cases h1 : z < 0
       ·have g1 : decide (z < 0) = true := decide_eq_true h1
        go_wp2_with fail; have kcx := cell_rg hcx; have kz := cell_rg hz'; have ky := cell_rg (hy'); clear hcx hz'; refine wp_region_quiet_below (by kernel_rfl) (by kernel_rfl) ?_; (repeat (go_big_quiet_step (fail))); refine wpQuiet_nil ?_; intro w4 hw4; have hc4 := chg_of_rg hw4; clear hw4 kcx kz ky; go_wp2_with fail
        go_ret
        exact ⟨ret_bool (a := false) (HZ.out.2 (by first | omega | (have := HE.out; omega))).symm, hin.out.1.tr (hin2.out.1.tr hc4)⟩
       ·have g1 : decide (z < 0) = false := decide_eq_false h1
        by_cases h2 : z < n
        ·have g2 : decide ((n : Int) ≤ z) = false := decide_eq_false (by omega)
         by_cases h3 : z ≤ y
         ·have g3 : decide (z ≤ y) = true := decide_eq_true h3
          go_wp2_with fail; have kcx := cell_rg hcx; have kz := cell_rg hz'; have ky := cell_rg (hy'); clear hcx hz'; refine wp_region_quiet_below (by kernel_rfl) (by kernel_rfl) ?_; (repeat (go_big_quiet_step (fail))); refine wpQuiet_nil ?_; intro w4 hw4; have hc4 := chg_of_rg hw4; clear hw4 kcx kz ky; go_wp2_with fail
          go_ret
          exact ⟨ret_bool (a := false) (HZ.out.2 (by have := HY.out; omega)).symm, hin.out.1.tr (hin2.out.1.tr hc4)⟩
         ·have g3 : decide (z ≤ y) = false := decide_eq_false h3
          go_wp2_with fail; have kcx := cell_rg hcx; have kz := cell_rg hz'; have ky := cell_rg (hy'); clear hcx hz'; refine wp_region_quiet_below (by kernel_rfl) (by kernel_rfl) ?_; (repeat (go_big_quiet_step (fail))); refine wpQuiet_nil ?_; intro w4 hw4; have hc4 := chg_of_rg hw4; clear hw4 kcx kz ky; go_wp2_with fail
          go_roundg (m - (q + 1 + 1))
          case measure => omega
          case rel => exact ⟨q + 1 + 1, rfl, by omega, by go_num, Lib.hid ⟨hin2.out.1.tr hc4, fun j hj => by
           by_cases e : j = q + 1
           ·subst e; rw [← HZ.out.1]; exact ⟨by omega, h2, fun _ => by rw [← HY.out]; omega⟩
           ·exact hin2.out.2 j (by omega)⟩⟩
        ·have g2 : decide ((n : Int) ≤ z) = true := decide_eq_true (by omega)
         go_wp2_with fail; have kcx := cell_rg hcx; have kz := cell_rg hz'; have ky := cell_rg (hy'); clear hcx hz'; refine wp_region_quiet_below (by kernel_rfl) (by kernel_rfl) ?_; (repeat (go_big_quiet_step (fail))); refine wpQuiet_nil ?_; intro w4 hw4; have hc4 := chg_of_rg hw4; clear hw4 kcx kz ky; go_wp2_with fail
         go_ret
         exact ⟨ret_bool (a := false) (HZ.out.2 (by first | omega | (have := HE.out; omega))).symm, hin.out.1.tr (hin2.out.1.tr hc4)⟩
     ·obtain rfl : k = m := by omega
      go_wp2_with fail
      go_roundg (n - (i + 1))
      case measure => omega
      case rel => exact ⟨i + 1, rfl, by omega, by go_num, Lib.hid ⟨hin.out.1.tr hin2.out.1, fun j hj hji => by
       by_cases e : j = i
       ·subst e
        have h1 := HI.out.1
        have h2 := HI.out.2.2.1
        rw [← h1]
        exact Cp.okRow_at.2 (fun t ht => hin2.out.2 t (by omega))
       ·exact hin.out.2 j hj (by omega)⟩⟩
   ·obtain rfl : i = n := by omega
    go_wp2_with fail
    go_ret
    refine ⟨ret_bool (a := true) ?_, hin.out.1⟩
    refine (H.out.2.2.trans (Cp.right_of (n := i) (by rw [List.length_map, ← H.out.1]) (by omega) (fun j l hj => ?_))).symm
    rw [List.getElem?_map, Option.map_eq_some_iff] at hj
    obtain ⟨p, hp, rfl⟩ := hj
    obtain ⟨hjl, rfl⟩ := List.getElem?_eq_some_iff.1 hp
    exact hin.out.2 j hjl (by rw [H.out.1]; exact hjl)
end Go.Proofs.YtlklmpjakeedcaaGreatDoor

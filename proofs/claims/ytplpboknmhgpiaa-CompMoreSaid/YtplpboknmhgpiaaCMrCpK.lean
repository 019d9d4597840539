/-
  The kit: are two rows of rows of numbers the same?
  Conditions: both read as data.
-/
import Derived.Test.YtplpboknmhgpiaaCMrCpG
import Derived.Test.YtplpboknmhgpiaaCMrGKit
set_option linter.unusedVariables false
set_option linter.unusedSimpArgs false
set_option linter.unnecessarySimpa false
namespace Go.Proofs.Ytplpboknmhgpiaa
open Go.RowKit Go.MapKept Go.Shelf

set_option maxRecDepth 100000 in
set_option maxHeartbeats 4000000 in
theorem sameIntRows_any (w : World) (a b : Option Addr) (n c m d' : Nat) (VS US : List Is) (hn : n = VS.length) (hm : m = US.length) (hs : n ≤ 9223372036854775807) (hs2 : m ≤ 9223372036854775807) (hx : IntRows w a VS) (hy : IntRows w b US) :
    Calls Try.prog 19 #[.slice a n c, .slice b m d'] w fun e w' => e = .returned (.bool (decide (VS.map (·.2.2) = US.map (·.2.2)))) ∧ Chg [] w w' := by
  obtain ⟨R, hR⟩ : ∃ R, R = decide (VS.map (·.2.2) = US.map (·.2.2)) := ⟨_, rfl⟩
  rw [← hR]
  have H := Lib.hid (And.intro hn (And.intro hx (And.intro hy (And.intro hR hm))))
  clear hn hx hy hR hm
  go_enter Try.func19, Try.ntmps19
  by_cases hnm : n = m
  · subst hnm
    go_wp2_with fail
    go_loopg [5] n (fun d iv wr => ∃ k : Nat, d = n - k ∧ k ≤ n ∧ iv = .int .i64 k ∧ Hid (Chg [] w wr ∧ ∀ (j : Nat) (h1 : j < VS.length) (h2 : j < US.length), j < k → VS[j].2.2 = US[j].2.2))
    case atStart => exact ⟨0, rfl, Nat.zero_le _, rfl, Lib.hid ⟨Chg.refl _ _, fun j _ _ h => absurd h (Nat.not_lt_zero _)⟩⟩
    case round =>
      obtain ⟨k, rfl, hk, rfl, hin⟩ := hrel
      obtain ⟨wq, rfl⟩ : ∃ wq, wq = wr := ⟨_, rfl⟩
      by_cases hlt : k < n
      · have hkx : k < VS.length := by have := H.out.1; omega
        have hky : k < US.length := by have := H.out.2.2.2.2; omega
        obtain ⟨bx, ox, rfl, hx, ix, lx⟩ := (H.out.2.1.keep hin.out.1.kp) k hkx
        obtain ⟨bb, oy, rfl, hy, iy, ly⟩ := (H.out.2.2.1.keep hin.out.1.kp) k hky
        obtain ⟨z, hz⟩ : ∃ z, z = VS[k].2.2 := ⟨_, rfl⟩
        obtain ⟨y, hyy⟩ : ∃ y, y = US[k].2.2 := ⟨_, rfl⟩
        simp only [Is.cell] at hx hy
        rw [← hz] at hx ix lx
        rw [← hyy] at hy iy ly
        obtain ⟨zl, hzl⟩ : ∃ zl, zl = z.length := ⟨_, rfl⟩
        obtain ⟨yl, hyl⟩ : ∃ yl, yl = y.length := ⟨_, rfl⟩
        obtain ⟨va, hva⟩ : ∃ va, va = VS[k].1 := ⟨_, rfl⟩
        obtain ⟨vc, hvc⟩ : ∃ vc, vc = VS[k].2.1 := ⟨_, rfl⟩
        obtain ⟨ua, hua⟩ : ∃ ua, ua = US[k].1 := ⟨_, rfl⟩
        obtain ⟨uc, huc⟩ : ∃ uc, uc = US[k].2.1 := ⟨_, rfl⟩
        rw [← hzl, ← hva, ← hvc] at hx
        rw [← hyl, ← hua, ← huc] at hy
        rw [← hva] at ix
        rw [← hua] at iy
        have cA := calls_rg (w := wq) (fun w1 h1 => sameInts_any w1 va ua zl vc yl uc z y hzl hyl (by omega) (ix.keep h1.kp) (iy.keep h1.kp))
        obtain ⟨r, hr⟩ : ∃ r, r = decide (z = y) := ⟨_, rfl⟩
        rw [← hr] at cA
        have kx := cell_rg hx
        have ky := cell_rg hy
        have HR := Lib.hid (And.intro hr (And.intro hz hyy))
        clear hz hyy hva hvc hua huc ix iy lx ly hx hy hzl hyl hr
        cases r with
        | true =>
          go_wp2_with fail
          refine wp_region_quiet_below (by kernel_rfl) (by kernel_rfl) ?_
          repeat (go_big_quiet_step (first | (with_reducible exact cA _ _)))
          refine wpQuiet_nil ?_
          intro w4 hw4
          have hc4 := chg_of_rg hw4
          clear hw4 cA kx ky
          go_wp2_with fail
          go_roundg (n - (k + 1))
          case measure => omega
          case rel => exact ⟨k + 1, rfl, by omega, by go_num, Lib.hid ⟨hin.out.1.tr hc4, fun j h1 h2 hj => by
            by_cases e : j = k
            · subst e
              have := HR.out
              rw [← this.2.1, ← this.2.2]
              exact of_decide_eq_true this.1.symm
            · exact hin.out.2 j h1 h2 (by omega)⟩⟩
        | false =>
          go_wp2_with fail
          refine wp_region_quiet_below (by kernel_rfl) (by kernel_rfl) ?_
          repeat (go_big_quiet_step (first | (with_reducible exact cA _ _)))
          refine wpQuiet_nil ?_
          intro w4 hw4
          have hc4 := chg_of_rg hw4
          clear hw4 cA kx ky
          go_wp2_with fail
          go_ret
          refine ⟨ret_bool (a := false) ?_, hin.out.1.tr hc4⟩
          rw [H.out.2.2.2.1]
          refine (decide_eq_false (fun e => ?_)).symm
          have h1 : (VS.map (·.2.2))[k]? = (US.map (·.2.2))[k]? := by rw [e]
          have h2 := of_decide_eq_false HR.out.1.symm
          rw [HR.out.2.1, HR.out.2.2] at h2
          simp [hkx, hky] at h1
          exact h2 h1
      · obtain rfl : k = n := by omega
        go_wp2_with fail
        go_ret
        refine ⟨ret_bool (a := true) ?_, hin.out.1⟩
        rw [H.out.2.2.2.1]
        refine (decide_eq_true ?_).symm
        apply List.ext_getElem (by rw [List.length_map, List.length_map, ← H.out.1, ← H.out.2.2.2.2])
        intro i h1 h2
        rw [List.length_map] at h1 h2
        simp only [List.getElem_map]
        exact hin.out.2 i h1 h2 (by rw [H.out.1]; exact h1)
  · have hd : decide ((n : Int) = (m : Int)) = false := decide_eq_false (by omega)
    have hd2 : ((n : Int) == (m : Int)) = false := beq_eq_false_iff_ne.2 (by omega)
    go_wp2_with fail
    go_ret
    refine ⟨ret_bool (a := false) ?_, Chg.refl _ _⟩
    rw [H.out.2.2.2.1]
    refine (decide_eq_false (fun e => hnm ?_)).symm
    have := congrArg List.length e
    rw [List.length_map, List.length_map, ← H.out.1, ← H.out.2.2.2.2] at this
    exact this
end Go.Proofs.Ytplpboknmhgpiaa

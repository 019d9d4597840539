/-
  The statements' history: what hangs on one beneath it, which rules touched one.
  Conditions: none.
-/
import Derived.Test.YtnajhcoimohcaaaSmHs1
set_option linter.unusedVariables false
set_option linter.unusedSimpArgs false
set_option linter.unnecessarySimpa false
namespace Go.Proofs.Ytnajhcoimohcaaa
open Go.RowKit Go.MapKept

theorem any_false_of {α : Type} {l : List α} {f : α → Bool} (h : ∀ j (h : j < l.length), f l[j] = false) : l.any f = false := by
  rw [List.any_eq_false]
  intro x hx
  obtain ⟨j, hj, rfl⟩ := List.mem_iff_getElem.1 hx
  rw [h j hj]; simp
theorem any_true_of {α : Type} {l : List α} {f : α → Bool} {j : Nat} (hj : j < l.length) (h : f l[j] = true) : l.any f = true := List.any_eq_true.2 ⟨_, List.getElem_mem hj, h⟩
set_option maxRecDepth 100000 in
set_option maxHeartbeats 4000000 in
theorem hangs_any (b : Nat) (w : World) (H B : Nat) (x : Hst) (h : HistAt b w H B x) (k : Nat) (hk : k < x.l.length) :
    Calls Try.prog 14 #[.pointer (some ⟨H, 0, none⟩), .int .i64 k] w fun e w' => e = .returned (.bool (hangB x.rs x.l[k].since k)) ∧ Chg [] w w' := by
  obtain ⟨l, rs, ts, la, lc, ra, rc, ta, tc⟩ := x
  simp only at hk
  obtain ⟨n, hn⟩ : ∃ n, n = rs.length := ⟨_, rfl⟩
  obtain ⟨ln, hln⟩ : ∃ n, n = l.length := ⟨_, rfl⟩
  obtain ⟨s, hs⟩ : ∃ s, s = l[k] := ⟨_, rfl⟩
  have hs1 : (⟨l, rs, ts, la, lc, ra, rc, ta, tc⟩ : Hst).l[k] = s := hs.symm
  rw [hs1]
  clear hs1
  obtain ⟨srule, splace, ssince⟩ := s
  obtain ⟨-, x1, x2, x3, -⟩ := cellsH5 h.top
  simp only at x1 x2 x3 ⊢
  rw [← hn] at x2
  rw [← hln] at x1
  obtain ⟨G, eG, hc1, hc2, -, -, -⟩ := h.sdAt hk
  simp only at eG hc1 hc2
  subst eG
  rw [← hln] at hc1
  have hkn : k < ln := by omega
  have HH := Lib.hid (And.intro h (And.intro hn (And.intro hln (⟨hk, hs.symm⟩ : ∃ h : k < l.length, l[k] = _))))
  clear h hn hln hk hs
  go_enter Try.func14, Try.ntmps14
  go_wp2_with fail
  clear x1 x2 x3
  go_loopg [5] n (fun dd iv wr => ∃ i : Nat, dd = n - i ∧ i ≤ n ∧ iv = .int .i64 i ∧ Hid ((∀ j (h : j < rs.length), j < i → (decide (ssince < rs[j].step) && decide (rs[j].pos < (k : Int))) = false) ∧ Chg [] w wr))
  case atStart => exact ⟨0, rfl, Nat.zero_le _, rfl, Lib.hid ⟨fun j h hj => by omega, Chg.refl _ _⟩⟩
  case round =>
    obtain ⟨i, rfl, hi, rfl, hin⟩ := hrel
    obtain ⟨wq, rfl⟩ : ∃ wq, wq = wr := ⟨_, rfl⟩
    have hq := HH.out.1.chg0 hin.out.2
    obtain ⟨-, x1, x2, x3, -⟩ := cellsH5 hq.top
    simp only at x1 x2 x3
    rw [← HH.out.2.1] at x2
    rw [← HH.out.2.2.1] at x1
    by_cases hil : i < n
    · have hiL : i < rs.length := by have := HH.out.2.1; omega
      obtain ⟨hkL, hsk⟩ := HH.out.2.2.2
      obtain ⟨G2, e, hd1, hd2, z0, z1⟩ := hq.rdAt hiL
      obtain ⟨G3, e3, -, -, -, v1, v2⟩ := hq.sdAt hkL
      cases e3
      simp only at e hd1 hd2 z0 z1 v1 v2
      subst e
      rw [← HH.out.2.1] at hd1
      rw [hsk] at v1 v2
      simp only at v1 v2
      obtain ⟨y, hy⟩ : ∃ y, y = rs[i] := ⟨_, rfl⟩
      rw [← hy] at z0 z1
      have HX : Hid (∃ h : i < rs.length, y = rs[i]) := Lib.hid ⟨hiL, hy⟩
      obtain ⟨step, pos⟩ := y
      simp only at z0 z1
      have hi1 : (i : Int) < n := by omega
      have k1 := cell_rg x1
      have k2 := cell_rg x2
      have kz0 := cell_rg z0
      have kz1 := cell_rg z1
      have kv1 := cell_rg v1
      have kv2 := cell_rg v2
      clear hq hy hiL hkL hsk x1 z0 z1 v1 v2 x3
      by_cases h0 : ssince < step
      · have c0 : decide (ssince < step) = true := decide_eq_true h0
        by_cases h1 : pos < (k : Int)
        · have c1 : decide (pos < (k : Int)) = true := decide_eq_true h1
          go_wp2_with fail
          clear x2
          refine wp_region_quiet_below (by kernel_rfl) (by kernel_rfl) ?_
          repeat (go_big_quiet_step (fail))
          refine wpQuiet_nil ?_
          intro w4 hw4
          have HW := Lib.hid (hin.out.2.tr (chg_of_rg hw4))
          clear hw4 k1 k2 kz0 kz1 kv1 kv2
          go_wp2_with fail
          go_ret
          obtain ⟨hiL, e9⟩ := HX.out
          refine ⟨ret_bool ?_, HW.out⟩
          exact (any_true_of hiL (by rw [← e9]; simp only [c0, c1, Bool.and_self, Bool.and_true, decide_true])).symm
        · have hlast : decide (pos < (k : Int)) = false := decide_eq_false h1
          go_wp2_with fail
          clear x2
          refine wp_region_quiet_below (by kernel_rfl) (by kernel_rfl) ?_
          repeat (go_big_quiet_step (fail))
          refine wpQuiet_nil ?_
          intro w4 hw4
          have HW := Lib.hid (hin.out.2.tr (chg_of_rg hw4))
          clear hw4 k1 k2 kz0 kz1 kv1 kv2
          go_wp2_with fail
          go_roundg (n - (i + 1))
          case measure => omega
          case rel =>
            refine ⟨i + 1, rfl, by omega, by go_num, Lib.hid ⟨fun j h hj => ?_, HW.out⟩⟩
            by_cases e : j = i
            · subst e
              obtain ⟨_, e9⟩ := HX.out
              rw [← e9]
              simp only [hlast, Bool.false_and, Bool.and_false]
            · exact hin.out.1 j h (by omega)
      · have hlast : decide (ssince < step) = false := decide_eq_false h0
        go_wp2_with fail
        clear x2
        refine wp_region_quiet_below (by kernel_rfl) (by kernel_rfl) ?_
        repeat (go_big_quiet_step (fail))
        refine wpQuiet_nil ?_
        intro w4 hw4
        have HW := Lib.hid (hin.out.2.tr (chg_of_rg hw4))
        clear hw4 k1 k2 kz0 kz1 kv1 kv2
        go_wp2_with fail
        go_roundg (n - (i + 1))
        case measure => omega
        case rel =>
          refine ⟨i + 1, rfl, by omega, by go_num, Lib.hid ⟨fun j h hj => ?_, HW.out⟩⟩
          by_cases e : j = i
          · subst e
            obtain ⟨_, e9⟩ := HX.out
            rw [← e9]
            simp only [hlast, Bool.false_and, Bool.and_false]
          · exact hin.out.1 j h (by omega)
    · obtain rfl : i = n := by omega
      clear hq
      go_wp2_with fail
      go_ret
      refine ⟨ret_bool ?_, hin.out.2⟩
      exact (any_false_of fun j hj => hin.out.1 j hj (by have := HH.out.2.1; omega)).symm

set_option maxRecDepth 100000 in
set_option maxHeartbeats 4000000 in
theorem touched_any (b : Nat) (w : World) (H B : Nat) (x : Hst) (h : HistAt b w H B x) (k : Nat) (hk : k < x.l.length) (r : Int) :
    Calls Try.prog 42 #[.pointer (some ⟨H, 0, none⟩), .int .i64 k, .int .i64 r] w fun e w' => e = .returned (.bool (tchB x.ts x.l[k].since x.l[k].place r)) ∧ Chg [] w w' := by
  obtain ⟨l, rs, ts, la, lc, ra, rc, ta, tc⟩ := x
  simp only at hk
  obtain ⟨n, hn⟩ : ∃ n, n = ts.length := ⟨_, rfl⟩
  obtain ⟨ln, hln⟩ : ∃ n, n = l.length := ⟨_, rfl⟩
  obtain ⟨s, hs⟩ : ∃ s, s = l[k] := ⟨_, rfl⟩
  have hs1 : (⟨l, rs, ts, la, lc, ra, rc, ta, tc⟩ : Hst).l[k] = s := hs.symm
  rw [hs1]
  clear hs1
  obtain ⟨srule, splace, ssince⟩ := s
  obtain ⟨-, x1, x2, x3, -⟩ := cellsH5 h.top
  simp only at x1 x2 x3 ⊢
  rw [← hn] at x3
  rw [← hln] at x1
  obtain ⟨G, eG, hc1, hc2, -, -, -⟩ := h.sdAt hk
  simp only at eG hc1 hc2
  subst eG
  rw [← hln] at hc1
  have hkn : k < ln := by omega
  have HH := Lib.hid (And.intro h (And.intro hn (And.intro hln (⟨hk, hs.symm⟩ : ∃ h : k < l.length, l[k] = _))))
  clear h hn hln hk hs
  go_enter Try.func42, Try.ntmps42
  go_wp2_with fail
  clear x1 x2 x3
  go_loopg [7] n (fun dd iv wr => ∃ i : Nat, dd = n - i ∧ i ≤ n ∧ iv = .int .i64 i ∧ Hid ((∀ j (h : j < ts.length), j < i → (decide (ssince ≤ ts[j].step) && (decide (ts[j].rule = r) && decide (ts[j].place = splace))) = false) ∧ Chg [] w wr))
  case atStart => exact ⟨0, rfl, Nat.zero_le _, rfl, Lib.hid ⟨fun j h hj => by omega, Chg.refl _ _⟩⟩
  case round =>
    obtain ⟨i, rfl, hi, rfl, hin⟩ := hrel
    obtain ⟨wq, rfl⟩ : ∃ wq, wq = wr := ⟨_, rfl⟩
    have hq := HH.out.1.chg0 hin.out.2
    obtain ⟨-, x1, x2, x3, -⟩ := cellsH5 hq.top
    simp only at x1 x2 x3
    rw [← HH.out.2.1] at x3
    rw [← HH.out.2.2.1] at x1
    by_cases hil : i < n
    · have hiL : i < ts.length := by have := HH.out.2.1; omega
      obtain ⟨hkL, hsk⟩ := HH.out.2.2.2
      obtain ⟨G2, e, hd1, hd2, z0, z1, z2⟩ := hq.tcAt hiL
      obtain ⟨G3, e3, -, -, -, v1, v2⟩ := hq.sdAt hkL
      cases e3
      simp only at e hd1 hd2 z0 z1 z2 v1 v2
      subst e
      rw [← HH.out.2.1] at hd1
      rw [hsk] at v1 v2
      simp only at v1 v2
      obtain ⟨y, hy⟩ : ∃ y, y = ts[i] := ⟨_, rfl⟩
      rw [← hy] at z0 z1 z2
      have HX : Hid (∃ h : i < ts.length, y = ts[i]) := Lib.hid ⟨hiL, hy⟩
      obtain ⟨step, rule, place⟩ := y
      simp only at z0 z1 z2
      have hi1 : (i : Int) < n := by omega
      have k1 := cell_rg x1
      have k2 := cell_rg x3
      have kz0 := cell_rg z0
      have kz1 := cell_rg z1
      have kz2 := cell_rg z2
      have kv1 := cell_rg v1
      have kv2 := cell_rg v2
      clear hq hy hiL hkL hsk x1 z0 z1 z2 v1 v2 x2
      by_cases h0 : ssince ≤ step
      · have c0 : decide (ssince ≤ step) = true := decide_eq_true h0
        by_cases h1 : rule = r
        · have c1 : decide (rule = r) = true := decide_eq_true h1
          have b1 : (rule == r) = true := by simp [h1]
          by_cases h2 : place = splace
          · have c2 : decide (place = splace) = true := decide_eq_true h2
            have b2 : (place == splace) = true := by simp [h2]
            go_wp2_with fail
            clear x3
            refine wp_region_quiet_below (by kernel_rfl) (by kernel_rfl) ?_
            repeat (go_big_quiet_step (fail))
            refine wpQuiet_nil ?_
            intro w4 hw4
            have HW := Lib.hid (hin.out.2.tr (chg_of_rg hw4))
            clear hw4 k1 k2 kz0 kz1 kz2 kv1 kv2
            go_wp2_with fail
            go_ret
            obtain ⟨hiL, e9⟩ := HX.out
            refine ⟨ret_bool ?_, HW.out⟩
            exact (any_true_of hiL (by rw [← e9]; simp only [c0, c1, c2, Bool.and_self, Bool.and_true, decide_true])).symm
          · have hlast : decide (place = splace) = false := decide_eq_false h2
            have b2 : (place == splace) = false := by simp [h2]
            go_wp2_with fail
            clear x3
            refine wp_region_quiet_below (by kernel_rfl) (by kernel_rfl) ?_
            repeat (go_big_quiet_step (fail))
            refine wpQuiet_nil ?_
            intro w4 hw4
            have HW := Lib.hid (hin.out.2.tr (chg_of_rg hw4))
            clear hw4 k1 k2 kz0 kz1 kz2 kv1 kv2
            go_wp2_with fail
            go_roundg (n - (i + 1))
            case measure => omega
            case rel =>
              refine ⟨i + 1, rfl, by omega, by go_num, Lib.hid ⟨fun j h hj => ?_, HW.out⟩⟩
              by_cases e : j = i
              · subst e
                obtain ⟨_, e9⟩ := HX.out
                rw [← e9]
                simp only [hlast, Bool.false_and, Bool.and_false]
              · exact hin.out.1 j h (by omega)
        · have hlast : decide (rule = r) = false := decide_eq_false h1
          have b1 : (rule == r) = false := by simp [h1]
          go_wp2_with fail
          clear x3
          refine wp_region_quiet_below (by kernel_rfl) (by kernel_rfl) ?_
          repeat (go_big_quiet_step (fail))
          refine wpQuiet_nil ?_
          intro w4 hw4
          have HW := Lib.hid (hin.out.2.tr (chg_of_rg hw4))
          clear hw4 k1 k2 kz0 kz1 kz2 kv1 kv2
          go_wp2_with fail
          go_roundg (n - (i + 1))
          case measure => omega
          case rel =>
            refine ⟨i + 1, rfl, by omega, by go_num, Lib.hid ⟨fun j h hj => ?_, HW.out⟩⟩
            by_cases e : j = i
            · subst e
              obtain ⟨_, e9⟩ := HX.out
              rw [← e9]
              simp only [hlast, Bool.false_and, Bool.and_false]
            · exact hin.out.1 j h (by omega)
      · have hlast : decide (ssince ≤ step) = false := decide_eq_false h0
        go_wp2_with fail
        clear x3
        refine wp_region_quiet_below (by kernel_rfl) (by kernel_rfl) ?_
        repeat (go_big_quiet_step (fail))
        refine wpQuiet_nil ?_
        intro w4 hw4
        have HW := Lib.hid (hin.out.2.tr (chg_of_rg hw4))
        clear hw4 k1 k2 kz0 kz1 kz2 kv1 kv2
        go_wp2_with fail
        go_roundg (n - (i + 1))
        case measure => omega
        case rel =>
          refine ⟨i + 1, rfl, by omega, by go_num, Lib.hid ⟨fun j h hj => ?_, HW.out⟩⟩
          by_cases e : j = i
          · subst e
            obtain ⟨_, e9⟩ := HX.out
            rw [← e9]
            simp only [hlast, Bool.false_and, Bool.and_false]
          · exact hin.out.1 j h (by omega)
    · obtain rfl : i = n := by omega
      clear hq
      go_wp2_with fail
      go_ret
      refine ⟨ret_bool ?_, hin.out.2⟩
      exact (any_false_of fun j hj => hin.out.1 j hj (by have := HH.out.2.1; omega)).symm
end Go.Proofs.Ytnajhcoimohcaaa

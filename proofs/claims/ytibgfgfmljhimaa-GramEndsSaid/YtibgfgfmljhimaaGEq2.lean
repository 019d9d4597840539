/-
  slices.Equal of two lists of rules.
  Conditions: both read as data.
-/
import Derived.Test.YtibgfgfmljhimaaGSame2
set_option linter.unusedVariables false
set_option linter.unusedSimpArgs false
namespace Go.Proofs.Ytibgfgfmljhimaa
open Go.RowKit Go.MapKept Go.Shelf

theorem sameRs_no (l m : List Rl) (k : Nat) (h : k < l.length) (h' : k < m.length) (hn : ¬ (l[k].name.toList = m[k].name.toList ∧ l[k].body = m[k].body)) : sameRs l m = false := by
  rw [← Bool.not_eq_true, sameRs_iff]
  rintro ⟨_, h2⟩
  have := h2 k h h'
  rw [sameR, decide_eq_true_eq] at this
  exact hn this

set_option maxRecDepth 100000 in
set_option maxHeartbeats 2000000 in
theorem equalRules_any (w : World) (a b : Option Addr) (n c m d' : Nat) (xs ys : List Rl) (hn : n = xs.length) (hm : m = ys.length) (hs : n ≤ 9223372036854775807) (hx : Rules w a xs) (hy : Rules w b ys) :
    Calls Try.prog 96 #[.slice a n c, .slice b m d'] w fun e w' => e = .returned (.bool (sameRs xs ys)) ∧ Chg [] w w' := by
  obtain ⟨R, hR⟩ : ∃ R, R = sameRs xs ys := ⟨_, rfl⟩
  rw [← hR]
  have H := Lib.hid (And.intro hn (And.intro hm (And.intro hx (And.intro hy hR))))
  clear hn hm hx hy hR
  by_cases hnm : n = m
  · subst hnm
    go_enter Try.func96, Try.ntmps96
    go_wp2_with fail
    go_loopg [13] n (fun d iv wr => ∃ k : Nat, d = n - k ∧ k ≤ n ∧ iv = .int .i64 k ∧ Hid (Chg [] w wr ∧ ∀ i (h1 : i < xs.length) (h2 : i < ys.length), i < k → sameR xs[i] ys[i] = true))
    case atStart => exact ⟨0, rfl, Nat.zero_le _, rfl, Lib.hid ⟨Chg.refl _ _, fun i _ _ hi => by omega⟩⟩
    case round =>
      obtain ⟨k, rfl, hk, rfl, hin⟩ := hrel
      obtain ⟨wq, rfl⟩ : ∃ wq, wq = wr := ⟨_, rfl⟩
      by_cases hlt : k < n
      · have hkx : k < xs.length := by have := H.out.1; omega
        have hky : k < ys.length := by have := H.out.2.1; omega
        obtain ⟨bx, ox, rfl, hx, hx'⟩ := H.out.2.2.1 k hkx
        obtain ⟨bb, oy, rfl, hy, hy'⟩ := H.out.2.2.2.1 k hky
        have hx := hin.out.1.kp.2 _ _ hx
        have hy := hin.out.1.kp.2 _ _ hy
        have hx' := hin.out.1.kp.2 _ _ hx'
        have hy' := hin.out.1.kp.2 _ _ hy'
        obtain ⟨zx, hzx⟩ : ∃ z, z = xs[k] := ⟨_, rfl⟩
        obtain ⟨zy, hzy⟩ : ∃ z, z = ys[k] := ⟨_, rfl⟩
        rw [← hzx] at hx hx'
        rw [← hzy] at hy hy'
        have HZ := Lib.hid (And.intro hzx hzy)
        clear hzx hzy
        by_cases hb1 : zx.name.toList = zy.name.toList
        · by_cases hb2 : zx.body = zy.body
          · have HB := Lib.hid (And.intro hb1 hb2)
            go_wp2_with fail
            go_quiet (fail)
            go_wp2_with fail
            go_roundg (n - (k + 1))
            case measure => omega
            case rel =>
              refine ⟨k + 1, rfl, by omega, by go_num, Lib.hid ⟨hin.out.1.drewN _, fun i h1 h2 hi => ?_⟩⟩
              by_cases e : i = k
              · subst e
                rw [← HZ.out.1, ← HZ.out.2, sameR, decide_eq_true_eq]
                exact HB.out
              · exact hin.out.2 i h1 h2 (by omega)
          · go_wp2_with fail
            go_quiet (fail)
            go_wp2_with fail
            go_ret
            refine ⟨ret_bool ?_, hin.out.1.drewN _⟩
            rw [H.out.2.2.2.2]
            exact (sameRs_no _ _ k hkx hky (by rw [← HZ.out.1, ← HZ.out.2]; exact fun h => hb2 h.2)).symm
        · go_wp2_with fail
          go_quiet (fail)
          go_wp2_with fail
          go_ret
          refine ⟨ret_bool ?_, hin.out.1.drewN _⟩
          rw [H.out.2.2.2.2]
          exact (sameRs_no _ _ k hkx hky (by rw [← HZ.out.1, ← HZ.out.2]; exact fun h => hb1 h.1)).symm
      · obtain rfl : k = n := by omega
        go_wp2
        go_ret
        refine ⟨ret_bool ?_, hin.out.1⟩
        rw [H.out.2.2.2.2]
        symm
        rw [sameRs_iff]
        have h1 := H.out.1
        have h2 := H.out.2.1
        exact ⟨by omega, fun i i1 i2 => hin.out.2 i i1 i2 (by omega)⟩
  · have hb : (((n : Int)) != ((m : Int))) = true := by simp; omega
    have hnm' : ¬ ((n : Int) = (m : Int)) := by omega
    go_enter Try.func96, Try.ntmps96
    go_wp2_with fail
    go_ret
    refine ⟨ret_bool ?_, Chg.refl _ _⟩
    rw [H.out.2.2.2.2]
    symm
    rw [← Bool.not_eq_true, sameRs_iff]
    rintro ⟨hl, _⟩
    have h1 := H.out.1
    have h2 := H.out.2.1
    omega
end Go.Proofs.Ytibgfgfmljhimaa

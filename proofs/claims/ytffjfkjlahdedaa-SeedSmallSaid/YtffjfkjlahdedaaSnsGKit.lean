/-
  The kit: are two lists of numbers the same.
  Conditions: both read as data.
-/
import Derived.Test.YtffjfkjlahdedaaSnsGSame2
set_option linter.unusedVariables false
set_option linter.unusedSimpArgs false
namespace Go.Proofs.Ytffjfkjlahdedaa
open Go.RowKit Go.MapKept Go.Shelf

set_option maxRecDepth 100000 in
set_option maxHeartbeats 2000000 in
theorem sameInts_any (w : World) (a b : Option Addr) (n c m d' : Nat) (xs ys : List Int) (hn : n = xs.length) (hm : m = ys.length) (hs : n ≤ 9223372036854775807) (hx : Ints w a xs) (hy : Ints w b ys) :
    Calls Try.prog 40 #[.slice a n c, .slice b m d'] w fun e w' => e = .returned (.bool (decide (xs = ys))) ∧ Chg [] w w' := by
  obtain ⟨R, hR⟩ : ∃ R, R = decide (xs = ys) := ⟨_, rfl⟩
  rw [← hR]
  have H := Lib.hid (And.intro hn (And.intro hm (And.intro hx (And.intro hy hR))))
  clear hn hm hx hy hR
  by_cases hnm : n = m
  · subst hnm
    go_enter Try.func40, Try.ntmps40
    go_wp2_with fail
    go_loopg [5] n (fun d iv wr => ∃ k : Nat, d = n - k ∧ k ≤ n ∧ iv = .int .i64 k ∧ Hid (Chg [] w wr ∧ xs.take k = ys.take k))
    case atStart => exact ⟨0, rfl, Nat.zero_le _, rfl, Lib.hid ⟨Chg.refl _ _, rfl⟩⟩
    case round =>
      obtain ⟨k, rfl, hk, rfl, hin⟩ := hrel
      obtain ⟨wq, rfl⟩ : ∃ wq, wq = wr := ⟨_, rfl⟩
      by_cases hlt : k < n
      · have hkx : k < xs.length := by have := H.out.1; omega
        have hky : k < ys.length := by have := H.out.2.1; omega
        obtain ⟨bx, ox, rfl, hx⟩ := H.out.2.2.1 k hkx
        obtain ⟨bb, oy, rfl, hy⟩ := H.out.2.2.2.1 k hky
        have hx := hin.out.1.kp.2 _ _ hx
        have hy := hin.out.1.kp.2 _ _ hy
        obtain ⟨zx, hzx⟩ : ∃ z, z = xs[k] := ⟨_, rfl⟩
        obtain ⟨zy, hzy⟩ : ∃ z, z = ys[k] := ⟨_, rfl⟩
        rw [← hzx] at hx
        rw [← hzy] at hy
        have HZ := Lib.hid (And.intro hzx hzy)
        clear hzx hzy
        go_wp2_with fail
        go_quiet (fail)
        go_wp2_with fail
        · go_ret
          rename_i hz
          refine ⟨ret_bool ?_, hin.out.1.drewN _⟩
          rw [H.out.2.2.2.2]
          symm
          rw [decide_eq_false_iff_not]
          intro hkk
          have : zx = zy := by rw [HZ.out.1, HZ.out.2]; simp only [hkk]
          simp [this] at hz
        · go_roundg (n - (k + 1))
          case measure => omega
          case rel =>
            rename_i hz
            refine ⟨k + 1, rfl, by omega, by go_num, Lib.hid ⟨hin.out.1.drewN _, ?_⟩⟩
            have : zx = zy := by simpa using hz
            rw [List.take_succ_eq_append_getElem hkx, List.take_succ_eq_append_getElem hky, hin.out.2, ← HZ.out.1, ← HZ.out.2, this]
      · obtain rfl : k = n := by omega
        go_wp2
        go_ret
        refine ⟨ret_bool ?_, hin.out.1⟩
        rw [H.out.2.2.2.2]
        symm
        rw [decide_eq_true_eq]
        have hkk := hin.out.2
        have h1 := H.out.1
        have h2 := H.out.2.1
        rw [List.take_of_length_le (by omega), List.take_of_length_le (by omega)] at hkk
        exact hkk
  · have hb : (((n : Int)) != ((m : Int))) = true := by simp; omega
    have hnm' : ¬ ((n : Int) = (m : Int)) := by omega
    go_enter Try.func40, Try.ntmps40
    go_wp2_with fail
    go_ret
    refine ⟨ret_bool ?_, Chg.refl _ _⟩
    rw [H.out.2.2.2.2]
    symm
    rw [decide_eq_false_iff_not]
    intro hkk
    have h1 := H.out.1
    have h2 := H.out.2.1
    rw [hkk] at h1
    omega
end Go.Proofs.Ytffjfkjlahdedaa
set_option linter.unusedVariables false
set_option linter.unusedSimpArgs false
namespace Go.Proofs.Ytffjfkjlahdedaa
open Go.RowKit Go.MapKept Go.Shelf

end Go.Proofs.Ytffjfkjlahdedaa

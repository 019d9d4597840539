/-
  The kit: are two rows of rows of numbers the same, where they are.
  Conditions: both read as data.
-/
import Derived.Test.YtibgfgfmljhimaaLfD
import Derived.Test.YtibgfgfmljhimaaGKit
set_option linter.unusedVariables false
set_option linter.unusedSimpArgs false
set_option linter.unnecessarySimpa false
namespace Go.Proofs.Ytibgfgfmljhimaa
open Go.RowKit Go.MapKept Go.Shelf

/-- Rows of numbers, as they lie. -/
def IntRows (w : World) (a : Option Addr) (VS : List Is) : Prop := ∀ i (h : i < VS.length), ∃ b o, a = some ⟨b, o, none⟩ ∧ w.cell? ⟨b, o + i, none⟩ = some VS[i].cell ∧ Ints w VS[i].1 VS[i].2.2 ∧ VS[i].2.2.length ≤ 9223372036854775807
theorem OwnIs.rows {B : Nat} {w : World} {a : Option Addr} {c : Nat} {VS : List Is} (h : OwnIs B w a c VS) : IntRows w a VS := fun i hi => by
  obtain ⟨gb, rfl, hgb, hgc⟩ := h.at hi
  have := (ownInts_read (h.each _ (List.getElem_mem hi)).own).2.2
  simp only [maxLen] at this
  exact ⟨gb, 0, rfl, by rw [Nat.zero_add]; exact hgc, h.ints hi, by omega⟩
theorem IntRows.keep {w w' : World} {a : Option Addr} {VS : List Is} (h : IntRows w a VS) (k : Kp w w') : IntRows w' a VS := fun i hi => by
  obtain ⟨b, o, rfl, h1, h2, h3⟩ := h i hi
  exact ⟨b, o, rfl, k.2 _ _ h1, h2.keep k, h3⟩

set_option maxRecDepth 100000 in
set_option maxHeartbeats 4000000 in
theorem sameIntRows_yes (w : World) (a b : Option Addr) (n c d' : Nat) (VS US : List Is) (hn : n = VS.length) (hs : n ≤ 9223372036854775807) (hx : IntRows w a VS) (hy : IntRows w b US) (he : VS.map (·.2.2) = US.map (·.2.2)) :
    Calls Try.prog 66 #[.slice a n c, .slice b n d'] w fun e w' => e = .returned (.bool true) ∧ Chg [] w w' := by
  have H := Lib.hid (And.intro hn (And.intro hx (And.intro hy he)))
  clear hn hx hy he
  go_enter Try.func66, Try.ntmps66
  go_wp2_with fail
  go_loopg [5] n (fun d iv wr => ∃ k : Nat, d = n - k ∧ k ≤ n ∧ iv = .int .i64 k ∧ Hid (Chg [] w wr))
  case atStart => exact ⟨0, rfl, Nat.zero_le _, rfl, Lib.hid (Chg.refl _ _)⟩
  case round =>
    obtain ⟨k, rfl, hk, rfl, hin⟩ := hrel
    obtain ⟨wq, rfl⟩ : ∃ wq, wq = wr := ⟨_, rfl⟩
    by_cases hlt : k < n
    · have hkx : k < VS.length := by have := H.out.1; omega
      have hlen := congrArg List.length H.out.2.2.2
      rw [List.length_map, List.length_map] at hlen
      have hky : k < US.length := by omega
      obtain ⟨bx, ox, rfl, hx, ix, lx⟩ := (H.out.2.1.keep hin.out.kp) k hkx
      obtain ⟨bb, oy, rfl, hy, iy, ly⟩ := (H.out.2.2.1.keep hin.out.kp) k hky
      have hrow : VS[k].2.2 = US[k].2.2 := by
        have h1 : (VS.map (·.2.2))[k]? = (US.map (·.2.2))[k]? := by rw [H.out.2.2.2]
        simpa [hkx, hky] using h1
      obtain ⟨z, hz⟩ : ∃ z, z = VS[k].2.2 := ⟨_, rfl⟩
      simp only [Is.cell, ← hrow] at hx hy iy ly
      simp only [← hz] at hx hy ix iy lx ly
      obtain ⟨zl, hzl⟩ : ∃ zl, zl = z.length := ⟨_, rfl⟩
      obtain ⟨va, hva⟩ : ∃ va, va = VS[k].1 := ⟨_, rfl⟩
      obtain ⟨vc, hvc⟩ : ∃ vc, vc = VS[k].2.1 := ⟨_, rfl⟩
      obtain ⟨ua, hua⟩ : ∃ ua, ua = US[k].1 := ⟨_, rfl⟩
      obtain ⟨uc, huc⟩ : ∃ uc, uc = US[k].2.1 := ⟨_, rfl⟩
      rw [← hzl, ← hva, ← hvc] at hx
      rw [← hzl, ← hua, ← huc] at hy
      rw [← hva] at ix
      rw [← hua] at iy
      have cA := calls_rg (w := wq) (fun w1 h1 => sameInts_any w1 va ua zl vc zl uc z z hzl hzl (by omega) (ix.keep h1.kp) (iy.keep h1.kp))
      rw [decide_eq_true (rfl : z = z)] at cA
      have kx := cell_rg hx
      have ky := cell_rg hy
      clear hkx hlen hky hrow hz hva hvc hua huc ix iy lx ly hx hy hzl
      go_wp2_with fail
      refine wp_region_quiet_below (by kernel_rfl) (by kernel_rfl) ?_
      repeat (go_big_quiet_step (first | (with_reducible exact cA _ _)))
      refine wpQuiet_nil ?_
      intro w4 hw4
      have hc4 := chg_of_rg hw4
      clear hw4 cA kx ky
      go_wp2_with fail
      go_roundg (n - (k + 1))
      case measure => omega
      case rel => exact ⟨k + 1, rfl, by omega, by go_num, Lib.hid (hin.out.tr hc4)⟩
    · obtain rfl : k = n := by omega
      go_wp2_with fail
      go_ret
      exact ⟨rfl, hin.out⟩
end Go.Proofs.Ytibgfgfmljhimaa

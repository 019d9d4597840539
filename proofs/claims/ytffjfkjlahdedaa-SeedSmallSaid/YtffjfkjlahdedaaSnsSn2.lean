/-
  SeedSmall: all rows of six deeds of two rules and two places; the ends of the numbers; no store.
  Conditions: none.
-/
import Derived.Test.YtffjfkjlahdedaaSnsSn1
import Derived.Deep.CutRange
set_option linter.unusedVariables false
set_option linter.unusedSimpArgs false
set_option linter.unnecessarySimpa false
namespace Go.Proofs.Ytffjfkjlahdedaa
open Go.RowKit Go.MapKept

theorem Try.infoStore0 : (Try.prog.info? 68).map (fun i => (i.zero, i.size, i.bytes)) = some (some (.agg #[.slice none 0 0, .map none]), 2, 32) := by kernel_rfl
theorem Try.infoSeed0 : (Try.prog.info? 36).map (fun i => (i.zero, i.size, i.bytes)) = some (some (.agg #[.int .i64 0, .int .i64 0, .slice none 0 0]), 3, 40) := by kernel_rfl
theorem cellsI4 {w : World} {b : Nat} {v0 v1 v2 v3 : Value} {t : TypeId} {m : Nat × Nat} (h : w.heap[b]? = some (.cells #[v0, v1, v2, v3] t m)) :
    w.cell? ⟨b, 0, none⟩ = some v0 ∧ w.cell? ⟨b, 1, none⟩ = some v1 ∧ w.cell? ⟨b, 2, none⟩ = some v2 ∧ w.cell? ⟨b, 3, none⟩ = some v3 :=
  ⟨cell_of_cells h 0, cell_of_cells h 1, cell_of_cells h 2, cell_of_cells h 3⟩
theorem mulB (a : Int) (b : Nat) (h : 0 ≤ a ∧ a < 2) (hb : b < 2) : ∃ p : Int, IntKind.i64.wrap (a * (b : Int)) = p ∧ 0 ≤ p ∧ p ≤ 1 := by
  rcases (show a = 0 ∨ a = 1 by omega) with rfl | rfl <;> rcases (show b = 0 ∨ b = 1 by omega) with rfl | rfl <;> exact ⟨_, rfl, by decide, by decide⟩

set_option maxRecDepth 100000 in
set_option maxHeartbeats 8000000 in
theorem small19_any (w : World) : Calls Try.prog 6 #[] w fun e w' => e = .returned (.bool true) ∧ Chg [] w w' := by
  obtain ⟨i1, hi1, hy0, hy1, hy2⟩ := info_parts Try.infoDeed
  obtain ⟨i2, hi2, hz0, hz1, hz2⟩ := info_parts Try.infoStore0
  obtain ⟨i3, hi3, hu0, hu1, hu2⟩ := info_parts Try.infoSeed0
  obtain ⟨b, hb⟩ : ∃ z, z = w.heap.size := ⟨_, rfl⟩
  have HB := Lib.hid hb
  clear hb
  go_enter Try.func6, Try.ntmps6
  go_wp2_with fail
  go_loopg [1] 4096 (fun dd iv wr => ∃ n : Nat, dd = 4096 - n ∧ n ≤ 4096 ∧ iv = .int .i64 n ∧ Hid (Chg [] w wr))
  case atStart => exact ⟨0, rfl, Nat.zero_le _, rfl, Lib.hid (Chg.refl _ _)⟩
  case round =>
    obtain ⟨n, rfl, hn, rfl, hI⟩ := hrel
    obtain ⟨wq, rfl⟩ : ∃ wq, wq = wr := ⟨_, rfl⟩
    by_cases hnl : n < 4096
    · have hn2 : decide ((n : Int) < 4096) = true := decide_eq_true (by omega)
      obtain ⟨r39, hr39, hr39a, hr39b⟩ : ∃ r : Int, (n : Int) / 7 % 2 = r ∧ 0 ≤ r ∧ r < 2 := ⟨_, rfl, by omega, by omega⟩
      obtain ⟨r50, hr50, hr50a, hr50b⟩ : ∃ r : Int, (n : Int) / 5 % 2 = r ∧ 0 ≤ r ∧ r < 2 := ⟨_, rfl, by omega, by omega⟩
      go_wp2_with fail
      clear hn2
      go_loopg [2, 3] 6 (fun dd lv kv wr => ∃ k : Nat, ∃ a c, dd = 6 - k ∧ k ≤ 6 ∧ lv = .slice a k c ∧ kv = .int .i64 k ∧ Hid (∃ l, l.length = k ∧ DeedsRow b wr a c l ∧ Chg [] w wr))
      case atStart => exact ⟨0, none, 0, rfl, Nat.zero_le _, rfl, rfl, Lib.hid ⟨[], rfl, DeedsRow.nil _ _, hI.out⟩⟩
      case round =>
        obtain ⟨k, a, c, rfl, hk, rfl, rfl, hJ⟩ := hrel
        obtain ⟨wy, rfl⟩ : ∃ wy, wy = wr := ⟨_, rfl⟩
        by_cases hkl : k < 6
        · have hk2 : decide ((k : Int) < 6) = true := decide_eq_true (by omega)
          have hw1 : IntKind.i64.wrap (2 * (k : Int)) = 2 * (k : Int) := IntWalk.i64_in _ (by omega)
          have hw3 : IntKind.i64.wrap (3 * (k : Int)) = 3 * (k : Int) := IntWalk.i64_in _ (by omega)
          obtain ⟨m, hm4, hmE⟩ := and3n n k hnl
          obtain ⟨kb, hkb2, hkbE⟩ := and1s k hkl
          obtain ⟨p42, hp42, hp42a, hp42b⟩ := mulB r39 kb ⟨hr39a, hr39b⟩ hkb2
          have hp42' : wrap64 (r39 * (kb : Int)) = p42 := (IntWalk.i64_left _).symm.trans hp42
          have hw4 : IntKind.i64.wrap ((n : Int) + k) = (n : Int) + k := IntWalk.i64_in _ (by omega)
          obtain ⟨r36, hr36, hr36a, hr36b⟩ := tmodB ((n : Int) + k) (by omega) 2 (by decide)
          have hw5 : IntKind.i64.wrap ((n : Int) + 3 * (k : Int)) = (n : Int) + 3 * (k : Int) := IntWalk.i64_in _ (by omega)
          obtain ⟨r47, hr47, hr47a, hr47b⟩ := tmodB ((n : Int) + 3 * (k : Int)) (by omega) 4 (by decide)
          obtain ⟨wv, hwv, hcv⟩ : ∃ wv, I64 wv ∧ (wy.alloc (.cells #[.int .i64 0, .int .i64 1, .int .i64 2, .int .i64 5] 3)).cell? ⟨wy.heap.size, m, none⟩ = some (.int .i64 wv) := by
            obtain ⟨x0, x1, x2, x3⟩ := cellsI4 (heap_alloc_same wy (.cells #[.int .i64 0, .int .i64 1, .int .i64 2, .int .i64 5] 3))
            rcases (show m = 0 ∨ m = 1 ∨ m = 2 ∨ m = 3 by omega) with rfl | rfl | rfl | rfl
            · exact ⟨_, ⟨by decide, by decide⟩, x0⟩
            · exact ⟨_, ⟨by decide, by decide⟩, x1⟩
            · exact ⟨_, ⟨by decide, by decide⟩, x2⟩
            · exact ⟨_, ⟨by decide, by decide⟩, x3⟩
          obtain ⟨l, hl, hd, hcy⟩ := hJ.out
          have hby : b ≤ wy.heap.size := by rw [HB.out]; exact hcy.size
          have hA1 := (Chg.refl [] wy).alloc (.cells #[.int .i64 0, .int .i64 1, .int .i64 2, .int .i64 5] 3)
          obtain ⟨W1, e1⟩ : ∃ z, z = wy.alloc (.cells #[.int .i64 0, .int .i64 1, .int .i64 2, .int .i64 5] 3) := ⟨_, rfl⟩
          have s1 : W1.heap.size = wy.heap.size + 1 := by rw [e1, World.size_alloc]
          rw [← e1] at hA1
          have hA2 := hA1.alloc (.cells #[.int .i64 (k : Int), .int .i64 0, .int .i64 0, .int .i64 0, .int .i64 0] 33)
          have hpair := fun (w' : World) (hc : Chg [] (W1.alloc (.cells #[.int .i64 (k : Int), .int .i64 0, .int .i64 0, .int .i64 0, .int .i64 0] 33)) w') => freshOne b W1 (by omega) (k : Int) hc
          obtain ⟨W2, e2⟩ : ∃ z, z = W1.alloc (.cells #[.int .i64 (k : Int), .int .i64 0, .int .i64 0, .int .i64 0, .int .i64 0] 33) := ⟨_, rfl⟩
          have s2 : W2.heap.size = wy.heap.size + 2 := by rw [e2, World.size_alloc, s1]
          rw [← e2] at hA2 hpair
          rw [s1] at hpair
          have hA3 := hA2.alloc (.cells #[.int .i64 wv, .int .i64 r36, .int .i64 p42, .int .i64 r47, .int .i64 r50, .slice (some ⟨wy.heap.size + 1, 0, none⟩) 1 1] 54)
          have hnew := cells_at (heap_alloc_same W2 (.cells #[.int .i64 wv, .int .i64 r36, .int .i64 p42, .int .i64 r47, .int .i64 r50, .slice (some ⟨wy.heap.size + 1, 0, none⟩) 1 1] 54))
          have hpr3 := hpair _ ((Chg.refl [] W2).alloc (.cells #[.int .i64 wv, .int .i64 r36, .int .i64 p42, .int .i64 r47, .int .i64 r50, .slice (some ⟨wy.heap.size + 1, 0, none⟩) 1 1] 54))
          obtain ⟨W3, e3⟩ : ∃ z, z = W2.alloc (.cells #[.int .i64 wv, .int .i64 r36, .int .i64 p42, .int .i64 r47, .int .i64 r50, .slice (some ⟨wy.heap.size + 1, 0, none⟩) 1 1] 54) := ⟨_, rfl⟩
          rw [← e3] at hA3 hnew hpr3
          rw [s2] at hnew
          have hrow := (hd.chg0 hA3).row
          rw [hl] at hrow
          have hone : ∀ u ∈ ([.int .i64 wv, .int .i64 r36, .int .i64 p42, .int .i64 r47, .int .i64 r50, .slice (some ⟨wy.heap.size + 1, 0, none⟩) 1 1] : List Value), u.oneCell' = true := by simp [Value.oneCell']
          have h2' : k + 1 ≤ maxLen ∧ (k + 1) * 64 ≤ 140737488355328 := by simp only [maxLen]; omega
          have hb3 : b ≤ W3.heap.size := Nat.le_trans hby hA3.size
          have HA := Lib.hid (And.intro hrow (And.intro hnew (And.intro hone (And.intro h2' (And.intro hb3 (And.intro hpr3 (And.intro hd (And.intro hA3 (And.intro hcy hl)))))))))
          have HW := Lib.hid (And.intro hwv (And.intro (And.intro hr36a hr36b) (And.intro (And.intro hp42a hp42b) (And.intro (And.intro hr47a hr47b) (And.intro hr50a hr50b)))))
          rw [e1] at e2
          rw [e2] at e3
          have HE := Lib.hid e3
          have hm4' : (m : Int) < 4 := by omega
          clear hrow hnew hone h2' hb3 hpr3 hd hA3 hcy hl hwv hA1 hA2 hpair s1 s2 e1 e2 e3 W1 W2 hby
          go_wp2_with (at_builtin; rw [← HE.out]; refine wpList_append_own_at _ rfl _ _ 47 rfl b 54 i1 _ 6 64 Try.underlying47 hi1 hy0 hy1 hy2 rfl (by decide) (.slice a k c) k (dwCells l) rfl HA.out.1 ⟨wy.heap.size + 2, 0, none⟩ 1 1 [.int .i64 wv, .int .i64 r36, .int .i64 p42, .int .i64 r47, .int .i64 r50, .slice (some ⟨wy.heap.size + 1, 0, none⟩) 1 1] rfl rfl HA.out.2.1 HA.out.2.2.1 HA.out.2.2.2.1.1 HA.out.2.2.2.1.2 HA.out.2.2.2.2.1 ?_; intro v' w5 hr5 hg5 hn5 hb5; obtain ⟨a5, c5, rfl⟩ := ownsRow_slice hr5; have HX := Lib.hid (And.intro hr5 hg5); clear hr5 hg5 hn5 hb5)
          go_roundg (6 - (k + 1))
          case measure => omega
          case rel =>
            obtain ⟨-, -, -, -, -, hpr3, hd, hA3, hcy, hl⟩ := HA.out
            have hx := HW.out
            obtain ⟨p1, p2⟩ := hd.push hA3 [⟨⟨wv, r36, p42, r47, r50, [⟨(k : Int), 0, 0, 0, 0⟩]⟩, some ⟨wy.heap.size + 1, 0, none⟩, 1⟩] (fun x hx9 => by
              simp only [List.mem_singleton] at hx9
              subst hx9
              exact ⟨⟨hx.1, ⟨by simp only; omega, by simp only; omega⟩, ⟨by simp only; omega, by simp only; omega⟩, ⟨by simp only; omega, by simp only; omega⟩, ⟨by simp only; omega, by simp only; omega⟩⟩, hpr3, by simp⟩) (by rw [hl]; rfl) HX.out.1 (by rw [hl]; exact HX.out.2)
            refine ⟨k + 1, a5, c5, rfl, by omega, rfl, by go_num, Lib.hid ⟨_, by rw [List.length_append, hl]; rfl, p1, hcy.trans p2 (fun j hj => .inr ?_)⟩⟩
            have := (row_beyond hd.row (j := j) (by simpa using hj)).1
            have := HB.out
            omega
        · obtain rfl : k = 6 := by omega
          obtain ⟨l, hl, hd, hcy⟩ := hJ.out
          have hdo := seedDoes_row wy b a 6 c _ hd hl.symm (by decide)
          have HC := Lib.hid hcy
          clear hd hcy hl
          go_wp2_with fail
          refine hdo.mono ?_
          clear hdo
          rintro e w6 ⟨rfl, hc6⟩
          go_wp2_with fail
          go_roundg (4096 - (n + 1))
          case measure => omega
          case rel => exact ⟨n + 1, rfl, by omega, by go_num, Lib.hid (HC.out.tr hc6)⟩
    · obtain rfl : n = 4096 := by omega
      obtain ⟨E, hE⟩ : ∃ z, z = wq.heap.size := ⟨_, rfl⟩
      have hdE := heap_alloc_same wq (.cells #[.int .i64 (-9223372036854775808), .int .i64 (-1), .int .i64 0, .int .i64 9223372036854775807] 3)
      have hcE := hI.out.alloc (.cells #[.int .i64 (-9223372036854775808), .int .i64 (-1), .int .i64 0, .int .i64 9223372036854775807] 3)
      obtain ⟨w1, e1⟩ : ∃ z, z = wq.alloc (.cells #[.int .i64 (-9223372036854775808), .int .i64 (-1), .int .i64 0, .int .i64 9223372036854775807] 3) := ⟨_, rfl⟩
      rw [← e1, ← hE] at hdE
      rw [← e1] at hcE
      have H1 := Lib.hid (And.intro hdE hcE)
      have HE1 := Lib.hid (And.intro hE e1)
      clear hdE hcE hE e1
      go_wp2_with fail
      rw [← HE1.out.1, ← HE1.out.2]
      go_loopg [6] 4 (fun dd iv wr => ∃ i : Nat, dd = 4 - i ∧ i ≤ 4 ∧ iv = .int .i64 i ∧ Hid (Chg [] w1 wr))
      case atStart => exact ⟨0, rfl, Nat.zero_le _, rfl, Lib.hid (Chg.refl _ _)⟩
      case round =>
        obtain ⟨i, rfl, hi, rfl, hJ⟩ := hrel
        obtain ⟨wz, rfl⟩ : ∃ wz, wz = wr := ⟨_, rfl⟩
        by_cases hil : i < 4
        · have hi2 : decide ((i : Int) < 4) = true := decide_eq_true (by omega)
          obtain ⟨j, hj⟩ : ∃ j : Nat, i + j = 3 := ⟨3 - i, by omega⟩
          have hj1 : IntKind.i64.wrap (3 - (i : Int)) = (j : Int) := by rw [IntWalk.i64_in _ (by omega)]; omega
          have hcells : ∀ q : Nat, q < 4 → ∃ u, I64 u ∧ wz.cell? ⟨E, q, none⟩ = some (.int .i64 u) := fun q hq => by
            obtain ⟨x0, x1, x2, x3⟩ := cellsI4 (hJ.out.heap H1.out.1 (by simp))
            rcases (show q = 0 ∨ q = 1 ∨ q = 2 ∨ q = 3 by omega) with rfl | rfl | rfl | rfl
            · exact ⟨_, ⟨by decide, by decide⟩, x0⟩
            · exact ⟨_, ⟨by decide, by decide⟩, x1⟩
            · exact ⟨_, ⟨by decide, by decide⟩, x2⟩
            · exact ⟨_, ⟨by decide, by decide⟩, x3⟩
          obtain ⟨u, hu, cu⟩ := hcells i hil
          obtain ⟨v, hv, cv⟩ := hcells j (by omega)
          have hjl : j < 4 := by omega
          have hi4 : (i : Int) < 4 := by omega
          have hj4 : (j : Int) < 4 := by omega
          have HU := Lib.hid (And.intro hu hv)
          have HJJ := Lib.hid hj
          clear hcells hu hv hj
          go_wp2_with fail
          go_still_tail 26, (by kernel_rfl)
          change wpList _ _ _ _ _ wz.drew
          have hd := hJ.out.tr ((Chg.refl [] wz).drew)
          obtain ⟨w3, e3⟩ : ∃ w3, w3 = wz.drew := ⟨_, rfl⟩
          rw [← e3] at hd ⊢
          have hnew := heap_alloc_same w3 (.cells #[.int .i64 0, .int .i64 u, .int .i64 v, .int .i64 0, .int .i64 0, .slice none 0 0, .int .i64 1, .int .i64 0, .int .i64 0, .int .i64 (-4611686018427387904), .int .i64 (-3), .slice none 0 0, .int .i64 0, .int .i64 v, .int .i64 u, .int .i64 0, .int .i64 0, .slice none 0 0, .int .i64 5, .int .i64 0, .int .i64 0, .int .i64 0, .int .i64 0, .slice none 0 0, .int .i64 2, .int .i64 0, .int .i64 0, .int .i64 0, .int .i64 0, .slice none 0 0, .int .i64 2, .int .i64 0, .int .i64 0, .int .i64 0, .int .i64 0, .slice none 0 0, .int .i64 2, .int .i64 0, .int .i64 0, .int .i64 0, .int .i64 0, .slice none 0 0, .int .i64 1, .int .i64 0, .int .i64 0, .int .i64 0, .int .i64 0, .slice none 0 0] 54)
          have hc4 := hd.alloc (.cells #[.int .i64 0, .int .i64 u, .int .i64 v, .int .i64 0, .int .i64 0, .slice none 0 0, .int .i64 1, .int .i64 0, .int .i64 0, .int .i64 (-4611686018427387904), .int .i64 (-3), .slice none 0 0, .int .i64 0, .int .i64 v, .int .i64 u, .int .i64 0, .int .i64 0, .slice none 0 0, .int .i64 5, .int .i64 0, .int .i64 0, .int .i64 0, .int .i64 0, .slice none 0 0, .int .i64 2, .int .i64 0, .int .i64 0, .int .i64 0, .int .i64 0, .slice none 0 0, .int .i64 2, .int .i64 0, .int .i64 0, .int .i64 0, .int .i64 0, .slice none 0 0, .int .i64 2, .int .i64 0, .int .i64 0, .int .i64 0, .int .i64 0, .slice none 0 0, .int .i64 1, .int .i64 0, .int .i64 0, .int .i64 0, .int .i64 0, .slice none 0 0] 54)
          have hb3 : b ≤ w3.heap.size := by rw [HB.out]; exact (H1.out.2.tr hd).size
          have hrow : (w3.alloc (.cells #[.int .i64 0, .int .i64 u, .int .i64 v, .int .i64 0, .int .i64 0, .slice none 0 0, .int .i64 1, .int .i64 0, .int .i64 0, .int .i64 (-4611686018427387904), .int .i64 (-3), .slice none 0 0, .int .i64 0, .int .i64 v, .int .i64 u, .int .i64 0, .int .i64 0, .slice none 0 0, .int .i64 5, .int .i64 0, .int .i64 0, .int .i64 0, .int .i64 0, .slice none 0 0, .int .i64 2, .int .i64 0, .int .i64 0, .int .i64 0, .int .i64 0, .slice none 0 0, .int .i64 2, .int .i64 0, .int .i64 0, .int .i64 0, .int .i64 0, .slice none 0 0, .int .i64 2, .int .i64 0, .int .i64 0, .int .i64 0, .int .i64 0, .slice none 0 0, .int .i64 1, .int .i64 0, .int .i64 0, .int .i64 0, .int .i64 0, .slice none 0 0] 54)).ownsRow b 54 6 (.slice (some ⟨w3.heap.size, 0, none⟩) 8 8) 8 (dwCells [⟨⟨0, u, v, 0, 0, []⟩, none, 0⟩, ⟨⟨1, 0, 0, (-4611686018427387904), (-3), []⟩, none, 0⟩, ⟨⟨0, v, u, 0, 0, []⟩, none, 0⟩, ⟨⟨5, 0, 0, 0, 0, []⟩, none, 0⟩, ⟨⟨2, 0, 0, 0, 0, []⟩, none, 0⟩, ⟨⟨2, 0, 0, 0, 0, []⟩, none, 0⟩, ⟨⟨2, 0, 0, 0, 0, []⟩, none, 0⟩, ⟨⟨1, 0, 0, 0, 0, []⟩, none, 0⟩]) := ⟨rfl, .inr ⟨w3.heap.size, 8, #[.int .i64 0, .int .i64 u, .int .i64 v, .int .i64 0, .int .i64 0, .slice none 0 0, .int .i64 1, .int .i64 0, .int .i64 0, .int .i64 (-4611686018427387904), .int .i64 (-3), .slice none 0 0, .int .i64 0, .int .i64 v, .int .i64 u, .int .i64 0, .int .i64 0, .slice none 0 0, .int .i64 5, .int .i64 0, .int .i64 0, .int .i64 0, .int .i64 0, .slice none 0 0, .int .i64 2, .int .i64 0, .int .i64 0, .int .i64 0, .int .i64 0, .slice none 0 0, .int .i64 2, .int .i64 0, .int .i64 0, .int .i64 0, .int .i64 0, .slice none 0 0, .int .i64 2, .int .i64 0, .int .i64 0, .int .i64 0, .int .i64 0, .slice none 0 0, .int .i64 1, .int .i64 0, .int .i64 0, .int .i64 0, .int .i64 0, .slice none 0 0], rfl, hb3, hnew, Nat.le_refl _, by decide, rfl, rfl⟩⟩
          obtain ⟨w4, e4⟩ : ∃ z, z = w3.alloc (.cells #[.int .i64 0, .int .i64 u, .int .i64 v, .int .i64 0, .int .i64 0, .slice none 0 0, .int .i64 1, .int .i64 0, .int .i64 0, .int .i64 (-4611686018427387904), .int .i64 (-3), .slice none 0 0, .int .i64 0, .int .i64 v, .int .i64 u, .int .i64 0, .int .i64 0, .slice none 0 0, .int .i64 5, .int .i64 0, .int .i64 0, .int .i64 0, .int .i64 0, .slice none 0 0, .int .i64 2, .int .i64 0, .int .i64 0, .int .i64 0, .int .i64 0, .slice none 0 0, .int .i64 2, .int .i64 0, .int .i64 0, .int .i64 0, .int .i64 0, .slice none 0 0, .int .i64 2, .int .i64 0, .int .i64 0, .int .i64 0, .int .i64 0, .slice none 0 0, .int .i64 1, .int .i64 0, .int .i64 0, .int .i64 0, .int .i64 0, .slice none 0 0] 54) := ⟨_, rfl⟩
          rw [← e4] at hrow hc4
          obtain ⟨R, hR⟩ : ∃ z, z = w3.heap.size := ⟨_, rfl⟩
          rw [← hR] at hrow
          have hdr : DeedsRow b w4 (some ⟨R, 0, none⟩) 8 [⟨⟨0, u, v, 0, 0, []⟩, none, 0⟩, ⟨⟨1, 0, 0, (-4611686018427387904), (-3), []⟩, none, 0⟩, ⟨⟨0, v, u, 0, 0, []⟩, none, 0⟩, ⟨⟨5, 0, 0, 0, 0, []⟩, none, 0⟩, ⟨⟨2, 0, 0, 0, 0, []⟩, none, 0⟩, ⟨⟨2, 0, 0, 0, 0, []⟩, none, 0⟩, ⟨⟨2, 0, 0, 0, 0, []⟩, none, 0⟩, ⟨⟨1, 0, 0, 0, 0, []⟩, none, 0⟩] := ⟨hrow, fun x hx9 => by
            obtain ⟨hu, hv⟩ := HU.out
            simp only [List.mem_cons, List.not_mem_nil, or_false] at hx9
            have hnil : FreshTw b w4 none 0 [] := World.ownsRow_nil _ _ _ _
            have z0 : I64 0 := ⟨by decide, by decide⟩
            rcases hx9 with rfl | rfl | rfl | rfl | rfl | rfl | rfl | rfl
            · exact ⟨⟨z0, hu, hv, z0, z0⟩, hnil, by simp⟩
            · exact ⟨⟨⟨by decide, by decide⟩, z0, z0, ⟨by decide, by decide⟩, ⟨by decide, by decide⟩⟩, hnil, by simp⟩
            · exact ⟨⟨z0, hv, hu, z0, z0⟩, hnil, by simp⟩
            all_goals exact ⟨⟨⟨by decide, by decide⟩, z0, z0, z0, z0⟩, hnil, by simp⟩⟩
          have hdo := seedDoes_row w4 b _ 8 8 _ hdr rfl (by decide)
          have HC := Lib.hid hc4
          have HR := Lib.hid (And.intro hR e4)
          clear hd e3 hnew hc4 hb3 hrow hR hdr e4 cu cv
          go_wp2_with fail
          rw [← HR.out.1, ← HR.out.2]
          refine hdo.mono ?_
          clear hdo
          rintro e w6 ⟨rfl, hc6⟩
          go_wp2_with fail
          go_roundg (4 - (i + 1))
          case measure => omega
          case rel => exact ⟨i + 1, rfl, by omega, by go_num, Lib.hid (HC.out.tr hc6)⟩
        · obtain rfl : i = 4 := by omega
          have hcz : Chg [] w wz := H1.out.2.tr hJ.out
          have hd0 := heap_alloc_same wz (.cells #[.slice none 0 0, .map none] 68)
          have hc0 := hcz.alloc (.cells #[.slice none 0 0, .map none] 68)
          obtain ⟨A, hA⟩ : ∃ z, z = wz.heap.size := ⟨_, rfl⟩
          have hsz : (wz.alloc (.cells #[.slice none 0 0, .map none] 68)).heap.size = A + 1 := by rw [World.size_alloc, hA]
          obtain ⟨w0, e0⟩ : ∃ z, z = wz.alloc (.cells #[.slice none 0 0, .map none] 68) := ⟨_, rfl⟩
          rw [← e0, ← hA] at hd0
          rw [← e0] at hc0 hsz
          obtain ⟨L, hL⟩ : ∃ z, z = A + 1 := ⟨_, rfl⟩
          have hd1 := heap_alloc_same w0 (.cells #[.pointer none, .pointer (some ⟨A, 0, none⟩)] 24)
          have hc1 := (Chg.refl [] w0).alloc (.cells #[.pointer none, .pointer (some ⟨A, 0, none⟩)] 24)
          obtain ⟨w2, e2⟩ : ∃ z, z = w0.alloc (.cells #[.pointer none, .pointer (some ⟨A, 0, none⟩)] 24) := ⟨_, rfl⟩
          rw [← e2, hsz, ← hL] at hd1
          rw [← e2] at hc1
          have HH := Lib.hid (And.intro (hc1.heap hd0 (by simp)) (And.intro hd1 (hc0.tr hc1)))
          have HE := Lib.hid (And.intro hA (And.intro hL (And.intro e0 e2)))
          clear hd0 hc0 hd1 hc1 hA hL e0 e2 hsz hcz
          go_wp2_with fail
          rw [← HE.out.1, ← HE.out.2.2.1, ← HE.out.2.1, ← HE.out.2.2.2]
          go_loopg [8] 2 (fun dd iv wr => ∃ i : Nat, dd = 2 - i ∧ i ≤ 2 ∧ iv = .int .i64 i ∧ Hid (Chg [] w2 wr))
          case atStart => exact ⟨0, rfl, Nat.zero_le _, rfl, Lib.hid (Chg.refl _ _)⟩
          case round =>
            obtain ⟨i, rfl, hi, rfl, hI⟩ := hrel
            obtain ⟨wx, rfl⟩ : ∃ wx, wx = wr := ⟨_, rfl⟩
            by_cases hil : i < 2
            · obtain ⟨q, hq, hno⟩ : ∃ q, wx.cell? ⟨L, i, none⟩ = some (.pointer q) ∧ NoT wx q := by
                obtain ⟨x0, x1⟩ := cells2 (hI.out.heap HH.out.2.1 (by simp))
                obtain ⟨-, y1⟩ := cells2 (hI.out.heap HH.out.1 (by simp))
                rcases (show i = 0 ∨ i = 1 by omega) with rfl | rfl
                · exact ⟨_, x0, .inl rfl⟩
                · exact ⟨_, x1, .inr ⟨A, rfl, y1⟩⟩
              have hi2 : decide ((i : Int) < 2) = true := decide_eq_true (by omega)
              have hrd := readT_no wx q hno 0 0 0
              have HN := Lib.hid hno
              clear hno
              go_wp2_with fail
              refine hrd.mono ?_
              clear hrd
              rintro e w3 ⟨rfl, hc3⟩
              obtain ⟨X, hX⟩ : ∃ z, z = w3.heap.size := ⟨_, rfl⟩
              have hd4 := heap_alloc_same w3 (.cells #[.int .i64 0, .int .i64 0, .slice none 0 0] 36)
              have hc4 := hc3.alloc (.cells #[.int .i64 0, .int .i64 0, .slice none 0 0] 36)
              obtain ⟨w4, e4⟩ : ∃ z, z = w3.alloc (.cells #[.int .i64 0, .int .i64 0, .slice none 0 0] 36) := ⟨_, rfl⟩
              rw [← e4, ← hX] at hd4
              rw [← e4] at hc4
              have hla := lastT_no w4 q (HN.out.chg0 hc4)
              have H4 := Lib.hid (And.intro hd4 hc4)
              have HE4 := Lib.hid (And.intro hX e4)
              clear hd4 hc3 hc4 hX e4 hq
              go_wp2_with fail
              rw [← HE4.out.1, ← HE4.out.2]
              refine hla.mono ?_
              clear hla
              rintro e w5 ⟨rfl, hc5⟩
              obtain ⟨x0, x1, x2⟩ := cells3 (hc5.heap H4.out.1 (by simp))
              have kx0 := cell_rg x0
              have kx1 := cell_rg x1
              have kx2 := cell_rg x2
              have hn5 := HN.out.chg0 (H4.out.2.tr hc5)
              have cB := calls_rg (w := w5) (fun W h => beginT_no W q (hn5.chg0 h) 0 0)
              have cG := calls_rg (w := w5) (fun W h => growT_no W q (hn5.chg0 h))
              have cE := calls_rg (w := w5) (fun W h => endT_no W q (hn5.chg0 h))
              have cL := calls_rg (w := w5) (fun W h => liveT_no W q (hn5.chg0 h) 0)
              have cN := calls_rg (w := w5) (fun W h => lenT_no W q (hn5.chg0 h))
              have cC := calls_rg (w := w5) (fun W h => copyT_no W q (hn5.chg0 h))
              have H5 := Lib.hid (hI.out.tr (H4.out.2.tr hc5))
              clear hc5 x0 x1 x2 hn5
              go_upto_region 25 with fail
              refine wp_region_quiet_below (by kernel_rfl) (by kernel_rfl) ?_
              repeat (go_big_quiet_step (first | (with_reducible exact cB _ _) | (with_reducible exact cG _ _) | (with_reducible exact cE _ _) | (with_reducible exact cL _ _) | (with_reducible exact cN _ _) | (with_reducible exact cC _ _)))
              refine wpQuiet_nil ?_
              intro w6 hw6
              have HW := Lib.hid (H5.out.tr (chg_of_rg hw6))
              clear hw6 cB cG cE cL cN cC kx0 kx1 kx2
              go_wp2_with fail
              go_roundg (2 - (i + 1))
              case measure => omega
              case rel => exact ⟨i + 1, rfl, by omega, by go_num, HW⟩
            · obtain rfl : i = 2 := by omega
              go_wp2_with fail
              refine (awake19_any wx).mono ?_
              rintro e w7 ⟨rfl, hc7⟩
              go_wp2_with fail
              go_ret
              exact ⟨rfl, (HH.out.2.2.tr hI.out).tr hc7⟩
end Go.Proofs.Ytffjfkjlahdedaa

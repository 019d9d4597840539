/-
  HeadsSmall: all rows of six deeds of two rules; the ends of the numbers; no stack.
  Conditions: none.
-/
import Derived.Test.YtnajhcoimohcaaaSmHd30
set_option linter.unusedVariables false
set_option linter.unusedSimpArgs false
set_option linter.unnecessarySimpa false
namespace Go.Proofs.Ytnajhcoimohcaaa
open Go.RowKit Go.MapKept

theorem tmodB (x : Int) (h : 0 ≤ x) (d : Int) (hd : 0 < d) : ∃ r : Int, Int.tmod x d = r ∧ 0 ≤ r ∧ r < d :=
  ⟨_, rfl, by rw [Int.tmod_eq_emod_of_nonneg h]; exact Int.emod_nonneg _ (by omega), by rw [Int.tmod_eq_emod_of_nonneg h]; exact Int.emod_lt_of_pos _ hd⟩
theorem freshPair (b : Nat) (w : World) (hb : b ≤ w.heap.size) (u v : Int) {w' : World} (hc : Chg [] (w.alloc (.cells #[.int .i64 u, .int .i64 v] 3)) w') : FreshInts b w' (some ⟨w.heap.size, 0, none⟩) 2 [u, v] :=
  hc.row (⟨rfl, .inr ⟨w.heap.size, 2, #[.int .i64 u, .int .i64 v], rfl, hb, heap_alloc_same _ _, Nat.le_refl _, by decide, rfl, rfl⟩⟩) (fun _ _ => by simp)

set_option maxRecDepth 100000 in
set_option maxHeartbeats 8000000 in
theorem small20_any (w : World) : Calls Try.prog 7 #[] w fun e w' => e = .returned (.bool true) ∧ Chg [] w w' := by
  obtain ⟨i1, hi1, hy0, hy1, hy2⟩ := info_parts Try.infoDeed
  obtain ⟨b, hb⟩ : ∃ z, z = w.heap.size := ⟨_, rfl⟩
  have HB := Lib.hid hb
  clear hb
  go_enter Try.func7, Try.ntmps7
  go_wp2_with fail
  go_loopg [1] 4096 (fun dd iv wr => ∃ n : Nat, dd = 4096 - n ∧ n ≤ 4096 ∧ iv = .int .i64 n ∧ Hid (Chg [] w wr))
  case atStart => exact ⟨0, rfl, Nat.zero_le _, rfl, Lib.hid (Chg.refl _ _)⟩
  case round =>
    obtain ⟨n, rfl, hn, rfl, hI⟩ := hrel
    obtain ⟨wq, rfl⟩ : ∃ wq, wq = wr := ⟨_, rfl⟩
    by_cases hnl : n < 4096
    · have hn2 : decide ((n : Int) < 4096) = true := decide_eq_true (by omega)
      obtain ⟨r2, hr2, hr2a, hr2b⟩ := tmodB (n : Int) (by omega) 2 (by decide)
      obtain ⟨rn, hrn, hrna, hrnb⟩ := tmodB (n : Int) (by omega) 3 (by decide)
      go_wp2_with fail
      clear hn2
      go_loopg [2, 3] 6 (fun dd lv kv wr => ∃ k : Nat, ∃ a c, dd = 6 - k ∧ k ≤ 6 ∧ lv = .slice a k c ∧ kv = .int .i64 k ∧ Hid (∃ l, l.length = k ∧ DeedsRow b wr a c l ∧ Chg [] w wr))
      case atStart => exact ⟨0, none, 0, rfl, Nat.zero_le _, rfl, rfl, Lib.hid ⟨[], rfl, DeedsRow.nil _ _, hI.out⟩⟩
      case round =>
        obtain ⟨k, a, c, rfl, hk, rfl, rfl, hJ⟩ := hrel
        obtain ⟨wy, rfl⟩ : ∃ wy, wy = wr := ⟨_, rfl⟩
        by_cases hkl : k < 6
        · have hk2 : decide ((k : Int) < 6) = true := decide_eq_true (by omega)
          have hw1 : IntKind.i64.wrap (2 * (k : Int)) = 2 * (k : Int) := IntWalk.i64_in _ (by omega)
          obtain ⟨m, hm4, hmE⟩ := and3n n k hnl
          obtain ⟨r3, hr3, hr3a, hr3b⟩ := tmodB ((n : Int) + k) (by omega) 3 (by decide)
          obtain ⟨rk, hrk, hrka, hrkb⟩ := tmodB (k : Int) (by omega) 3 (by decide)
          have hw2 : IntKind.i64.wrap (r2 * 3) = r2 * 3 := IntWalk.i64_in _ (by omega)
          have hw3 : IntKind.i64.wrap (5 - r2 * 3) = 5 - r2 * 3 := IntWalk.i64_in _ (by omega)
          have hw4 : IntKind.i64.wrap ((n : Int) + k) = (n : Int) + k := IntWalk.i64_in _ (by omega)
          obtain ⟨wv, hwv, hcv⟩ : ∃ wv, I64 wv ∧ (wy.alloc (.cells #[.int .i64 6, .int .i64 7, .int .i64 3, .int .i64 (5 - r2 * 3)] 3)).cell? ⟨wy.heap.size, m, none⟩ = some (.int .i64 wv) := by
            obtain ⟨x0, x1, x2, x3⟩ := cellsL4 (heap_alloc_same wy (.cells #[.int .i64 6, .int .i64 7, .int .i64 3, .int .i64 (5 - r2 * 3)] 3))
            rcases (show m = 0 ∨ m = 1 ∨ m = 2 ∨ m = 3 by omega) with rfl | rfl | rfl | rfl
            · exact ⟨6, ⟨by decide, by decide⟩, x0⟩
            · exact ⟨7, ⟨by decide, by decide⟩, x1⟩
            · exact ⟨3, ⟨by decide, by decide⟩, x2⟩
            · exact ⟨_, ⟨by omega, by omega⟩, x3⟩
          obtain ⟨l, hl, hd, hcy⟩ := hJ.out
          have hby : b ≤ wy.heap.size := by rw [HB.out]; exact hcy.size
          have hA1 := (Chg.refl [] wy).alloc (.cells #[.int .i64 6, .int .i64 7, .int .i64 3, .int .i64 (5 - r2 * 3)] 3)
          obtain ⟨W1, e1⟩ : ∃ z, z = wy.alloc (.cells #[.int .i64 6, .int .i64 7, .int .i64 3, .int .i64 (5 - r2 * 3)] 3) := ⟨_, rfl⟩
          have s1 : W1.heap.size = wy.heap.size + 1 := by rw [e1, World.size_alloc]
          rw [← e1] at hA1
          have hA2 := hA1.alloc (.cells #[.int .i64 rk, .int .i64 rn] 3)
          have hpair := fun (w' : World) (hc : Chg [] (W1.alloc (.cells #[.int .i64 rk, .int .i64 rn] 3)) w') => freshPair b W1 (by omega) rk rn hc
          obtain ⟨W2, e2⟩ : ∃ z, z = W1.alloc (.cells #[.int .i64 rk, .int .i64 rn] 3) := ⟨_, rfl⟩
          have s2 : W2.heap.size = wy.heap.size + 2 := by rw [e2, World.size_alloc, s1]
          rw [← e2] at hA2 hpair
          rw [s1] at hpair
          have hA3 := hA2.alloc (.cells #[.int .i64 wv, .int .i64 r3, .int .i64 r2, .slice (some ⟨wy.heap.size + 1, 0, none⟩) 2 2] 55)
          have hnew := cells_at (heap_alloc_same W2 (.cells #[.int .i64 wv, .int .i64 r3, .int .i64 r2, .slice (some ⟨wy.heap.size + 1, 0, none⟩) 2 2] 55))
          have hpr3 := hpair _ ((Chg.refl [] W2).alloc (.cells #[.int .i64 wv, .int .i64 r3, .int .i64 r2, .slice (some ⟨wy.heap.size + 1, 0, none⟩) 2 2] 55))
          obtain ⟨W3, e3⟩ : ∃ z, z = W2.alloc (.cells #[.int .i64 wv, .int .i64 r3, .int .i64 r2, .slice (some ⟨wy.heap.size + 1, 0, none⟩) 2 2] 55) := ⟨_, rfl⟩
          rw [← e3] at hA3 hnew hpr3
          rw [s2] at hnew
          have hrow := (hd.chg0 hA3).row
          rw [hl] at hrow
          have hone : ∀ u ∈ ([.int .i64 wv, .int .i64 r3, .int .i64 r2, .slice (some ⟨wy.heap.size + 1, 0, none⟩) 2 2] : List Value), u.oneCell' = true := by simp [Value.oneCell']
          have h2' : k + 1 ≤ maxLen ∧ (k + 1) * 48 ≤ 140737488355328 := by simp only [maxLen]; omega
          have hb3 : b ≤ W3.heap.size := Nat.le_trans hby hA3.size
          have HA := Lib.hid (And.intro hrow (And.intro hnew (And.intro hone (And.intro h2' (And.intro hb3 (And.intro hpr3 (And.intro hd (And.intro hA3 (And.intro hcy hl)))))))))
          have HW := Lib.hid (And.intro hwv (And.intro (And.intro hr3a hr3b) (And.intro (And.intro hr2a hr2b) (And.intro (And.intro hrka hrkb) (And.intro hrna hrnb)))))
          rw [e1] at e2
          rw [e2] at e3
          have HE := Lib.hid e3
          clear hrow hnew hone h2' hb3 hpr3 hd hA3 hcy hl hwv hA1 hA2 hpair s1 s2 e1 e2 e3 W1 W2 hby
          go_wp2_with (at_builtin; rw [← HE.out]; refine wpList_append_own_at _ rfl _ _ 48 rfl b 55 i1 _ 4 48 Try.underlying48 hi1 hy0 hy1 hy2 rfl (by decide) (.slice a k c) k (drCells l) rfl HA.out.1 ⟨wy.heap.size + 2, 0, none⟩ 1 1 [.int .i64 wv, .int .i64 r3, .int .i64 r2, .slice (some ⟨wy.heap.size + 1, 0, none⟩) 2 2] rfl rfl HA.out.2.1 HA.out.2.2.1 HA.out.2.2.2.1.1 HA.out.2.2.2.1.2 HA.out.2.2.2.2.1 ?_; intro v' w5 hr5 hg5 hn5 hb5; obtain ⟨a5, c5, rfl⟩ := ownsRow_slice hr5; have HX := Lib.hid (And.intro hr5 hg5); clear hr5 hg5 hn5 hb5)
          go_roundg (6 - (k + 1))
          case measure => omega
          case rel =>
            obtain ⟨-, -, -, -, -, hpr3, hd, hA3, hcy, hl⟩ := HA.out
            have hx := HW.out
            obtain ⟨p1, p2⟩ := hd.push hA3 [⟨⟨wv, r3, r2, [rk, rn]⟩, some ⟨wy.heap.size + 1, 0, none⟩, 2⟩] (fun x hx9 => by
              simp only [List.mem_singleton] at hx9
              subst hx9
              refine ⟨⟨hx.1, ⟨by simp only; omega, by simp only; omega⟩, ⟨by simp only; omega, by simp only; omega⟩, fun z hz => ?_⟩, hpr3, by simp⟩
              simp only [List.mem_cons, List.not_mem_nil, or_false] at hz
              rcases hz with rfl | rfl
              · exact ⟨by omega, by omega⟩
              · exact ⟨by omega, by omega⟩) (by rw [hl]; rfl) HX.out.1 (by rw [hl]; exact HX.out.2)
            refine ⟨k + 1, a5, c5, rfl, by omega, rfl, by go_num, Lib.hid ⟨_, by rw [List.length_append, hl]; rfl, p1, hcy.trans p2 (fun j hj => .inr ?_)⟩⟩
            have := (row_beyond hd.row (j := j) (by simpa using hj)).1
            have := HB.out
            omega
        · obtain rfl : k = 6 := by omega
          obtain ⟨l, hl, hd, hcy⟩ := hJ.out
          have hby : b ≤ wy.heap.size := by rw [HB.out]; exact hcy.size
          have hA3 := (Chg.refl [] wy).alloc (.cells #[.int .i64 4, .int .i64 1, .int .i64 r2, .slice none 0 0, .int .i64 3, .int .i64 0, .int .i64 0, .slice none 0 0, .int .i64 3, .int .i64 0, .int .i64 0, .slice none 0 0, .int .i64 3, .int .i64 0, .int .i64 0, .slice none 0 0] 55)
          have hnew := cells_at (heap_alloc_same wy (.cells #[.int .i64 4, .int .i64 1, .int .i64 r2, .slice none 0 0, .int .i64 3, .int .i64 0, .int .i64 0, .slice none 0 0, .int .i64 3, .int .i64 0, .int .i64 0, .slice none 0 0, .int .i64 3, .int .i64 0, .int .i64 0, .slice none 0 0] 55))
          obtain ⟨W3, e3⟩ : ∃ z, z = wy.alloc (.cells #[.int .i64 4, .int .i64 1, .int .i64 r2, .slice none 0 0, .int .i64 3, .int .i64 0, .int .i64 0, .slice none 0 0, .int .i64 3, .int .i64 0, .int .i64 0, .slice none 0 0, .int .i64 3, .int .i64 0, .int .i64 0, .slice none 0 0] 55) := ⟨_, rfl⟩
          rw [← e3] at hA3 hnew
          have hrow := (hd.chg0 hA3).row
          rw [hl] at hrow
          have hone : ∀ u ∈ ([.int .i64 4, .int .i64 1, .int .i64 r2, .slice none 0 0, .int .i64 3, .int .i64 0, .int .i64 0, .slice none 0 0, .int .i64 3, .int .i64 0, .int .i64 0, .slice none 0 0, .int .i64 3, .int .i64 0, .int .i64 0, .slice none 0 0] : List Value), u.oneCell' = true := by simp [Value.oneCell']
          have h2' : 6 + 4 ≤ maxLen ∧ (6 + 4) * 48 ≤ 140737488355328 := by simp only [maxLen]; omega
          have hb3 : b ≤ W3.heap.size := Nat.le_trans hby hA3.size
          have HA := Lib.hid (And.intro hrow (And.intro hnew (And.intro hone (And.intro h2' (And.intro hb3 (And.intro hd (And.intro hA3 (And.intro hcy hl))))))))
          have HW := Lib.hid (And.intro hr2a hr2b)
          have HE := Lib.hid e3
          clear hrow hnew hone h2' hb3 hd hA3 hcy hl e3 hby
          go_wp2_with (at_builtin; rw [← HE.out]; refine wpList_append_own_at _ rfl _ _ 48 rfl b 55 i1 _ 4 48 Try.underlying48 hi1 hy0 hy1 hy2 rfl (by decide) (.slice a 6 c) 6 (drCells l) rfl HA.out.1 ⟨wy.heap.size, 0, none⟩ 4 4 [.int .i64 4, .int .i64 1, .int .i64 r2, .slice none 0 0, .int .i64 3, .int .i64 0, .int .i64 0, .slice none 0 0, .int .i64 3, .int .i64 0, .int .i64 0, .slice none 0 0, .int .i64 3, .int .i64 0, .int .i64 0, .slice none 0 0] rfl rfl HA.out.2.1 HA.out.2.2.1 HA.out.2.2.2.1.1 HA.out.2.2.2.1.2 HA.out.2.2.2.2.1 ?_; intro v' w5 hr5 hg5 hn5 hb5; obtain ⟨a5, c5, rfl⟩ := ownsRow_slice hr5; have HX : Hid (w5.ownsRow b 55 4 (.slice a5 10 c5) 10 (drCells l ++ [.int .i64 4, .int .i64 1, .int .i64 r2, .slice none 0 0, .int .i64 3, .int .i64 0, .int .i64 0, .slice none 0 0, .int .i64 3, .int .i64 0, .int .i64 0, .slice none 0 0, .int .i64 3, .int .i64 0, .int .i64 0, .slice none 0 0]) ∧ _) := Lib.hid (And.intro hr5 hg5); clear hr5 hg5 hn5 hb5)
          obtain ⟨-, -, -, -, -, hd, hA3, hcy, hl⟩ := HA.out
          have hx := HW.out
          obtain ⟨p1, p2⟩ := hd.push hA3 [⟨⟨4, 1, r2, []⟩, none, 0⟩, ⟨⟨3, 0, 0, []⟩, none, 0⟩, ⟨⟨3, 0, 0, []⟩, none, 0⟩, ⟨⟨3, 0, 0, []⟩, none, 0⟩] (fun x hx9 => by
            simp only [List.mem_cons, List.not_mem_nil, or_false] at hx9
            rcases hx9 with rfl | rfl | rfl | rfl
            · exact ⟨⟨⟨by simp only; omega, by simp only; omega⟩, ⟨by simp only; omega, by simp only; omega⟩, ⟨by simp only; omega, by simp only; omega⟩, fun z hz => by cases hz⟩, World.ownsRow_nil _ _ _ _, by simp⟩
            all_goals exact ⟨⟨⟨by decide, by decide⟩, ⟨by decide, by decide⟩, ⟨by decide, by decide⟩, fun z hz => by cases hz⟩, World.ownsRow_nil _ _ _ _, by simp⟩) (by rw [hl]; rfl) HX.out.1 (by rw [hl]; exact HX.out.2)
          have hcz : Chg [] w w5 := hcy.trans p2 (fun j hj => .inr (by
            have := (row_beyond hd.row (j := j) (by simpa using hj)).1
            have := HB.out
            omega))
          have hdo := headsDoes_row w5 b a5 10 c5 _ p1 (by rw [List.length_append, hl]; rfl) (by decide)
          have HC := Lib.hid hcz
          clear hd hA3 hcy hl hx p1 p2 hcz
          go_wp2_with fail
          refine hdo.mono ?_
          clear hdo
          rintro e w6 ⟨rfl, hc6⟩
          go_wp2_with fail
          go_roundg (4096 - (n + 1))
          case measure => omega
          case rel => exact ⟨n + 1, rfl, by omega, by go_num, Lib.hid (HC.out.tr hc6)⟩
    · obtain rfl : n = 4096 := by omega
      obtain ⟨E, hE⟩ : ∃ z, z = wq.heap.size := ⟨_, rfl⟩
      have hdE := heap_alloc_same wq (.cells #[.int .i64 (-9223372036854775808), .int .i64 (-1), .int .i64 0, .int .i64 9223372036854775807] 3)
      have hcE := hI.out.alloc (.cells #[.int .i64 (-9223372036854775808), .int .i64 (-1), .int .i64 0, .int .i64 9223372036854775807] 3)
      have hbE : b ≤ wq.heap.size := by rw [HB.out]; exact hI.out.size
      have hrE : FreshInts b (wq.alloc (.cells #[.int .i64 (-9223372036854775808), .int .i64 (-1), .int .i64 0, .int .i64 9223372036854775807] 3)) (some ⟨wq.heap.size, 0, none⟩) 4 [-9223372036854775808, -1, 0, 9223372036854775807] := ⟨rfl, .inr ⟨wq.heap.size, 4, #[.int .i64 (-9223372036854775808), .int .i64 (-1), .int .i64 0, .int .i64 9223372036854775807], rfl, hbE, hdE, Nat.le_refl _, by decide, rfl, rfl⟩⟩
      obtain ⟨w1, e1⟩ : ∃ z, z = wq.alloc (.cells #[.int .i64 (-9223372036854775808), .int .i64 (-1), .int .i64 0, .int .i64 9223372036854775807] 3) := ⟨_, rfl⟩
      rw [← e1, ← hE] at hdE hrE
      rw [← e1] at hcE
      have H1 := Lib.hid (And.intro hdE (And.intro hrE hcE))
      have HE1 := Lib.hid (And.intro hE e1)
      clear hdE hrE hcE hE e1 hbE
      go_wp2_with fail
      rw [← HE1.out.1, ← HE1.out.2]
      go_loopg [6] 4 (fun dd iv wr => ∃ i : Nat, dd = 4 - i ∧ i ≤ 4 ∧ iv = .int .i64 i ∧ Hid (Chg [] w1 wr))
      case atStart => exact ⟨0, rfl, Nat.zero_le _, rfl, Lib.hid (Chg.refl _ _)⟩
      case round =>
        obtain ⟨i, rfl, hi, rfl, hJ⟩ := hrel
        obtain ⟨wz, rfl⟩ : ∃ wz, wz = wr := ⟨_, rfl⟩
        by_cases hil : i < 4
        · have hi2 : decide ((i : Int) < 4) = true := decide_eq_true (by omega)
          obtain ⟨j, hj⟩ : ∃ j : Nat, i + j = 3 := ⟨3 - i, by omega⟩
          have hj1 : IntKind.i64.wrap (3 - (i : Int)) = (j : Int) := by rw [IntWalk.i64_in _ (by omega)]; omega
          have hcells : ∀ q : Nat, q < 4 → ∃ u, I64 u ∧ wz.cell? ⟨E, q, none⟩ = some (.int .i64 u) := fun q hq => by
            obtain ⟨x0, x1, x2, x3⟩ := cellsL4 (hJ.out.heap H1.out.1 (by simp))
            rcases (show q = 0 ∨ q = 1 ∨ q = 2 ∨ q = 3 by omega) with rfl | rfl | rfl | rfl
            · exact ⟨_, ⟨by decide, by decide⟩, x0⟩
            · exact ⟨_, ⟨by decide, by decide⟩, x1⟩
            · exact ⟨_, ⟨by decide, by decide⟩, x2⟩
            · exact ⟨_, ⟨by decide, by decide⟩, x3⟩
          obtain ⟨u, hu, cu⟩ := hcells i hil
          obtain ⟨v, hv, cv⟩ := hcells j (by omega)
          have hjl : j < 4 := by omega
          have hi4 : (i : Int) < 4 := by omega
          have hj4 : (j : Int) < 4 := by omega
          have HU := Lib.hid (And.intro hu hv)
          have HJJ := Lib.hid hj
          clear hcells hu hv hj
          go_wp2_with fail
          go_still_tail 44, (by kernel_rfl)
          change wpList _ _ _ _ _ wz.drew
          have hd := hJ.out.tr ((Chg.refl [] wz).drew)
          obtain ⟨w3, e3⟩ : ∃ w3, w3 = wz.drew := ⟨_, rfl⟩
          rw [← e3] at hd ⊢
          have hnew := heap_alloc_same w3 (.cells #[.int .i64 0, .int .i64 u, .int .i64 v, .slice none 0 0, .int .i64 0, .int .i64 v, .int .i64 u, .slice none 0 0, .int .i64 7, .int .i64 u, .int .i64 0, .slice none 0 0, .int .i64 1, .int .i64 u, .int .i64 v, .slice none 0 0, .int .i64 2, .int .i64 0, .int .i64 u, .slice (some ⟨E, 0, none⟩) 4 4, .int .i64 3, .int .i64 0, .int .i64 0, .slice none 0 0, .int .i64 3, .int .i64 0, .int .i64 0, .slice none 0 0, .int .i64 3, .int .i64 0, .int .i64 0, .slice none 0 0] 55)
          have hc4 := hd.alloc (.cells #[.int .i64 0, .int .i64 u, .int .i64 v, .slice none 0 0, .int .i64 0, .int .i64 v, .int .i64 u, .slice none 0 0, .int .i64 7, .int .i64 u, .int .i64 0, .slice none 0 0, .int .i64 1, .int .i64 u, .int .i64 v, .slice none 0 0, .int .i64 2, .int .i64 0, .int .i64 u, .slice (some ⟨E, 0, none⟩) 4 4, .int .i64 3, .int .i64 0, .int .i64 0, .slice none 0 0, .int .i64 3, .int .i64 0, .int .i64 0, .slice none 0 0, .int .i64 3, .int .i64 0, .int .i64 0, .slice none 0 0] 55)
          have hb3 : b ≤ w3.heap.size := by rw [HB.out]; exact (H1.out.2.2.tr hd).size
          have hrow : (w3.alloc (.cells #[.int .i64 0, .int .i64 u, .int .i64 v, .slice none 0 0, .int .i64 0, .int .i64 v, .int .i64 u, .slice none 0 0, .int .i64 7, .int .i64 u, .int .i64 0, .slice none 0 0, .int .i64 1, .int .i64 u, .int .i64 v, .slice none 0 0, .int .i64 2, .int .i64 0, .int .i64 u, .slice (some ⟨E, 0, none⟩) 4 4, .int .i64 3, .int .i64 0, .int .i64 0, .slice none 0 0, .int .i64 3, .int .i64 0, .int .i64 0, .slice none 0 0, .int .i64 3, .int .i64 0, .int .i64 0, .slice none 0 0] 55)).ownsRow b 55 4 (.slice (some ⟨w3.heap.size, 0, none⟩) 8 8) 8 (drCells [⟨⟨0, u, v, []⟩, none, 0⟩, ⟨⟨0, v, u, []⟩, none, 0⟩, ⟨⟨7, u, 0, []⟩, none, 0⟩, ⟨⟨1, u, v, []⟩, none, 0⟩, ⟨⟨2, 0, u, [-9223372036854775808, -1, 0, 9223372036854775807]⟩, some ⟨E, 0, none⟩, 4⟩, ⟨⟨3, 0, 0, []⟩, none, 0⟩, ⟨⟨3, 0, 0, []⟩, none, 0⟩, ⟨⟨3, 0, 0, []⟩, none, 0⟩]) := ⟨rfl, .inr ⟨w3.heap.size, 8, #[.int .i64 0, .int .i64 u, .int .i64 v, .slice none 0 0, .int .i64 0, .int .i64 v, .int .i64 u, .slice none 0 0, .int .i64 7, .int .i64 u, .int .i64 0, .slice none 0 0, .int .i64 1, .int .i64 u, .int .i64 v, .slice none 0 0, .int .i64 2, .int .i64 0, .int .i64 u, .slice (some ⟨E, 0, none⟩) 4 4, .int .i64 3, .int .i64 0, .int .i64 0, .slice none 0 0, .int .i64 3, .int .i64 0, .int .i64 0, .slice none 0 0, .int .i64 3, .int .i64 0, .int .i64 0, .slice none 0 0], rfl, hb3, hnew, Nat.le_refl _, by decide, rfl, rfl⟩⟩
          obtain ⟨w4, e4⟩ : ∃ z, z = w3.alloc (.cells #[.int .i64 0, .int .i64 u, .int .i64 v, .slice none 0 0, .int .i64 0, .int .i64 v, .int .i64 u, .slice none 0 0, .int .i64 7, .int .i64 u, .int .i64 0, .slice none 0 0, .int .i64 1, .int .i64 u, .int .i64 v, .slice none 0 0, .int .i64 2, .int .i64 0, .int .i64 u, .slice (some ⟨E, 0, none⟩) 4 4, .int .i64 3, .int .i64 0, .int .i64 0, .slice none 0 0, .int .i64 3, .int .i64 0, .int .i64 0, .slice none 0 0, .int .i64 3, .int .i64 0, .int .i64 0, .slice none 0 0] 55) := ⟨_, rfl⟩
          rw [← e4] at hrow hc4
          obtain ⟨R, hR⟩ : ∃ z, z = w3.heap.size := ⟨_, rfl⟩
          rw [← hR] at hrow
          have hdr : DeedsRow b w4 (some ⟨R, 0, none⟩) 8 [⟨⟨0, u, v, []⟩, none, 0⟩, ⟨⟨0, v, u, []⟩, none, 0⟩, ⟨⟨7, u, 0, []⟩, none, 0⟩, ⟨⟨1, u, v, []⟩, none, 0⟩, ⟨⟨2, 0, u, [-9223372036854775808, -1, 0, 9223372036854775807]⟩, some ⟨E, 0, none⟩, 4⟩, ⟨⟨3, 0, 0, []⟩, none, 0⟩, ⟨⟨3, 0, 0, []⟩, none, 0⟩, ⟨⟨3, 0, 0, []⟩, none, 0⟩] := ⟨hrow, fun x hx9 => by
            obtain ⟨hu, hv⟩ := HU.out
            simp only [List.mem_cons, List.not_mem_nil, or_false] at hx9
            have hnil : FreshInts b w4 none 0 [] := World.ownsRow_nil _ _ _ _
            rcases hx9 with rfl | rfl | rfl | rfl | rfl | rfl | rfl | rfl
            · exact ⟨⟨(show I64 0 from ⟨by decide, by decide⟩), hu, hv, fun z hz => by cases hz⟩, hnil, by simp⟩
            · exact ⟨⟨(show I64 0 from ⟨by decide, by decide⟩), hv, hu, fun z hz => by cases hz⟩, hnil, by simp⟩
            · exact ⟨⟨(show I64 7 from ⟨by decide, by decide⟩), hu, (show I64 0 from ⟨by decide, by decide⟩), fun z hz => by cases hz⟩, hnil, by simp⟩
            · exact ⟨⟨(show I64 1 from ⟨by decide, by decide⟩), hu, hv, fun z hz => by cases hz⟩, hnil, by simp⟩
            · refine ⟨⟨(show I64 2 from ⟨by decide, by decide⟩), (show I64 0 from ⟨by decide, by decide⟩), hu, fun z hz => ?_⟩, hc4.row H1.out.2.1 (fun _ _ => by simp), by simp⟩
              simp only [List.mem_cons, List.not_mem_nil, or_false] at hz
              rcases hz with rfl | rfl | rfl | rfl <;> exact ⟨by decide, by decide⟩
            all_goals exact ⟨⟨⟨by decide, by decide⟩, ⟨by decide, by decide⟩, ⟨by decide, by decide⟩, fun z hz => by cases hz⟩, hnil, by simp⟩⟩
          have hdo := headsDoes_row w4 b _ 8 8 _ hdr rfl (by decide)
          have HC := Lib.hid hc4
          have HR := Lib.hid (And.intro hR e4)
          clear hd e3 hnew hc4 hb3 hrow hR hdr e4 cu cv
          go_wp2_with fail
          rw [← HR.out.1, ← HR.out.2]
          refine hdo.mono ?_
          clear hdo
          rintro e w6 ⟨rfl, hc6⟩
          go_wp2_with fail
          go_roundg (4 - (i + 1))
          case measure => omega
          case rel => exact ⟨i + 1, rfl, by omega, by go_num, Lib.hid (HC.out.tr hc6)⟩
        · obtain rfl : i = 4 := by omega
          go_wp2_with fail
          refine (none20_any wz).mono ?_
          rintro e w6 ⟨rfl, hc6⟩
          go_wp2_with fail
          refine (awake20_any w6).mono ?_
          rintro e w7 ⟨rfl, hc7⟩
          go_wp2_with fail
          go_ret
          exact ⟨rfl, ((H1.out.2.2.tr hJ.out).tr hc6).tr hc7⟩
end Go.Proofs.Ytnajhcoimohcaaa

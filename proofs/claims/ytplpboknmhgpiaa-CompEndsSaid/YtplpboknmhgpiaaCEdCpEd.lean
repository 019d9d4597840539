/-
  CompEnds: the law returns true.
  Conditions: none.
-/
import Derived.Test.YtplpboknmhgpiaaCEdCpEn
import Derived.Test.YtplpboknmhgpiaaCEdCpAw
import Derived.Test.YtplpboknmhgpiaaCEdCpMb
set_option linter.unusedVariables false
set_option linter.unusedSimpArgs false
set_option linter.unnecessarySimpa false
namespace Go.Proofs.Ytplpboknmhgpiaa
open Go.RowKit Go.MapKept Go.Shelf

set_option maxRecDepth 100000 in
set_option maxHeartbeats 16000000 in
theorem compEnds_any (w : World) :
    Calls Try.prog 7 #[] w fun e w' => e = .returned (.bool true) ∧ Chg [] w w' := by
  obtain ⟨i0, hi0, hz0, hz1, hz2⟩ := info_parts Try.infoInt
  obtain ⟨j0, hj0, hy0, hy1, hy2⟩ := info_parts Try.infoInts
  go_enter Try.func7, Try.ntmps7
  go_wp2_with fail
  go_loopg [1] 512 (fun d nv wr => ∃ n : Nat, d = 512 - n ∧ n ≤ 512 ∧ nv = .int .i64 n ∧ Hid (Chg [] w wr))
  case atStart => exact ⟨0, rfl, by omega, rfl, Lib.hid (Chg.refl _ _)⟩
  case round =>
    obtain ⟨n, rfl, hn, rfl, hin⟩ := hrel
    obtain ⟨w1, rfl⟩ : ∃ z, z = wr := ⟨_, rfl⟩
    by_cases hlt : n < 512
    · go_wp2_with fail
      rw [show decide ((n : Int) < 512) = true from decide_eq_true (by omega)]
      go_loopg [3, 2] 3 (fun d iv xv wr => ∃ (i xc : Nat) (xa : Option Addr), d = 3 - i ∧ i ≤ 3 ∧ iv = .int .i64 i ∧ xv = .slice xa i xc ∧ Hid (SomeR w1.heap.size wr xa i xc ∧ Chg [] w1 wr))
      case atStart => exact ⟨0, 0, none, rfl, by omega, rfl, rfl, Lib.hid ⟨SomeR.nil _ _, Chg.refl _ _⟩⟩
      case round =>
        obtain ⟨i, xc, xa, rfl, hi, rfl, rfl, hin2⟩ := hrel
        obtain ⟨w2, rfl⟩ : ∃ z, z = wr := ⟨_, rfl⟩
        by_cases hil : i < 3
        · go_wp2_with fail
          rw [show decide ((i : Int) < 3) = true from decide_eq_true (by omega)]
          go_loopg [5, 4] 3 (fun d kv lv wr => ∃ (k lq lc : Nat) (la : Option Addr), d = 3 - k ∧ k ≤ 3 ∧ lq ≤ k ∧ kv = .int .i64 k ∧ lv = .slice la lq lc ∧ Hid (SomeI w2.heap.size wr la lq lc ∧ Chg [] w2 wr))
          case atStart => exact ⟨0, 0, 0, none, rfl, by omega, Nat.le_refl _, rfl, rfl, Lib.hid ⟨SomeI.nil _ _, Chg.refl _ _⟩⟩
          case round =>
            obtain ⟨k, lq, lc, la, rfl, hk, hlq, rfl, rfl, hin3⟩ := hrel
            obtain ⟨w3, rfl⟩ : ∃ z, z = wr := ⟨_, rfl⟩
            by_cases hkl : k < 3
            · cases hb : (bits BinOp.and IntKind.i64 ((n : Int) / 2 ^ (3 * i + k)) 1 == 1) with
              | true =>
                obtain ⟨zs, hzl, hrow⟩ := hin3.out.1
                have h1' : ∀ u ∈ [Value.int .i64 (k : Int)], u.oneCell' = true := by simp [Value.oneCell']
                have h2' : lq + 1 ≤ maxLen ∧ (lq + 1) * 8 ≤ 140737488355328 := by simp only [maxLen]; omega
                have hnew := cells_at (w := w3.alloc (.cells #[.int .i64 k] 3)) (heap_alloc_same _ _)
                have hcA := (Chg.refl [] w3).alloc (.cells #[.int .i64 k] 3)
                have H4 := Lib.hid (And.intro (hcA.row hrow (fun _ _ => by simp)) (And.intro h1' (And.intro h2' (And.intro hnew (And.intro (hin3.out.2.tr hcA).size (And.intro (hin3.out.2.tr hcA) hzl))))))
                clear hrow h1' h2' hnew hcA hzl
                go_wp2_with (at_builtin; refine wpList_append_own_at _ rfl _ _ 26 rfl w2.heap.size 3 i0 _ 1 8 Try.underlying26 hi0 hz0 hz1 hz2 rfl (by decide) (.slice la lq lc) lq (zs.map (Value.int .i64)) rfl H4.out.1 ⟨w3.heap.size, 0, none⟩ 1 1 [.int .i64 k] rfl rfl H4.out.2.2.2.1 H4.out.2.1 H4.out.2.2.1.1 H4.out.2.2.1.2 H4.out.2.2.2.2.1 ?_; intro v' w5 hr5 hg5 hn5 hb5; obtain ⟨a5, c5, rfl⟩ := ownsRow_slice hr5; have HW := Lib.hid (And.intro hr5 hg5); clear hr5 hg5 hn5 hb5)
                go_roundg (3 - (k + 1))
                case measure => omega
                case rel =>
                  refine ⟨k + 1, lq + 1, c5, a5, rfl, by omega, by omega, by go_num, rfl, Lib.hid ⟨⟨zs ++ [(k : Int)], by rw [List.length_append, H4.out.2.2.2.2.2.2]; rfl, by rw [List.map_append]; exact HW.out.1⟩, ?_⟩⟩
                  exact H4.out.2.2.2.2.2.1.grown HW.out.2 (fun j hj => .inr (row_beyond H4.out.1 hj).1)
              | false =>
                go_wp2_with fail
                go_roundg (3 - (k + 1))
                case measure => omega
                case rel => exact ⟨k + 1, lq, lc, la, rfl, by omega, by omega, by go_num, rfl, hin3⟩
            · obtain rfl : k = 3 := by omega
              obtain ⟨VS, hVn, hVO, hVm⟩ := hin2.out.1
              have hcA := (Chg.refl [] w3).alloc (Obj.cells #[.slice la lq lc] 26)
              have hrowA := ((hVO.chg0 hin3.out.2).chg0 hcA).row
              rw [← hVn] at hrowA
              have hb1 : ∀ u ∈ [Value.slice la lq lc], u.oneCell' = true := by simp [Value.oneCell']
              have hb2 : i + 1 ≤ maxLen ∧ (i + 1) * 24 ≤ 140737488355328 := by simp only [maxLen]; omega
              have hnew := cells_at (w := w3.alloc (Obj.cells #[.slice la lq lc] 26)) (heap_alloc_same _ _)
              have hBB : w1.heap.size ≤ w2.heap.size := hin2.out.2.size
              have hbase := Nat.le_trans hBB (hin3.out.2.tr hcA).size
              have HA := Lib.hid (And.intro hrowA (And.intro hb1 (And.intro hb2 (And.intro hnew (And.intro hbase (And.intro hcA (And.intro hVn (And.intro hVO (And.intro hVm (And.intro hBB hin3.out))))))))))
              clear hrowA hb1 hb2 hnew hbase hcA hVn hVO hVm hBB
              go_wp2_with (at_builtin; refine wpList_append_own_at _ rfl _ _ 22 rfl w1.heap.size 26 j0 _ 1 24 Try.underlying22 hj0 hy0 hy1 hy2 rfl (by decide) (.slice xa i xc) i (VS.map Is.cell) rfl HA.out.1 ⟨w3.heap.size, 0, none⟩ 1 1 [.slice la lq lc] rfl rfl HA.out.2.2.2.1 HA.out.2.1 HA.out.2.2.1.1 HA.out.2.2.1.2 HA.out.2.2.2.2.1 ?_; intro v' w6 hr5 hg5 hn5 hb5; obtain ⟨a5, c5, rfl⟩ := ownsRow_slice hr5; have HW := Lib.hid (And.intro hr5 hg5); clear hr5 hg5 hn5 hb5)
              go_roundg (3 - (i + 1))
              case measure => omega
              case rel =>
                obtain ⟨hrowA, -, -, -, -, hcA, hVn, hVO, hVm, hBB, hL, hLC⟩ := HA.out
                exact ⟨i + 1, c5, a5, rfl, by omega, by go_num, rfl, Lib.hid ⟨SomeR.snoc hVn hVO hVm hBB hL (by omega) hLC hcA HW.out.1 HW.out.2, SomeR.grow hLC hcA hrowA HW.out.2 hin2.out.2 (Nat.le_refl _)⟩⟩
        · obtain rfl : i = 3 := by omega
          have HT := Lib.hid (tellsR_int w2 xa 3 xc hin2.out.1 (by omega))
          go_wp2_with fail
          refine (HT.out _ _ (by omega) (by omega)).mono ?_
          rintro e w4 ⟨rfl, hq⟩
          have H4 := Lib.hid ((hin.out.tr hin2.out.2).tr hq)
          clear hq
          go_wp2_with fail
          go_roundg (512 - (n + 1))
          case measure => omega
          case rel => exact ⟨n + 1, rfl, by omega, by go_num, H4⟩
    · obtain rfl : n = 512 := by omega
      go_wp2_with fail
      obtain ⟨wA, hwA⟩ : ∃ z, z = w1.alloc (Obj.cells #[Value.int IntKind.i64 (-9223372036854775808), Value.int IntKind.i64 (-1), Value.int IntKind.i64 0, Value.int IntKind.i64 5, Value.int IntKind.i64 63, Value.int IntKind.i64 64, Value.int IntKind.i64 9223372036854775807] 3) := ⟨_, rfl⟩
      have hG : wA.heap[w1.heap.size]? = some (Obj.cells #[Value.int IntKind.i64 (-9223372036854775808), Value.int IntKind.i64 (-1), Value.int IntKind.i64 0, Value.int IntKind.i64 5, Value.int IntKind.i64 63, Value.int IntKind.i64 64, Value.int IntKind.i64 9223372036854775807] 3 (0, 0)) := by rw [hwA]; exact heap_alloc_same _ _
      have hcA : Chg [] w wA := by rw [hwA]; exact hin.out.alloc _
      rw [← hwA]
      obtain ⟨G, hGe⟩ : ∃ z, z = w1.heap.size := ⟨_, rfl⟩
      rw [← hGe] at hG ⊢
      have HG := Lib.hid (And.intro hG hcA)
      clear hG hcA hwA hGe hin
      generalize ((512 : Nat) : Int) = v512
      go_loopg [7] 66 (fun d nv wr => ∃ n : Nat, d = 66 - n ∧ n ≤ 90 ∧ nv = .int .i64 n ∧ Hid (Chg [] wA wr))
      case atStart => exact ⟨0, rfl, by omega, rfl, Lib.hid (Chg.refl _ _)⟩
      case round =>
        obtain ⟨n, rfl, hn9, rfl, hin⟩ := hrel
        obtain ⟨w1, rfl⟩ : ∃ z, z = wr := ⟨_, rfl⟩
        by_cases hlt : n < 66
        · go_wp2_with fail
          rw [show decide ((n : Int) < 66) = true from decide_eq_true (by omega)]
          go_loopg [8] 6 (fun d kv wr => ∃ k : Nat, d = 6 - k ∧ k ≤ 6 ∧ kv = .int .i64 k ∧ Hid (Chg [] w1 wr))
          case atStart => exact ⟨0, rfl, by omega, rfl, Lib.hid (Chg.refl _ _)⟩
          case round =>
            obtain ⟨k, rfl, hk, rfl, hinK⟩ := hrel
            obtain ⟨wk, rfl⟩ : ∃ z, z = wr := ⟨_, rfl⟩
            by_cases hkl : k < 6
            · go_wp2_with fail
              rw [show decide ((k : Int) < 6) = true from decide_eq_true (by omega)]
              go_loopg [10, 9] n (fun d iv xv wr => ∃ (i xc : Nat) (xa : Option Addr), d = n - i ∧ i ≤ n ∧ iv = .int .i64 i ∧ xv = .slice xa i xc ∧ Hid (SomeR wk.heap.size wr xa i xc ∧ Chg [] wk wr))
              case atStart => exact ⟨0, 0, none, rfl, by omega, rfl, rfl, Lib.hid ⟨SomeR.nil _ _, Chg.refl _ _⟩⟩
              case round =>
                obtain ⟨i, xc, xa, rfl, hi, rfl, rfl, hin2⟩ := hrel
                obtain ⟨w2, rfl⟩ : ∃ z, z = wr := ⟨_, rfl⟩
                by_cases hil : i < n
                · have hr1 := Lib.hid (row13_int w2 ((i : Int) + 1) ((n : Int) + i) n n (by omega) (by omega) (by omega) (by omega))
                  go_wp2_with fail
                  refine hr1.out.mono ?_
                  rintro e w3 ⟨la, lq, lc, rfl, hlq, hL3, hc3⟩
                  have HL3 := Lib.hid (And.intro hL3 hc3)
                  clear hL3 hc3
                  have hnn : ¬ (n : Int) = 0 := by omega
                  have hmod : 0 ≤ ((i : Int) + 1) % (n : Int) ∧ ((i : Int) + 1) % (n : Int) < n := ⟨Int.emod_nonneg _ hnn, Int.emod_lt_of_pos _ (by omega)⟩
                  have htm : Int.tmod ((i : Int) + 1) n = ((i : Int) + 1) % n := Int.tmod_eq_emod_of_nonneg (by omega)
                  have hks := Lib.hid (show k = 0 ∨ k = 1 ∨ k = 2 ∨ k = 3 ∨ k = 4 ∨ k = 5 by omega)
                  rcases hks.out with h | h | h | h | h | h
                  · obtain ⟨e1, e2, e3, e4, e5⟩ : ((k : Int) == 1) = false ∧ ((k : Int) == 2) = false ∧ ((k : Int) == 3) = false ∧ ((k : Int) == 4) = false ∧ ((k : Int) == 5) = false := by rw [h]; exact ⟨rfl, rfl, rfl, rfl, rfl⟩
                    clear h
                    obtain ⟨VS, hVn, hVO, hVm⟩ := hin2.out.1
                    have hcA := (Chg.refl [] w3).alloc (Obj.cells #[.slice la lq lc] 26)
                    have hrowA := ((hVO.chg0 HL3.out.2).chg0 hcA).row
                    rw [← hVn] at hrowA
                    have hb1 : ∀ u ∈ [Value.slice la lq lc], u.oneCell' = true := by simp [Value.oneCell']
                    have hb2 : i + 1 ≤ maxLen ∧ (i + 1) * 24 ≤ 140737488355328 := by simp only [maxLen]; omega
                    have hnew := cells_at (w := w3.alloc (Obj.cells #[.slice la lq lc] 26)) (heap_alloc_same _ _)
                    have hBB : wk.heap.size ≤ w2.heap.size := hin2.out.2.size
                    have hbase := Nat.le_trans hBB (HL3.out.2.tr hcA).size
                    have HA := Lib.hid (And.intro hrowA (And.intro hb1 (And.intro hb2 (And.intro hnew (And.intro hbase (And.intro hcA (And.intro hVn (And.intro hVO (And.intro hVm (And.intro hBB HL3.out))))))))))
                    clear hrowA hb1 hb2 hnew hbase hcA hVn hVO hVm hBB
                    go_wp2_with (at_builtin; refine wpList_append_own_at _ rfl _ _ 22 rfl wk.heap.size 26 j0 _ 1 24 Try.underlying22 hj0 hy0 hy1 hy2 rfl (by decide) (.slice xa i xc) i (VS.map Is.cell) rfl HA.out.1 ⟨w3.heap.size, 0, none⟩ 1 1 [.slice la lq lc] rfl rfl HA.out.2.2.2.1 HA.out.2.1 HA.out.2.2.1.1 HA.out.2.2.1.2 HA.out.2.2.2.2.1 ?_; intro v' w6 hr5 hg5 hn5 hb5; obtain ⟨a5, c5, rfl⟩ := ownsRow_slice hr5; have HW := Lib.hid (And.intro hr5 hg5); clear hr5 hg5 hn5 hb5)
                    go_roundg (n - (i + 1))
                    case measure => omega
                    case rel =>
                      obtain ⟨hrowA, -, -, -, -, hcA, hVn, hVO, hVm, hBB, hL, hLC⟩ := HA.out
                      exact ⟨i + 1, c5, a5, rfl, by omega, by go_num, rfl, Lib.hid ⟨SomeR.snoc hVn hVO hVm hBB hL (by omega) hLC hcA HW.out.1 HW.out.2, SomeR.grow hLC hcA hrowA HW.out.2 hin2.out.2 (Nat.le_refl _)⟩⟩
                  · obtain ⟨e1, e2, e3, e4, e5⟩ : ((k : Int) == 1) = true ∧ ((k : Int) == 2) = false ∧ ((k : Int) == 3) = false ∧ ((k : Int) == 4) = false ∧ ((k : Int) == 5) = false := by rw [h]; exact ⟨rfl, rfl, rfl, rfl, rfl⟩
                    clear h
                    go_wp2_with fail
                    refine (row13_int w3 _ _ _ n (by first | omega | (rw [htm]; omega)) (by omega) (by omega) (by omega)).mono ?_
                    rintro e w4 ⟨lb, kq, kc, rfl, hkq, hL4, hc4⟩
                    have HL4 := Lib.hid (And.intro hL4 hc4)
                    clear hL4 hc4
                    obtain ⟨VS, hVn, hVO, hVm⟩ := (hin2.out.1.chg0 HL3.out.2)
                    have hcA := (Chg.refl [] w4).alloc (Obj.cells #[.slice lb kq kc] 26)
                    have hrowA := ((hVO.chg0 HL4.out.2).chg0 hcA).row
                    rw [← hVn] at hrowA
                    have hb1 : ∀ u ∈ [Value.slice lb kq kc], u.oneCell' = true := by simp [Value.oneCell']
                    have hb2 : i + 1 ≤ maxLen ∧ (i + 1) * 24 ≤ 140737488355328 := by simp only [maxLen]; omega
                    have hnew := cells_at (w := w4.alloc (Obj.cells #[.slice lb kq kc] 26)) (heap_alloc_same _ _)
                    have hBB : wk.heap.size ≤ w3.heap.size := (hin2.out.2.tr HL3.out.2).size
                    have hbase := Nat.le_trans hBB (HL4.out.2.tr hcA).size
                    have HA := Lib.hid (And.intro hrowA (And.intro hb1 (And.intro hb2 (And.intro hnew (And.intro hbase (And.intro hcA (And.intro hVn (And.intro hVO (And.intro hVm (And.intro hBB HL4.out))))))))))
                    clear hrowA hb1 hb2 hnew hbase hcA hVn hVO hVm hBB
                    go_wp2_with (at_builtin; refine wpList_append_own_at _ rfl _ _ 22 rfl wk.heap.size 26 j0 _ 1 24 Try.underlying22 hj0 hy0 hy1 hy2 rfl (by decide) (.slice xa i xc) i (VS.map Is.cell) rfl HA.out.1 ⟨w4.heap.size, 0, none⟩ 1 1 [.slice lb kq kc] rfl rfl HA.out.2.2.2.1 HA.out.2.1 HA.out.2.2.1.1 HA.out.2.2.1.2 HA.out.2.2.2.2.1 ?_; intro v' w6 hr5 hg5 hn5 hb5; obtain ⟨a5, c5, rfl⟩ := ownsRow_slice hr5; have HW := Lib.hid (And.intro hr5 hg5); clear hr5 hg5 hn5 hb5)
                    go_roundg (n - (i + 1))
                    case measure => omega
                    case rel =>
                      obtain ⟨hrowA, -, -, -, -, hcA, hVn, hVO, hVm, hBB, hL, hLC⟩ := HA.out
                      exact ⟨i + 1, c5, a5, rfl, by omega, by go_num, rfl, Lib.hid ⟨SomeR.snoc hVn hVO hVm hBB hL (by omega) hLC hcA HW.out.1 HW.out.2, SomeR.grow hLC hcA hrowA HW.out.2 (hin2.out.2.tr HL3.out.2) (Nat.le_refl _)⟩⟩
                  · obtain ⟨e1, e2, e3, e4, e5⟩ : ((k : Int) == 1) = false ∧ ((k : Int) == 2) = true ∧ ((k : Int) == 3) = false ∧ ((k : Int) == 4) = false ∧ ((k : Int) == 5) = false := by rw [h]; exact ⟨rfl, rfl, rfl, rfl, rfl⟩
                    clear h
                    go_wp2_with fail
                    refine (row13_int w3 _ _ _ n (by first | omega | (rw [htm]; omega)) (by omega) (by omega) (by omega)).mono ?_
                    rintro e w4 ⟨lb, kq, kc, rfl, hkq, hL4, hc4⟩
                    have HL4 := Lib.hid (And.intro hL4 hc4)
                    clear hL4 hc4
                    obtain ⟨VS, hVn, hVO, hVm⟩ := (hin2.out.1.chg0 HL3.out.2)
                    have hcA := (Chg.refl [] w4).alloc (Obj.cells #[.slice lb kq kc] 26)
                    have hrowA := ((hVO.chg0 HL4.out.2).chg0 hcA).row
                    rw [← hVn] at hrowA
                    have hb1 : ∀ u ∈ [Value.slice lb kq kc], u.oneCell' = true := by simp [Value.oneCell']
                    have hb2 : i + 1 ≤ maxLen ∧ (i + 1) * 24 ≤ 140737488355328 := by simp only [maxLen]; omega
                    have hnew := cells_at (w := w4.alloc (Obj.cells #[.slice lb kq kc] 26)) (heap_alloc_same _ _)
                    have hBB : wk.heap.size ≤ w3.heap.size := (hin2.out.2.tr HL3.out.2).size
                    have hbase := Nat.le_trans hBB (HL4.out.2.tr hcA).size
                    have HA := Lib.hid (And.intro hrowA (And.intro hb1 (And.intro hb2 (And.intro hnew (And.intro hbase (And.intro hcA (And.intro hVn (And.intro hVO (And.intro hVm (And.intro hBB HL4.out))))))))))
                    clear hrowA hb1 hb2 hnew hbase hcA hVn hVO hVm hBB
                    go_wp2_with (at_builtin; refine wpList_append_own_at _ rfl _ _ 22 rfl wk.heap.size 26 j0 _ 1 24 Try.underlying22 hj0 hy0 hy1 hy2 rfl (by decide) (.slice xa i xc) i (VS.map Is.cell) rfl HA.out.1 ⟨w4.heap.size, 0, none⟩ 1 1 [.slice lb kq kc] rfl rfl HA.out.2.2.2.1 HA.out.2.1 HA.out.2.2.1.1 HA.out.2.2.1.2 HA.out.2.2.2.2.1 ?_; intro v' w6 hr5 hg5 hn5 hb5; obtain ⟨a5, c5, rfl⟩ := ownsRow_slice hr5; have HW := Lib.hid (And.intro hr5 hg5); clear hr5 hg5 hn5 hb5)
                    go_roundg (n - (i + 1))
                    case measure => omega
                    case rel =>
                      obtain ⟨hrowA, -, -, -, -, hcA, hVn, hVO, hVm, hBB, hL, hLC⟩ := HA.out
                      exact ⟨i + 1, c5, a5, rfl, by omega, by go_num, rfl, Lib.hid ⟨SomeR.snoc hVn hVO hVm hBB hL (by omega) hLC hcA HW.out.1 HW.out.2, SomeR.grow hLC hcA hrowA HW.out.2 (hin2.out.2.tr HL3.out.2) (Nat.le_refl _)⟩⟩
                  · obtain ⟨e1, e2, e3, e4, e5⟩ : ((k : Int) == 1) = false ∧ ((k : Int) == 2) = false ∧ ((k : Int) == 3) = true ∧ ((k : Int) == 4) = false ∧ ((k : Int) == 5) = false := by rw [h]; exact ⟨rfl, rfl, rfl, rfl, rfl⟩
                    clear h
                    go_wp2_with fail
                    refine (row13_int w3 _ _ _ n (by first | omega | (rw [htm]; omega)) (by omega) (by omega) (by omega)).mono ?_
                    rintro e w4 ⟨lb, kq, kc, rfl, hkq, hL4, hc4⟩
                    have HL4 := Lib.hid (And.intro hL4 hc4)
                    clear hL4 hc4
                    obtain ⟨VS, hVn, hVO, hVm⟩ := (hin2.out.1.chg0 HL3.out.2)
                    have hcA := (Chg.refl [] w4).alloc (Obj.cells #[.slice lb kq kc] 26)
                    have hrowA := ((hVO.chg0 HL4.out.2).chg0 hcA).row
                    rw [← hVn] at hrowA
                    have hb1 : ∀ u ∈ [Value.slice lb kq kc], u.oneCell' = true := by simp [Value.oneCell']
                    have hb2 : i + 1 ≤ maxLen ∧ (i + 1) * 24 ≤ 140737488355328 := by simp only [maxLen]; omega
                    have hnew := cells_at (w := w4.alloc (Obj.cells #[.slice lb kq kc] 26)) (heap_alloc_same _ _)
                    have hBB : wk.heap.size ≤ w3.heap.size := (hin2.out.2.tr HL3.out.2).size
                    have hbase := Nat.le_trans hBB (HL4.out.2.tr hcA).size
                    have HA := Lib.hid (And.intro hrowA (And.intro hb1 (And.intro hb2 (And.intro hnew (And.intro hbase (And.intro hcA (And.intro hVn (And.intro hVO (And.intro hVm (And.intro hBB HL4.out))))))))))
                    clear hrowA hb1 hb2 hnew hbase hcA hVn hVO hVm hBB
                    go_wp2_with (at_builtin; refine wpList_append_own_at _ rfl _ _ 22 rfl wk.heap.size 26 j0 _ 1 24 Try.underlying22 hj0 hy0 hy1 hy2 rfl (by decide) (.slice xa i xc) i (VS.map Is.cell) rfl HA.out.1 ⟨w4.heap.size, 0, none⟩ 1 1 [.slice lb kq kc] rfl rfl HA.out.2.2.2.1 HA.out.2.1 HA.out.2.2.1.1 HA.out.2.2.1.2 HA.out.2.2.2.2.1 ?_; intro v' w6 hr5 hg5 hn5 hb5; obtain ⟨a5, c5, rfl⟩ := ownsRow_slice hr5; have HW := Lib.hid (And.intro hr5 hg5); clear hr5 hg5 hn5 hb5)
                    go_roundg (n - (i + 1))
                    case measure => omega
                    case rel =>
                      obtain ⟨hrowA, -, -, -, -, hcA, hVn, hVO, hVm, hBB, hL, hLC⟩ := HA.out
                      exact ⟨i + 1, c5, a5, rfl, by omega, by go_num, rfl, Lib.hid ⟨SomeR.snoc hVn hVO hVm hBB hL (by omega) hLC hcA HW.out.1 HW.out.2, SomeR.grow hLC hcA hrowA HW.out.2 (hin2.out.2.tr HL3.out.2) (Nat.le_refl _)⟩⟩
                  · obtain ⟨e1, e2, e3, e4, e5⟩ : ((k : Int) == 1) = false ∧ ((k : Int) == 2) = false ∧ ((k : Int) == 3) = false ∧ ((k : Int) == 4) = true ∧ ((k : Int) == 5) = false := by rw [h]; exact ⟨rfl, rfl, rfl, rfl, rfl⟩
                    clear h
                    go_wp2_with fail
                    refine (row13_int w3 _ _ _ n (by first | omega | (rw [htm]; omega)) (by omega) (by omega) (by omega)).mono ?_
                    rintro e w4 ⟨lb, kq, kc, rfl, hkq, hL4, hc4⟩
                    have HL4 := Lib.hid (And.intro hL4 hc4)
                    clear hL4 hc4
                    obtain ⟨VS, hVn, hVO, hVm⟩ := (hin2.out.1.chg0 HL3.out.2)
                    have hcA := (Chg.refl [] w4).alloc (Obj.cells #[.slice lb kq kc] 26)
                    have hrowA := ((hVO.chg0 HL4.out.2).chg0 hcA).row
                    rw [← hVn] at hrowA
                    have hb1 : ∀ u ∈ [Value.slice lb kq kc], u.oneCell' = true := by simp [Value.oneCell']
                    have hb2 : i + 1 ≤ maxLen ∧ (i + 1) * 24 ≤ 140737488355328 := by simp only [maxLen]; omega
                    have hnew := cells_at (w := w4.alloc (Obj.cells #[.slice lb kq kc] 26)) (heap_alloc_same _ _)
                    have hBB : wk.heap.size ≤ w3.heap.size := (hin2.out.2.tr HL3.out.2).size
                    have hbase := Nat.le_trans hBB (HL4.out.2.tr hcA).size
                    have HA := Lib.hid (And.intro hrowA (And.intro hb1 (And.intro hb2 (And.intro hnew (And.intro hbase (And.intro hcA (And.intro hVn (And.intro hVO (And.intro hVm (And.intro hBB HL4.out))))))))))
                    clear hrowA hb1 hb2 hnew hbase hcA hVn hVO hVm hBB
                    go_wp2_with (at_builtin; refine wpList_append_own_at _ rfl _ _ 22 rfl wk.heap.size 26 j0 _ 1 24 Try.underlying22 hj0 hy0 hy1 hy2 rfl (by decide) (.slice xa i xc) i (VS.map Is.cell) rfl HA.out.1 ⟨w4.heap.size, 0, none⟩ 1 1 [.slice lb kq kc] rfl rfl HA.out.2.2.2.1 HA.out.2.1 HA.out.2.2.1.1 HA.out.2.2.1.2 HA.out.2.2.2.2.1 ?_; intro v' w6 hr5 hg5 hn5 hb5; obtain ⟨a5, c5, rfl⟩ := ownsRow_slice hr5; have HW := Lib.hid (And.intro hr5 hg5); clear hr5 hg5 hn5 hb5)
                    go_roundg (n - (i + 1))
                    case measure => omega
                    case rel =>
                      obtain ⟨hrowA, -, -, -, -, hcA, hVn, hVO, hVm, hBB, hL, hLC⟩ := HA.out
                      exact ⟨i + 1, c5, a5, rfl, by omega, by go_num, rfl, Lib.hid ⟨SomeR.snoc hVn hVO hVm hBB hL (by omega) hLC hcA HW.out.1 HW.out.2, SomeR.grow hLC hcA hrowA HW.out.2 (hin2.out.2.tr HL3.out.2) (Nat.le_refl _)⟩⟩
                  · obtain ⟨e1, e2, e3, e4, e5⟩ : ((k : Int) == 1) = false ∧ ((k : Int) == 2) = false ∧ ((k : Int) == 3) = false ∧ ((k : Int) == 4) = false ∧ ((k : Int) == 5) = true := by rw [h]; exact ⟨rfl, rfl, rfl, rfl, rfl⟩
                    clear h
                    go_wp2_with fail
                    refine (row13_int w3 _ _ _ n (by first | omega | (rw [htm]; omega)) (by omega) (by omega) (by omega)).mono ?_
                    rintro e w4 ⟨lb, kq, kc, rfl, hkq, hL4, hc4⟩
                    have HL4 := Lib.hid (And.intro hL4 hc4)
                    clear hL4 hc4
                    obtain ⟨VS, hVn, hVO, hVm⟩ := (hin2.out.1.chg0 HL3.out.2)
                    have hcA := (Chg.refl [] w4).alloc (Obj.cells #[.slice lb kq kc] 26)
                    have hrowA := ((hVO.chg0 HL4.out.2).chg0 hcA).row
                    rw [← hVn] at hrowA
                    have hb1 : ∀ u ∈ [Value.slice lb kq kc], u.oneCell' = true := by simp [Value.oneCell']
                    have hb2 : i + 1 ≤ maxLen ∧ (i + 1) * 24 ≤ 140737488355328 := by simp only [maxLen]; omega
                    have hnew := cells_at (w := w4.alloc (Obj.cells #[.slice lb kq kc] 26)) (heap_alloc_same _ _)
                    have hBB : wk.heap.size ≤ w3.heap.size := (hin2.out.2.tr HL3.out.2).size
                    have hbase := Nat.le_trans hBB (HL4.out.2.tr hcA).size
                    have HA := Lib.hid (And.intro hrowA (And.intro hb1 (And.intro hb2 (And.intro hnew (And.intro hbase (And.intro hcA (And.intro hVn (And.intro hVO (And.intro hVm (And.intro hBB HL4.out))))))))))
                    clear hrowA hb1 hb2 hnew hbase hcA hVn hVO hVm hBB
                    go_wp2_with (at_builtin; refine wpList_append_own_at _ rfl _ _ 22 rfl wk.heap.size 26 j0 _ 1 24 Try.underlying22 hj0 hy0 hy1 hy2 rfl (by decide) (.slice xa i xc) i (VS.map Is.cell) rfl HA.out.1 ⟨w4.heap.size, 0, none⟩ 1 1 [.slice lb kq kc] rfl rfl HA.out.2.2.2.1 HA.out.2.1 HA.out.2.2.1.1 HA.out.2.2.1.2 HA.out.2.2.2.2.1 ?_; intro v' w6 hr5 hg5 hn5 hb5; obtain ⟨a5, c5, rfl⟩ := ownsRow_slice hr5; have HW := Lib.hid (And.intro hr5 hg5); clear hr5 hg5 hn5 hb5)
                    go_roundg (n - (i + 1))
                    case measure => omega
                    case rel =>
                      obtain ⟨hrowA, -, -, -, -, hcA, hVn, hVO, hVm, hBB, hL, hLC⟩ := HA.out
                      exact ⟨i + 1, c5, a5, rfl, by omega, by go_num, rfl, Lib.hid ⟨SomeR.snoc hVn hVO hVm hBB hL (by omega) hLC hcA HW.out.1 HW.out.2, SomeR.grow hLC hcA hrowA HW.out.2 (hin2.out.2.tr HL3.out.2) (Nat.le_refl _)⟩⟩
                · obtain rfl : i = n := by omega
                  go_wp2_with fail
                  obtain ⟨q1, hq1⟩ : ∃ q, q = (i + k) % 7 := ⟨_, rfl⟩
                  obtain ⟨q2, hq2⟩ : ∃ q, q = i % 7 := ⟨_, rfl⟩
                  have hG2 := (((hin.out.tr hinK.out).tr hin2.out.2).heap HG.out.1 (by simp))
                  obtain ⟨z1, hz1, iz1⟩ := at_cell hG2 q1 (by omega)
                  obtain ⟨z2, hz2, iz2⟩ := at_cell hG2 q2 (by omega)
                  have cA := calls_rg (w := w2) (fun w' h1 => tellsR_int w' xa i xc (hin2.out.1.chg0 h1) (by omega) z1 z2 iz1 iz2)
                  have cB := calls_rg (w := w2) (fun w' h1 => tellsR_int w' xa i xc (hin2.out.1.chg0 h1) (by omega) ((i : Int) / 2) ((i : Int) - 1) (by omega) (by omega))
                  have kx := cell_rg hz1
                  have ky := cell_rg hz2
                  have m1 : Int.tmod ((i : Int) + k) 7 = (q1 : Int) := by rw [Int.tmod_eq_emod_of_nonneg (by omega)]; omega
                  have m2 : Int.tmod (i : Int) 7 = (q2 : Int) := by rw [Int.tmod_eq_emod_of_nonneg (by omega)]; omega
                  have m3 : ((i : Int) + k) % 7 = (q1 : Int) := by omega
                  have m4 : (i : Int) % 7 = (q2 : Int) := by omega
                  have l1 : q1 < 7 := by omega
                  have l2 : q2 < 7 := by omega
                  have HQ := Lib.hid (And.intro hq1 hq2)
                  clear hq1 hq2 hz1 hz2 iz1 iz2 hG2
                  refine wp_region_quiet_below (by kernel_rfl) (by kernel_rfl) ?_
                  repeat (go_big_quiet_step (first | (with_reducible exact cA _ _) | (with_reducible exact cB _ _)))
                  refine wpQuiet_nil ?_
                  intro w4 hw4
                  have hc4 := chg_of_rg hw4
                  have H4 := Lib.hid ((hinK.out.tr hin2.out.2).tr hc4)
                  clear hw4 hc4 cA cB kx ky
                  go_wp2_with fail
                  go_roundg (6 - (k + 1))
                  case measure => omega
                  case rel => exact ⟨k + 1, rfl, by omega, by go_num, H4⟩
            · obtain rfl : k = 6 := by omega
              have m1 : Int.tmod (n : Int) 3 = (n : Int) % 3 := Int.tmod_eq_emod_of_nonneg (by omega)
              go_wp2_with fail
              go_roundg (66 - (n + 1 + n % 3 * 7))
              case measure => omega
              case rel => exact ⟨n + 1 + n % 3 * 7, rfl, by omega, by go_num, Lib.hid (hin.out.tr hinK.out)⟩
        · have hmk : ∀ W : World, (Instr.makeSlice 22 (.int .i64 65) (.int .i64 65)).run Try.prog W = .ok (.slice (some ⟨W.heap.size, 0, none⟩) 65 65) (W.alloc (rowN 65)) := fun W => run_nils 65 (by omega) W
          go_wp2_with fail
          clear hmk

          obtain ⟨W1, hW1⟩ : ∃ z, z = w1.alloc (Obj.cells #[Value.int IntKind.i64 1, Value.int IntKind.i64 0] 3) := ⟨_, rfl⟩
          obtain ⟨W2, hW2⟩ : ∃ z, z = W1.alloc (Obj.cells #[Value.slice (some ⟨w1.heap.size, 0, none⟩) 2 2, Value.slice none 0 0] 26) := ⟨_, rfl⟩
          obtain ⟨W3, hW3⟩ : ∃ z, z = W2.alloc (Obj.cells #[Value.int IntKind.i64 0, Value.int IntKind.i64 0] 3) := ⟨_, rfl⟩
          obtain ⟨W4, hW4⟩ : ∃ z, z = W3.alloc (Obj.cells #[Value.slice (some ⟨w1.heap.size + 1 + 1, 0, none⟩) 2 2] 26) := ⟨_, rfl⟩
          obtain ⟨W5, hW5⟩ : ∃ z, z = W4.alloc (Obj.cells #[Value.int IntKind.i64 (-1)] 3) := ⟨_, rfl⟩
          obtain ⟨W6, hW6⟩ : ∃ z, z = W5.alloc (Obj.cells #[Value.slice (some ⟨w1.heap.size + 1 + 1 + 1 + 1, 0, none⟩) 1 1] 26) := ⟨_, rfl⟩
          obtain ⟨W7, hW7⟩ : ∃ z, z = W6.alloc (Obj.cells #[Value.int IntKind.i64 1] 3) := ⟨_, rfl⟩
          obtain ⟨W8, hW8⟩ : ∃ z, z = W7.alloc (Obj.cells #[Value.slice (some ⟨w1.heap.size + 1 + 1 + 1 + 1 + 1 + 1, 0, none⟩) 1 1] 26) := ⟨_, rfl⟩
          obtain ⟨W9, hW9⟩ : ∃ z, z = W8.alloc (Obj.cells #[Value.int IntKind.i64 0, Value.int IntKind.i64 1, Value.int IntKind.i64 2] 3) := ⟨_, rfl⟩
          obtain ⟨W10, hW10⟩ : ∃ z, z = W9.alloc (Obj.cells #[Value.slice none 0 0, Value.slice (some ⟨w1.heap.size + 1 + 1 + 1 + 1 + 1 + 1 + 1 + 1, 0, none⟩) 3 3] 26) := ⟨_, rfl⟩
          obtain ⟨W11, hW11⟩ : ∃ z, z = W10.alloc (Obj.cells #[Value.int IntKind.i64 4611686018427387904] 3) := ⟨_, rfl⟩
          obtain ⟨W12, hW12⟩ : ∃ z, z = W11.alloc (Obj.cells #[Value.slice (some ⟨w1.heap.size + 1 + 1 + 1 + 1 + 1 + 1 + 1 + 1 + 1 + 1, 0, none⟩) 1 1] 26) := ⟨_, rfl⟩
          obtain ⟨W13, hW13⟩ : ∃ z, z = W12.alloc (Obj.cells #[Value.int IntKind.i64 (-9223372036854775808)] 3) := ⟨_, rfl⟩
          obtain ⟨W14, hW14⟩ : ∃ z, z = W13.alloc (Obj.cells #[Value.slice (some ⟨w1.heap.size + 1 + 1 + 1 + 1 + 1 + 1 + 1 + 1 + 1 + 1 + 1 + 1, 0, none⟩) 1 1] 26) := ⟨_, rfl⟩
          obtain ⟨W15, hW15⟩ : ∃ z, z = W14.alloc (rowN 65) := ⟨_, rfl⟩
          obtain ⟨W16, hW16⟩ : ∃ z, z = W15.alloc (Obj.cells #[Value.slice (some ⟨w1.heap.size + 1, 0, none⟩) 2 2, Value.slice (some ⟨w1.heap.size + 1 + 1 + 1, 0, none⟩) 1 1, Value.slice (some ⟨w1.heap.size + 1 + 1 + 1 + 1 + 1, 0, none⟩) 1 1, Value.slice (some ⟨w1.heap.size + 1 + 1 + 1 + 1 + 1 + 1 + 1, 0, none⟩) 1 1, Value.slice (some ⟨w1.heap.size + 1 + 1 + 1 + 1 + 1 + 1 + 1 + 1 + 1, 0, none⟩) 2 2, Value.slice (some ⟨w1.heap.size + 1 + 1 + 1 + 1 + 1 + 1 + 1 + 1 + 1 + 1 + 1, 0, none⟩) 1 1, Value.slice (some ⟨w1.heap.size + 1 + 1 + 1 + 1 + 1 + 1 + 1 + 1 + 1 + 1 + 1 + 1 + 1, 0, none⟩) 1 1, Value.slice none 0 0, Value.slice (some ⟨w1.heap.size + 1 + 1 + 1 + 1 + 1 + 1 + 1 + 1 + 1 + 1 + 1 + 1 + 1 + 1, 0, none⟩) 65 65] 22) := ⟨_, rfl⟩
          rw [← hW1, ← hW2, ← hW3, ← hW4, ← hW5, ← hW6, ← hW7, ← hW8, ← hW9, ← hW10, ← hW11, ← hW12, ← hW13, ← hW14, ← hW15, ← hW16]
          have s1 : W1.heap.size = w1.heap.size + 1 := by rw [hW1, World.size_alloc]
          have g1 : W1.heap[w1.heap.size]? = some (Obj.cells #[Value.int IntKind.i64 1, Value.int IntKind.i64 0] 3 (0, 0)) := by rw [hW1]; exact heap_at _ _ rfl
          have c1 : Chg [] w1 W1 := by rw [hW1]; exact (Chg.refl _ _).alloc _
          have s2 : W2.heap.size = w1.heap.size + 1 + 1 := by rw [hW2, World.size_alloc, s1]
          have g2 : W2.heap[w1.heap.size + 1]? = some (Obj.cells #[Value.slice (some ⟨w1.heap.size, 0, none⟩) 2 2, Value.slice none 0 0] 26 (0, 0)) := by rw [hW2]; exact heap_at _ _ s1
          have c2 : Chg [] W1 W2 := by rw [hW2]; exact (Chg.refl _ _).alloc _
          have s3 : W3.heap.size = w1.heap.size + 1 + 1 + 1 := by rw [hW3, World.size_alloc, s2]
          have g3 : W3.heap[w1.heap.size + 1 + 1]? = some (Obj.cells #[Value.int IntKind.i64 0, Value.int IntKind.i64 0] 3 (0, 0)) := by rw [hW3]; exact heap_at _ _ s2
          have c3 : Chg [] W2 W3 := by rw [hW3]; exact (Chg.refl _ _).alloc _
          have s4 : W4.heap.size = w1.heap.size + 1 + 1 + 1 + 1 := by rw [hW4, World.size_alloc, s3]
          have g4 : W4.heap[w1.heap.size + 1 + 1 + 1]? = some (Obj.cells #[Value.slice (some ⟨w1.heap.size + 1 + 1, 0, none⟩) 2 2] 26 (0, 0)) := by rw [hW4]; exact heap_at _ _ s3
          have c4 : Chg [] W3 W4 := by rw [hW4]; exact (Chg.refl _ _).alloc _
          have s5 : W5.heap.size = w1.heap.size + 1 + 1 + 1 + 1 + 1 := by rw [hW5, World.size_alloc, s4]
          have g5 : W5.heap[w1.heap.size + 1 + 1 + 1 + 1]? = some (Obj.cells #[Value.int IntKind.i64 (-1)] 3 (0, 0)) := by rw [hW5]; exact heap_at _ _ s4
          have c5 : Chg [] W4 W5 := by rw [hW5]; exact (Chg.refl _ _).alloc _
          have s6 : W6.heap.size = w1.heap.size + 1 + 1 + 1 + 1 + 1 + 1 := by rw [hW6, World.size_alloc, s5]
          have g6 : W6.heap[w1.heap.size + 1 + 1 + 1 + 1 + 1]? = some (Obj.cells #[Value.slice (some ⟨w1.heap.size + 1 + 1 + 1 + 1, 0, none⟩) 1 1] 26 (0, 0)) := by rw [hW6]; exact heap_at _ _ s5
          have c6 : Chg [] W5 W6 := by rw [hW6]; exact (Chg.refl _ _).alloc _
          have s7 : W7.heap.size = w1.heap.size + 1 + 1 + 1 + 1 + 1 + 1 + 1 := by rw [hW7, World.size_alloc, s6]
          have g7 : W7.heap[w1.heap.size + 1 + 1 + 1 + 1 + 1 + 1]? = some (Obj.cells #[Value.int IntKind.i64 1] 3 (0, 0)) := by rw [hW7]; exact heap_at _ _ s6
          have c7 : Chg [] W6 W7 := by rw [hW7]; exact (Chg.refl _ _).alloc _
          have s8 : W8.heap.size = w1.heap.size + 1 + 1 + 1 + 1 + 1 + 1 + 1 + 1 := by rw [hW8, World.size_alloc, s7]
          have g8 : W8.heap[w1.heap.size + 1 + 1 + 1 + 1 + 1 + 1 + 1]? = some (Obj.cells #[Value.slice (some ⟨w1.heap.size + 1 + 1 + 1 + 1 + 1 + 1, 0, none⟩) 1 1] 26 (0, 0)) := by rw [hW8]; exact heap_at _ _ s7
          have c8 : Chg [] W7 W8 := by rw [hW8]; exact (Chg.refl _ _).alloc _
          have s9 : W9.heap.size = w1.heap.size + 1 + 1 + 1 + 1 + 1 + 1 + 1 + 1 + 1 := by rw [hW9, World.size_alloc, s8]
          have g9 : W9.heap[w1.heap.size + 1 + 1 + 1 + 1 + 1 + 1 + 1 + 1]? = some (Obj.cells #[Value.int IntKind.i64 0, Value.int IntKind.i64 1, Value.int IntKind.i64 2] 3 (0, 0)) := by rw [hW9]; exact heap_at _ _ s8
          have c9 : Chg [] W8 W9 := by rw [hW9]; exact (Chg.refl _ _).alloc _
          have s10 : W10.heap.size = w1.heap.size + 1 + 1 + 1 + 1 + 1 + 1 + 1 + 1 + 1 + 1 := by rw [hW10, World.size_alloc, s9]
          have g10 : W10.heap[w1.heap.size + 1 + 1 + 1 + 1 + 1 + 1 + 1 + 1 + 1]? = some (Obj.cells #[Value.slice none 0 0, Value.slice (some ⟨w1.heap.size + 1 + 1 + 1 + 1 + 1 + 1 + 1 + 1, 0, none⟩) 3 3] 26 (0, 0)) := by rw [hW10]; exact heap_at _ _ s9
          have c10 : Chg [] W9 W10 := by rw [hW10]; exact (Chg.refl _ _).alloc _
          have s11 : W11.heap.size = w1.heap.size + 1 + 1 + 1 + 1 + 1 + 1 + 1 + 1 + 1 + 1 + 1 := by rw [hW11, World.size_alloc, s10]
          have g11 : W11.heap[w1.heap.size + 1 + 1 + 1 + 1 + 1 + 1 + 1 + 1 + 1 + 1]? = some (Obj.cells #[Value.int IntKind.i64 4611686018427387904] 3 (0, 0)) := by rw [hW11]; exact heap_at _ _ s10
          have c11 : Chg [] W10 W11 := by rw [hW11]; exact (Chg.refl _ _).alloc _
          have s12 : W12.heap.size = w1.heap.size + 1 + 1 + 1 + 1 + 1 + 1 + 1 + 1 + 1 + 1 + 1 + 1 := by rw [hW12, World.size_alloc, s11]
          have g12 : W12.heap[w1.heap.size + 1 + 1 + 1 + 1 + 1 + 1 + 1 + 1 + 1 + 1 + 1]? = some (Obj.cells #[Value.slice (some ⟨w1.heap.size + 1 + 1 + 1 + 1 + 1 + 1 + 1 + 1 + 1 + 1, 0, none⟩) 1 1] 26 (0, 0)) := by rw [hW12]; exact heap_at _ _ s11
          have c12 : Chg [] W11 W12 := by rw [hW12]; exact (Chg.refl _ _).alloc _
          have s13 : W13.heap.size = w1.heap.size + 1 + 1 + 1 + 1 + 1 + 1 + 1 + 1 + 1 + 1 + 1 + 1 + 1 := by rw [hW13, World.size_alloc, s12]
          have g13 : W13.heap[w1.heap.size + 1 + 1 + 1 + 1 + 1 + 1 + 1 + 1 + 1 + 1 + 1 + 1]? = some (Obj.cells #[Value.int IntKind.i64 (-9223372036854775808)] 3 (0, 0)) := by rw [hW13]; exact heap_at _ _ s12
          have c13 : Chg [] W12 W13 := by rw [hW13]; exact (Chg.refl _ _).alloc _
          have s14 : W14.heap.size = w1.heap.size + 1 + 1 + 1 + 1 + 1 + 1 + 1 + 1 + 1 + 1 + 1 + 1 + 1 + 1 := by rw [hW14, World.size_alloc, s13]
          have g14 : W14.heap[w1.heap.size + 1 + 1 + 1 + 1 + 1 + 1 + 1 + 1 + 1 + 1 + 1 + 1 + 1]? = some (Obj.cells #[Value.slice (some ⟨w1.heap.size + 1 + 1 + 1 + 1 + 1 + 1 + 1 + 1 + 1 + 1 + 1 + 1, 0, none⟩) 1 1] 26 (0, 0)) := by rw [hW14]; exact heap_at _ _ s13
          have c14 : Chg [] W13 W14 := by rw [hW14]; exact (Chg.refl _ _).alloc _
          have s15 : W15.heap.size = w1.heap.size + 1 + 1 + 1 + 1 + 1 + 1 + 1 + 1 + 1 + 1 + 1 + 1 + 1 + 1 + 1 := by rw [hW15, World.size_alloc, s14]
          have g15 : W15.heap[w1.heap.size + 1 + 1 + 1 + 1 + 1 + 1 + 1 + 1 + 1 + 1 + 1 + 1 + 1 + 1]? = some (rowN 65) := by rw [hW15]; exact heap_at _ _ s14
          have c15 : Chg [] W14 W15 := by rw [hW15]; exact (Chg.refl _ _).alloc _
          have s16 : W16.heap.size = w1.heap.size + 1 + 1 + 1 + 1 + 1 + 1 + 1 + 1 + 1 + 1 + 1 + 1 + 1 + 1 + 1 + 1 := by rw [hW16, World.size_alloc, s15]
          have g16 : W16.heap[w1.heap.size + 1 + 1 + 1 + 1 + 1 + 1 + 1 + 1 + 1 + 1 + 1 + 1 + 1 + 1 + 1]? = some (Obj.cells #[Value.slice (some ⟨w1.heap.size + 1, 0, none⟩) 2 2, Value.slice (some ⟨w1.heap.size + 1 + 1 + 1, 0, none⟩) 1 1, Value.slice (some ⟨w1.heap.size + 1 + 1 + 1 + 1 + 1, 0, none⟩) 1 1, Value.slice (some ⟨w1.heap.size + 1 + 1 + 1 + 1 + 1 + 1 + 1, 0, none⟩) 1 1, Value.slice (some ⟨w1.heap.size + 1 + 1 + 1 + 1 + 1 + 1 + 1 + 1 + 1, 0, none⟩) 2 2, Value.slice (some ⟨w1.heap.size + 1 + 1 + 1 + 1 + 1 + 1 + 1 + 1 + 1 + 1 + 1, 0, none⟩) 1 1, Value.slice (some ⟨w1.heap.size + 1 + 1 + 1 + 1 + 1 + 1 + 1 + 1 + 1 + 1 + 1 + 1 + 1, 0, none⟩) 1 1, Value.slice none 0 0, Value.slice (some ⟨w1.heap.size + 1 + 1 + 1 + 1 + 1 + 1 + 1 + 1 + 1 + 1 + 1 + 1 + 1 + 1, 0, none⟩) 65 65] 22 (0, 0)) := by rw [hW16]; exact heap_at _ _ s15
          have c16 : Chg [] W15 W16 := by rw [hW16]; exact (Chg.refl _ _).alloc _
          have d16 : Chg [] W16 W16 := Chg.refl _ _
          have d15 : Chg [] W15 W16 := c16.tr d16
          have d14 : Chg [] W14 W16 := c15.tr d15
          have d13 : Chg [] W13 W16 := c14.tr d14
          have d12 : Chg [] W12 W16 := c13.tr d13
          have d11 : Chg [] W11 W16 := c12.tr d12
          have d10 : Chg [] W10 W16 := c11.tr d11
          have d9 : Chg [] W9 W16 := c10.tr d10
          have d8 : Chg [] W8 W16 := c9.tr d9
          have d7 : Chg [] W7 W16 := c8.tr d8
          have d6 : Chg [] W6 W16 := c7.tr d7
          have d5 : Chg [] W5 W16 := c6.tr d6
          have d4 : Chg [] W4 W16 := c5.tr d5
          have d3 : Chg [] W3 W16 := c4.tr d4
          have d2 : Chg [] W2 W16 := c3.tr d3
          have d1 : Chg [] W1 W16 := c2.tr d2
          have t0 : TabL W16 (Value.slice (some ⟨w1.heap.size + 1, 0, none⟩) 2 2) := tabL_cells ([(some ⟨w1.heap.size, 0, none⟩, 2, [1, 0]), (none, 0, [])] : List Is) (d2.heap g2 (by simp)) (by simp) (fun p hp => by
            rcases List.mem_cons.1 hp with rfl | hp
            · exact ⟨ints_of_cells (zs := [1, 0]) (d1.heap g1 (by simp)), by simp⟩
            · rw [List.mem_singleton.1 hp]; exact ⟨ints_nil _ _, by simp⟩)
          have t1 : TabL W16 (Value.slice (some ⟨w1.heap.size + 1 + 1 + 1, 0, none⟩) 1 1) := tabL_cells ([(some ⟨w1.heap.size + 1 + 1, 0, none⟩, 2, [0, 0])] : List Is) (d4.heap g4 (by simp)) (by simp) (fun p hp => by
            rw [List.mem_singleton.1 hp]; exact ⟨ints_of_cells (zs := [0, 0]) (d3.heap g3 (by simp)), by simp⟩)
          have t2 : TabL W16 (Value.slice (some ⟨w1.heap.size + 1 + 1 + 1 + 1 + 1, 0, none⟩) 1 1) := tabL_cells ([(some ⟨w1.heap.size + 1 + 1 + 1 + 1, 0, none⟩, 1, [-1])] : List Is) (d6.heap g6 (by simp)) (by simp) (fun p hp => by
            rw [List.mem_singleton.1 hp]; exact ⟨ints_of_cells (zs := [-1]) (d5.heap g5 (by simp)), by simp⟩)
          have t3 : TabL W16 (Value.slice (some ⟨w1.heap.size + 1 + 1 + 1 + 1 + 1 + 1 + 1, 0, none⟩) 1 1) := tabL_cells ([(some ⟨w1.heap.size + 1 + 1 + 1 + 1 + 1 + 1, 0, none⟩, 1, [1])] : List Is) (d8.heap g8 (by simp)) (by simp) (fun p hp => by
            rw [List.mem_singleton.1 hp]; exact ⟨ints_of_cells (zs := [1]) (d7.heap g7 (by simp)), by simp⟩)
          have t4 : TabL W16 (Value.slice (some ⟨w1.heap.size + 1 + 1 + 1 + 1 + 1 + 1 + 1 + 1 + 1, 0, none⟩) 2 2) := tabL_cells ([(none, 0, []), (some ⟨w1.heap.size + 1 + 1 + 1 + 1 + 1 + 1 + 1 + 1, 0, none⟩, 3, [0, 1, 2])] : List Is) (d10.heap g10 (by simp)) (by simp) (fun p hp => by
            rcases List.mem_cons.1 hp with rfl | hp
            · exact ⟨ints_nil _ _, by simp⟩
            · rw [List.mem_singleton.1 hp]; exact ⟨ints_of_cells (zs := [0, 1, 2]) (d9.heap g9 (by simp)), by simp⟩)
          have t5 : TabL W16 (Value.slice (some ⟨w1.heap.size + 1 + 1 + 1 + 1 + 1 + 1 + 1 + 1 + 1 + 1 + 1, 0, none⟩) 1 1) := tabL_cells ([(some ⟨w1.heap.size + 1 + 1 + 1 + 1 + 1 + 1 + 1 + 1 + 1 + 1, 0, none⟩, 1, [4611686018427387904])] : List Is) (d12.heap g12 (by simp)) (by simp) (fun p hp => by
            rw [List.mem_singleton.1 hp]; exact ⟨ints_of_cells (zs := [4611686018427387904]) (d11.heap g11 (by simp)), by simp⟩)
          have t6 : TabL W16 (Value.slice (some ⟨w1.heap.size + 1 + 1 + 1 + 1 + 1 + 1 + 1 + 1 + 1 + 1 + 1 + 1 + 1, 0, none⟩) 1 1) := tabL_cells ([(some ⟨w1.heap.size + 1 + 1 + 1 + 1 + 1 + 1 + 1 + 1 + 1 + 1 + 1 + 1, 0, none⟩, 1, [-9223372036854775808])] : List Is) (d14.heap g14 (by simp)) (by simp) (fun p hp => by
            rw [List.mem_singleton.1 hp]; exact ⟨ints_of_cells (zs := [-9223372036854775808]) (d13.heap g13 (by simp)), by simp⟩)
          have t7 : TabL W16 (Value.slice none 0 0) := tabL_nil _
          have t8 : TabL W16 (Value.slice (some ⟨w1.heap.size + 1 + 1 + 1 + 1 + 1 + 1 + 1 + 1 + 1 + 1 + 1 + 1 + 1 + 1, 0, none⟩) 65 65) := tabL_nils (d15.heap g15 (by simp)) (by omega)
          have hbad : ∀ i, i < 9 → ∃ v, W16.cell? ⟨w1.heap.size + 1 + 1 + 1 + 1 + 1 + 1 + 1 + 1 + 1 + 1 + 1 + 1 + 1 + 1 + 1, i, none⟩ = some v ∧ TabL W16 v := fun i hi => by
            rcases (show i = 0 ∨ i = 1 ∨ i = 2 ∨ i = 3 ∨ i = 4 ∨ i = 5 ∨ i = 6 ∨ i = 7 ∨ i = 8 by omega) with rfl | rfl | rfl | rfl | rfl | rfl | rfl | rfl | rfl <;> rw [cell_of_cells g16]

            · exact ⟨_, rfl, t0⟩
            · exact ⟨_, rfl, t1⟩
            · exact ⟨_, rfl, t2⟩
            · exact ⟨_, rfl, t3⟩
            · exact ⟨_, rfl, t4⟩
            · exact ⟨_, rfl, t5⟩
            · exact ⟨_, rfl, t6⟩
            · exact ⟨_, rfl, t7⟩
            · exact ⟨_, rfl, t8⟩
          have HB := Lib.hid (And.intro hbad ((HG.out.2.tr hin.out).tr (c1.tr d1)))
          clear hbad t0 t1 t2 t3 t4 t5 t6 t7 t8 d1 d2 d3 d4 d5 d6 d7 d8 d9 d10 d11 d12 d13 d14 d15 d16 c1 g1 s1 c2 g2 s2 c3 g3 s3 c4 g4 s4 c5 g5 s5 c6 g6 s6 c7 g7 s7 c8 g8 s8 c9 g9 s9 c10 g10 s10 c11 g11 s11 c12 g12 s12 c13 g13 s13 c14 g14 s14 c15 g15 s15 c16 g16 s16 hW16 hW15 hW14 hW13 hW12 hW11 hW10 hW9 hW8 hW7 hW6 hW5 hW4 hW3 hW2 hW1
          obtain ⟨bb, hbb⟩ : ∃ z, z = w1.heap.size + 1 + 1 + 1 + 1 + 1 + 1 + 1 + 1 + 1 + 1 + 1 + 1 + 1 + 1 + 1 := ⟨_, rfl⟩
          rw [← hbb] at HB ⊢
          clear hbb
          go_loopg [13] 9 (fun d iv wr => ∃ i : Nat, d = 9 - i ∧ i ≤ 9 ∧ iv = .int .i64 i ∧ Hid (Chg [] W16 wr))
          case atStart => exact ⟨0, rfl, by omega, rfl, Lib.hid (Chg.refl _ _)⟩
          case round =>
            obtain ⟨i, rfl, hi, rfl, hinB⟩ := hrel
            obtain ⟨wq, rfl⟩ : ∃ z, z = wr := ⟨_, rfl⟩
            by_cases hil : i < 9
            · obtain ⟨v, hv, hT⟩ := HB.out.1 i hil
              obtain ⟨a, q, c, VS, rfl, hT⟩ := hT
              have hT2 : TabL wq (.slice a q c) := TabL.chg0 ⟨a, q, c, VS, rfl, hT⟩ hinB.out
              have hv2 := hinB.out.cell hv (by simp)
              have HT := Lib.hid (tellsL_any wq a q c hT2)
              clear hT hT2 hv
              go_wp2_with fail
              refine (HT.out _ _ (by omega) (by omega)).mono ?_
              rintro e w4 ⟨rfl, hq⟩
              have H4 := Lib.hid (hinB.out.tr hq)
              clear hq hv2
              go_wp2_with fail
              go_roundg (9 - (i + 1))
              case measure => omega
              case rel => exact ⟨i + 1, rfl, by omega, by go_num, H4⟩
            · obtain rfl : i = 9 := by omega
              go_wp2_with fail
              refine (awake13_any wq).mono ?_
              rintro e w4 ⟨rfl, hq⟩
              have H4 := Lib.hid ((HB.out.2.tr hinB.out).tr hq)
              clear hq
              go_wp2_with fail
              go_ret
              exact ⟨rfl, H4.out⟩

end Go.Proofs.Ytplpboknmhgpiaa

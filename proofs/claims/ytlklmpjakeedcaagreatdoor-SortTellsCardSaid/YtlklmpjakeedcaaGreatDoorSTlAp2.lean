/-
  Of no rows of a kind it is said that they lie apart.
  Conditions: none.
-/
import Derived.Test.YtlklmpjakeedcaaGreatDoorSTlAp0
import Derived.Test.YtlklmpjakeedcaaGreatDoorSTlGAny2
set_option linter.unusedVariables false
set_option linter.unusedSimpArgs false
set_option linter.unnecessarySimpa false
namespace Go.Proofs.YtlklmpjakeedcaaGreatDoor
open Go.RowKit Go.MapKept Go.Shelf

theorem made_none {t e : TypeId} (ht : Tryz.prog.underlying t = some (.slice e)) (h : ((Tryz.prog.info? e).bind fun i => i.zero).isSome = true) : ∃ ob, ∀ W : World, (Instr.makeSlice t (.int .i64 0) (.int .i64 0)).run Tryz.prog W = .ok (.slice (some ⟨W.heap.size, 0, none⟩) 0 0) (W.alloc ob) := by
  obtain ⟨z, hz⟩ := Option.isSome_iff_exists.1 h
  obtain ⟨i, hi, hz⟩ := Option.bind_eq_some_iff.1 hz
  refine ⟨.cells (madeCells z.cells ((0 : Int).toNat * i.size)) e, fun W => ?_⟩
  have hr := run_make (P := Tryz.prog) W t e i z ht hi hz .i64 .i64 0 0 (Int.le_refl _) (Int.le_refl _) (by simp) (by decide)
  exact hr

set_option maxRecDepth 100000 in
set_option maxHeartbeats 2000000 in
theorem flatLimbs_nil (w : World) : Calls Tryz.prog 126 #[.slice none 0 0] w fun e w' => e = .returned (.bool true) ∧ Chg [] w w' := by
  obtain ⟨ob, hmk⟩ := made_none (t := 123) Tryz.underlying123 (by kernel_rfl)
  go_enter Tryz.func126, Tryz.ntmps126
  go_wp2_with fail
  go_loopg [3] 0 (fun dd kv wr => dd = 0 ∧ kv = .int .i64 0 ∧ Hid (Chg [] w wr))
  case atStart => exact ⟨rfl, rfl, Lib.hid (Chg.refl _ _)⟩
  case round =>
    obtain ⟨rfl, rfl, hin0⟩ := hrel
    obtain ⟨w0, rfl⟩ : ∃ wk, wk = wr := ⟨_, rfl⟩
    go_wp2_with fail
    go_loopg [6] 0 (fun dd kv wr => dd = 0 ∧ kv = .int .i64 0 ∧ Hid (Chg [] w wr))
    case atStart => exact ⟨rfl, rfl, Lib.hid (hin0.out.alloc ob)⟩
    case round =>
      obtain ⟨rfl, rfl, hin1⟩ := hrel
      obtain ⟨w1, rfl⟩ : ∃ wk, wk = wr := ⟨_, rfl⟩
      go_wp2_with fail
      go_loopg [9] 0 (fun dd kv wr => dd = 0 ∧ kv = .int .i64 0 ∧ Hid (Chg [] w wr))
      case atStart => exact ⟨rfl, rfl, hin1⟩
      case round =>
        obtain ⟨rfl, rfl, hin2⟩ := hrel
        obtain ⟨w2, rfl⟩ : ∃ wk, wk = wr := ⟨_, rfl⟩
        go_wp2_with fail
        go_loopg [11] 0 (fun dd kv wr => dd = 0 ∧ kv = .int .i64 0 ∧ Hid (Chg [] w wr))
        case atStart => exact ⟨rfl, rfl, hin2⟩
        case round =>
          obtain ⟨rfl, rfl, hin3⟩ := hrel
          obtain ⟨w3, rfl⟩ : ∃ wk, wk = wr := ⟨_, rfl⟩
          go_wp2_with fail
          go_loopg [14] 0 (fun dd kv wr => dd = 0 ∧ kv = .int .i64 0 ∧ Hid (Chg [] w wr))
          case atStart => exact ⟨rfl, rfl, hin3⟩
          case round =>
            obtain ⟨rfl, rfl, hin4⟩ := hrel
            obtain ⟨w4, rfl⟩ : ∃ wk, wk = wr := ⟨_, rfl⟩
            go_wp2_with fail
            go_ret
            exact ⟨rfl, hin4.out⟩

set_option maxRecDepth 100000 in
set_option maxHeartbeats 2000000 in
theorem flatWords_nil (w : World) : Calls Tryz.prog 127 #[.slice none 0 0] w fun e w' => e = .returned (.bool true) ∧ Chg [] w w' := by
  obtain ⟨ob, hmk⟩ := made_none (t := 124) Tryz.underlying124 (by kernel_rfl)
  go_enter Tryz.func127, Tryz.ntmps127
  go_wp2_with fail
  go_loopg [3] 0 (fun dd kv wr => dd = 0 ∧ kv = .int .i64 0 ∧ Hid (Chg [] w wr))
  case atStart => exact ⟨rfl, rfl, Lib.hid (Chg.refl _ _)⟩
  case round =>
    obtain ⟨rfl, rfl, hin0⟩ := hrel
    obtain ⟨w0, rfl⟩ : ∃ wk, wk = wr := ⟨_, rfl⟩
    go_wp2_with fail
    go_loopg [6] 0 (fun dd kv wr => dd = 0 ∧ kv = .int .i64 0 ∧ Hid (Chg [] w wr))
    case atStart => exact ⟨rfl, rfl, Lib.hid (hin0.out.alloc ob)⟩
    case round =>
      obtain ⟨rfl, rfl, hin1⟩ := hrel
      obtain ⟨w1, rfl⟩ : ∃ wk, wk = wr := ⟨_, rfl⟩
      go_wp2_with fail
      go_loopg [9] 0 (fun dd kv wr => dd = 0 ∧ kv = .int .i64 0 ∧ Hid (Chg [] w wr))
      case atStart => exact ⟨rfl, rfl, hin1⟩
      case round =>
        obtain ⟨rfl, rfl, hin2⟩ := hrel
        obtain ⟨w2, rfl⟩ : ∃ wk, wk = wr := ⟨_, rfl⟩
        go_wp2_with fail
        go_loopg [11] 0 (fun dd kv wr => dd = 0 ∧ kv = .int .i64 0 ∧ Hid (Chg [] w wr))
        case atStart => exact ⟨rfl, rfl, hin2⟩
        case round =>
          obtain ⟨rfl, rfl, hin3⟩ := hrel
          obtain ⟨w3, rfl⟩ : ∃ wk, wk = wr := ⟨_, rfl⟩
          go_wp2_with fail
          go_loopg [14] 0 (fun dd kv wr => dd = 0 ∧ kv = .int .i64 0 ∧ Hid (Chg [] w wr))
          case atStart => exact ⟨rfl, rfl, hin3⟩
          case round =>
            obtain ⟨rfl, rfl, hin4⟩ := hrel
            obtain ⟨w4, rfl⟩ : ∃ wk, wk = wr := ⟨_, rfl⟩
            go_wp2_with fail
            go_ret
            exact ⟨rfl, hin4.out⟩

set_option maxRecDepth 100000 in
set_option maxHeartbeats 2000000 in
theorem flatLongs_nil (w : World) : Calls Tryz.prog 129 #[.slice none 0 0] w fun e w' => e = .returned (.bool true) ∧ Chg [] w w' := by
  obtain ⟨ob, hmk⟩ := made_none (t := 125) Tryz.underlying125 (by kernel_rfl)
  go_enter Tryz.func129, Tryz.ntmps129
  go_wp2_with fail
  go_loopg [3] 0 (fun dd kv wr => dd = 0 ∧ kv = .int .i64 0 ∧ Hid (Chg [] w wr))
  case atStart => exact ⟨rfl, rfl, Lib.hid (Chg.refl _ _)⟩
  case round =>
    obtain ⟨rfl, rfl, hin0⟩ := hrel
    obtain ⟨w0, rfl⟩ : ∃ wk, wk = wr := ⟨_, rfl⟩
    go_wp2_with fail
    go_loopg [6] 0 (fun dd kv wr => dd = 0 ∧ kv = .int .i64 0 ∧ Hid (Chg [] w wr))
    case atStart => exact ⟨rfl, rfl, Lib.hid (hin0.out.alloc ob)⟩
    case round =>
      obtain ⟨rfl, rfl, hin1⟩ := hrel
      obtain ⟨w1, rfl⟩ : ∃ wk, wk = wr := ⟨_, rfl⟩
      go_wp2_with fail
      go_loopg [9] 0 (fun dd kv wr => dd = 0 ∧ kv = .int .i64 0 ∧ Hid (Chg [] w wr))
      case atStart => exact ⟨rfl, rfl, hin1⟩
      case round =>
        obtain ⟨rfl, rfl, hin2⟩ := hrel
        obtain ⟨w2, rfl⟩ : ∃ wk, wk = wr := ⟨_, rfl⟩
        go_wp2_with fail
        go_loopg [11] 0 (fun dd kv wr => dd = 0 ∧ kv = .int .i64 0 ∧ Hid (Chg [] w wr))
        case atStart => exact ⟨rfl, rfl, hin2⟩
        case round =>
          obtain ⟨rfl, rfl, hin3⟩ := hrel
          obtain ⟨w3, rfl⟩ : ∃ wk, wk = wr := ⟨_, rfl⟩
          go_wp2_with fail
          go_loopg [14] 0 (fun dd kv wr => dd = 0 ∧ kv = .int .i64 0 ∧ Hid (Chg [] w wr))
          case atStart => exact ⟨rfl, rfl, hin3⟩
          case round =>
            obtain ⟨rfl, rfl, hin4⟩ := hrel
            obtain ⟨w4, rfl⟩ : ∃ wk, wk = wr := ⟨_, rfl⟩
            go_wp2_with fail
            go_ret
            exact ⟨rfl, hin4.out⟩

set_option maxRecDepth 100000 in
set_option maxHeartbeats 2000000 in
theorem flatTexts_nil (w : World) : Calls Tryz.prog 130 #[.slice none 0 0] w fun e w' => e = .returned (.bool true) ∧ Chg [] w w' := by
  obtain ⟨ob, hmk⟩ := made_none (t := 126) Tryz.underlying126 (by kernel_rfl)
  go_enter Tryz.func130, Tryz.ntmps130
  go_wp2_with fail
  go_loopg [3] 0 (fun dd kv wr => dd = 0 ∧ kv = .int .i64 0 ∧ Hid (Chg [] w wr))
  case atStart => exact ⟨rfl, rfl, Lib.hid (Chg.refl _ _)⟩
  case round =>
    obtain ⟨rfl, rfl, hin0⟩ := hrel
    obtain ⟨w0, rfl⟩ : ∃ wk, wk = wr := ⟨_, rfl⟩
    go_wp2_with fail
    go_loopg [6] 0 (fun dd kv wr => dd = 0 ∧ kv = .int .i64 0 ∧ Hid (Chg [] w wr))
    case atStart => exact ⟨rfl, rfl, Lib.hid (hin0.out.alloc ob)⟩
    case round =>
      obtain ⟨rfl, rfl, hin1⟩ := hrel
      obtain ⟨w1, rfl⟩ : ∃ wk, wk = wr := ⟨_, rfl⟩
      go_wp2_with fail
      go_loopg [9] 0 (fun dd kv wr => dd = 0 ∧ kv = .int .i64 0 ∧ Hid (Chg [] w wr))
      case atStart => exact ⟨rfl, rfl, hin1⟩
      case round =>
        obtain ⟨rfl, rfl, hin2⟩ := hrel
        obtain ⟨w2, rfl⟩ : ∃ wk, wk = wr := ⟨_, rfl⟩
        go_wp2_with fail
        go_loopg [11] 0 (fun dd kv wr => dd = 0 ∧ kv = .int .i64 0 ∧ Hid (Chg [] w wr))
        case atStart => exact ⟨rfl, rfl, hin2⟩
        case round =>
          obtain ⟨rfl, rfl, hin3⟩ := hrel
          obtain ⟨w3, rfl⟩ : ∃ wk, wk = wr := ⟨_, rfl⟩
          go_wp2_with fail
          go_loopg [14] 0 (fun dd kv wr => dd = 0 ∧ kv = .int .i64 0 ∧ Hid (Chg [] w wr))
          case atStart => exact ⟨rfl, rfl, hin3⟩
          case round =>
            obtain ⟨rfl, rfl, hin4⟩ := hrel
            obtain ⟨w4, rfl⟩ : ∃ wk, wk = wr := ⟨_, rfl⟩
            go_wp2_with fail
            go_ret
            exact ⟨rfl, hin4.out⟩

set_option maxRecDepth 100000 in
set_option maxHeartbeats 2000000 in
theorem flatBytes_nil (w : World) : Calls Tryz.prog 131 #[.slice none 0 0] w fun e w' => e = .returned (.bool true) ∧ Chg [] w w' := by
  obtain ⟨ob, hmk⟩ := made_none (t := 127) Tryz.underlying127 (by kernel_rfl)
  go_enter Tryz.func131, Tryz.ntmps131
  go_wp2_with fail
  go_loopg [3] 0 (fun dd kv wr => dd = 0 ∧ kv = .int .i64 0 ∧ Hid (Chg [] w wr))
  case atStart => exact ⟨rfl, rfl, Lib.hid (Chg.refl _ _)⟩
  case round =>
    obtain ⟨rfl, rfl, hin0⟩ := hrel
    obtain ⟨w0, rfl⟩ : ∃ wk, wk = wr := ⟨_, rfl⟩
    go_wp2_with fail
    go_loopg [6] 0 (fun dd kv wr => dd = 0 ∧ kv = .int .i64 0 ∧ Hid (Chg [] w wr))
    case atStart => exact ⟨rfl, rfl, Lib.hid (hin0.out.alloc ob)⟩
    case round =>
      obtain ⟨rfl, rfl, hin1⟩ := hrel
      obtain ⟨w1, rfl⟩ : ∃ wk, wk = wr := ⟨_, rfl⟩
      go_wp2_with fail
      go_loopg [9] 0 (fun dd kv wr => dd = 0 ∧ kv = .int .i64 0 ∧ Hid (Chg [] w wr))
      case atStart => exact ⟨rfl, rfl, hin1⟩
      case round =>
        obtain ⟨rfl, rfl, hin2⟩ := hrel
        obtain ⟨w2, rfl⟩ : ∃ wk, wk = wr := ⟨_, rfl⟩
        go_wp2_with fail
        go_loopg [11] 0 (fun dd kv wr => dd = 0 ∧ kv = .int .i64 0 ∧ Hid (Chg [] w wr))
        case atStart => exact ⟨rfl, rfl, hin2⟩
        case round =>
          obtain ⟨rfl, rfl, hin3⟩ := hrel
          obtain ⟨w3, rfl⟩ : ∃ wk, wk = wr := ⟨_, rfl⟩
          go_wp2_with fail
          go_loopg [14] 0 (fun dd kv wr => dd = 0 ∧ kv = .int .i64 0 ∧ Hid (Chg [] w wr))
          case atStart => exact ⟨rfl, rfl, hin3⟩
          case round =>
            obtain ⟨rfl, rfl, hin4⟩ := hrel
            obtain ⟨w4, rfl⟩ : ∃ wk, wk = wr := ⟨_, rfl⟩
            go_wp2_with fail
            go_ret
            exact ⟨rfl, hin4.out⟩

set_option maxRecDepth 100000 in
set_option maxHeartbeats 2000000 in
theorem flatTruths_nil (w : World) : Calls Tryz.prog 132 #[.slice none 0 0] w fun e w' => e = .returned (.bool true) ∧ Chg [] w w' := by
  obtain ⟨ob, hmk⟩ := made_none (t := 128) Tryz.underlying128 (by kernel_rfl)
  go_enter Tryz.func132, Tryz.ntmps132
  go_wp2_with fail
  go_loopg [3] 0 (fun dd kv wr => dd = 0 ∧ kv = .int .i64 0 ∧ Hid (Chg [] w wr))
  case atStart => exact ⟨rfl, rfl, Lib.hid (Chg.refl _ _)⟩
  case round =>
    obtain ⟨rfl, rfl, hin0⟩ := hrel
    obtain ⟨w0, rfl⟩ : ∃ wk, wk = wr := ⟨_, rfl⟩
    go_wp2_with fail
    go_loopg [6] 0 (fun dd kv wr => dd = 0 ∧ kv = .int .i64 0 ∧ Hid (Chg [] w wr))
    case atStart => exact ⟨rfl, rfl, Lib.hid (hin0.out.alloc ob)⟩
    case round =>
      obtain ⟨rfl, rfl, hin1⟩ := hrel
      obtain ⟨w1, rfl⟩ : ∃ wk, wk = wr := ⟨_, rfl⟩
      go_wp2_with fail
      go_loopg [9] 0 (fun dd kv wr => dd = 0 ∧ kv = .int .i64 0 ∧ Hid (Chg [] w wr))
      case atStart => exact ⟨rfl, rfl, hin1⟩
      case round =>
        obtain ⟨rfl, rfl, hin2⟩ := hrel
        obtain ⟨w2, rfl⟩ : ∃ wk, wk = wr := ⟨_, rfl⟩
        go_wp2_with fail
        go_loopg [11] 0 (fun dd kv wr => dd = 0 ∧ kv = .int .i64 0 ∧ Hid (Chg [] w wr))
        case atStart => exact ⟨rfl, rfl, hin2⟩
        case round =>
          obtain ⟨rfl, rfl, hin3⟩ := hrel
          obtain ⟨w3, rfl⟩ : ∃ wk, wk = wr := ⟨_, rfl⟩
          go_wp2_with fail
          go_loopg [14] 0 (fun dd kv wr => dd = 0 ∧ kv = .int .i64 0 ∧ Hid (Chg [] w wr))
          case atStart => exact ⟨rfl, rfl, hin3⟩
          case round =>
            obtain ⟨rfl, rfl, hin4⟩ := hrel
            obtain ⟨w4, rfl⟩ : ∃ wk, wk = wr := ⟨_, rfl⟩
            go_wp2_with fail
            go_ret
            exact ⟨rfl, hin4.out⟩

set_option maxRecDepth 100000 in
set_option maxHeartbeats 2000000 in
theorem flatTwigs_nil (w : World) : Calls Tryz.prog 133 #[.slice none 0 0] w fun e w' => e = .returned (.bool true) ∧ Chg [] w w' := by
  obtain ⟨ob, hmk⟩ := made_none (t := 129) Tryz.underlying129 (by kernel_rfl)
  go_enter Tryz.func133, Tryz.ntmps133
  go_wp2_with fail
  go_loopg [3] 0 (fun dd kv wr => dd = 0 ∧ kv = .int .i64 0 ∧ Hid (Chg [] w wr))
  case atStart => exact ⟨rfl, rfl, Lib.hid (Chg.refl _ _)⟩
  case round =>
    obtain ⟨rfl, rfl, hin0⟩ := hrel
    obtain ⟨w0, rfl⟩ : ∃ wk, wk = wr := ⟨_, rfl⟩
    go_wp2_with fail
    go_loopg [6] 0 (fun dd kv wr => dd = 0 ∧ kv = .int .i64 0 ∧ Hid (Chg [] w wr))
    case atStart => exact ⟨rfl, rfl, Lib.hid (hin0.out.alloc ob)⟩
    case round =>
      obtain ⟨rfl, rfl, hin1⟩ := hrel
      obtain ⟨w1, rfl⟩ : ∃ wk, wk = wr := ⟨_, rfl⟩
      go_wp2_with fail
      go_loopg [9] 0 (fun dd kv wr => dd = 0 ∧ kv = .int .i64 0 ∧ Hid (Chg [] w wr))
      case atStart => exact ⟨rfl, rfl, hin1⟩
      case round =>
        obtain ⟨rfl, rfl, hin2⟩ := hrel
        obtain ⟨w2, rfl⟩ : ∃ wk, wk = wr := ⟨_, rfl⟩
        go_wp2_with fail
        go_loopg [11] 0 (fun dd kv wr => dd = 0 ∧ kv = .int .i64 0 ∧ Hid (Chg [] w wr))
        case atStart => exact ⟨rfl, rfl, hin2⟩
        case round =>
          obtain ⟨rfl, rfl, hin3⟩ := hrel
          obtain ⟨w3, rfl⟩ : ∃ wk, wk = wr := ⟨_, rfl⟩
          go_wp2_with fail
          go_loopg [14] 0 (fun dd kv wr => dd = 0 ∧ kv = .int .i64 0 ∧ Hid (Chg [] w wr))
          case atStart => exact ⟨rfl, rfl, hin3⟩
          case round =>
            obtain ⟨rfl, rfl, hin4⟩ := hrel
            obtain ⟨w4, rfl⟩ : ∃ wk, wk = wr := ⟨_, rfl⟩
            go_wp2_with fail
            go_ret
            exact ⟨rfl, hin4.out⟩

set_option maxRecDepth 100000 in
set_option maxHeartbeats 2000000 in
theorem flatNodes_nil (w : World) : Calls Tryz.prog 134 #[.slice none 0 0] w fun e w' => e = .returned (.bool true) ∧ Chg [] w w' := by
  obtain ⟨ob, hmk⟩ := made_none (t := 41) Tryz.underlying41 (by kernel_rfl)
  go_enter Tryz.func134, Tryz.ntmps134
  go_wp2_with fail
  go_loopg [3] 0 (fun dd kv wr => dd = 0 ∧ kv = .int .i64 0 ∧ Hid (Chg [] w wr))
  case atStart => exact ⟨rfl, rfl, Lib.hid (Chg.refl _ _)⟩
  case round =>
    obtain ⟨rfl, rfl, hin0⟩ := hrel
    obtain ⟨w0, rfl⟩ : ∃ wk, wk = wr := ⟨_, rfl⟩
    go_wp2_with fail
    go_loopg [6] 0 (fun dd kv wr => dd = 0 ∧ kv = .int .i64 0 ∧ Hid (Chg [] w wr))
    case atStart => exact ⟨rfl, rfl, Lib.hid (hin0.out.alloc ob)⟩
    case round =>
      obtain ⟨rfl, rfl, hin1⟩ := hrel
      obtain ⟨w1, rfl⟩ : ∃ wk, wk = wr := ⟨_, rfl⟩
      go_wp2_with fail
      go_loopg [9] 0 (fun dd kv wr => dd = 0 ∧ kv = .int .i64 0 ∧ Hid (Chg [] w wr))
      case atStart => exact ⟨rfl, rfl, hin1⟩
      case round =>
        obtain ⟨rfl, rfl, hin2⟩ := hrel
        obtain ⟨w2, rfl⟩ : ∃ wk, wk = wr := ⟨_, rfl⟩
        go_wp2_with fail
        go_loopg [11] 0 (fun dd kv wr => dd = 0 ∧ kv = .int .i64 0 ∧ Hid (Chg [] w wr))
        case atStart => exact ⟨rfl, rfl, hin2⟩
        case round =>
          obtain ⟨rfl, rfl, hin3⟩ := hrel
          obtain ⟨w3, rfl⟩ : ∃ wk, wk = wr := ⟨_, rfl⟩
          go_wp2_with fail
          go_loopg [14] 0 (fun dd kv wr => dd = 0 ∧ kv = .int .i64 0 ∧ Hid (Chg [] w wr))
          case atStart => exact ⟨rfl, rfl, hin3⟩
          case round =>
            obtain ⟨rfl, rfl, hin4⟩ := hrel
            obtain ⟨w4, rfl⟩ : ∃ wk, wk = wr := ⟨_, rfl⟩
            go_wp2_with fail
            go_ret
            exact ⟨rfl, hin4.out⟩

set_option maxRecDepth 100000 in
set_option maxHeartbeats 2000000 in
theorem flatRules_nil (w : World) : Calls Tryz.prog 135 #[.slice none 0 0] w fun e w' => e = .returned (.bool true) ∧ Chg [] w w' := by
  obtain ⟨ob, hmk⟩ := made_none (t := 130) Tryz.underlying130 (by kernel_rfl)
  go_enter Tryz.func135, Tryz.ntmps135
  go_wp2_with fail
  go_loopg [3] 0 (fun dd kv wr => dd = 0 ∧ kv = .int .i64 0 ∧ Hid (Chg [] w wr))
  case atStart => exact ⟨rfl, rfl, Lib.hid (Chg.refl _ _)⟩
  case round =>
    obtain ⟨rfl, rfl, hin0⟩ := hrel
    obtain ⟨w0, rfl⟩ : ∃ wk, wk = wr := ⟨_, rfl⟩
    go_wp2_with fail
    go_loopg [6] 0 (fun dd kv wr => dd = 0 ∧ kv = .int .i64 0 ∧ Hid (Chg [] w wr))
    case atStart => exact ⟨rfl, rfl, Lib.hid (hin0.out.alloc ob)⟩
    case round =>
      obtain ⟨rfl, rfl, hin1⟩ := hrel
      obtain ⟨w1, rfl⟩ : ∃ wk, wk = wr := ⟨_, rfl⟩
      go_wp2_with fail
      go_loopg [9] 0 (fun dd kv wr => dd = 0 ∧ kv = .int .i64 0 ∧ Hid (Chg [] w wr))
      case atStart => exact ⟨rfl, rfl, hin1⟩
      case round =>
        obtain ⟨rfl, rfl, hin2⟩ := hrel
        obtain ⟨w2, rfl⟩ : ∃ wk, wk = wr := ⟨_, rfl⟩
        go_wp2_with fail
        go_loopg [11] 0 (fun dd kv wr => dd = 0 ∧ kv = .int .i64 0 ∧ Hid (Chg [] w wr))
        case atStart => exact ⟨rfl, rfl, hin2⟩
        case round =>
          obtain ⟨rfl, rfl, hin3⟩ := hrel
          obtain ⟨w3, rfl⟩ : ∃ wk, wk = wr := ⟨_, rfl⟩
          go_wp2_with fail
          go_loopg [14] 0 (fun dd kv wr => dd = 0 ∧ kv = .int .i64 0 ∧ Hid (Chg [] w wr))
          case atStart => exact ⟨rfl, rfl, hin3⟩
          case round =>
            obtain ⟨rfl, rfl, hin4⟩ := hrel
            obtain ⟨w4, rfl⟩ : ∃ wk, wk = wr := ⟨_, rfl⟩
            go_wp2_with fail
            go_ret
            exact ⟨rfl, hin4.out⟩

set_option maxRecDepth 100000 in
set_option maxHeartbeats 2000000 in
theorem flatSpans_nil (w : World) : Calls Tryz.prog 136 #[.slice none 0 0] w fun e w' => e = .returned (.bool true) ∧ Chg [] w w' := by
  obtain ⟨ob, hmk⟩ := made_none (t := 131) Tryz.underlying131 (by kernel_rfl)
  go_enter Tryz.func136, Tryz.ntmps136
  go_wp2_with fail
  go_loopg [3] 0 (fun dd kv wr => dd = 0 ∧ kv = .int .i64 0 ∧ Hid (Chg [] w wr))
  case atStart => exact ⟨rfl, rfl, Lib.hid (Chg.refl _ _)⟩
  case round =>
    obtain ⟨rfl, rfl, hin0⟩ := hrel
    obtain ⟨w0, rfl⟩ : ∃ wk, wk = wr := ⟨_, rfl⟩
    go_wp2_with fail
    go_loopg [6] 0 (fun dd kv wr => dd = 0 ∧ kv = .int .i64 0 ∧ Hid (Chg [] w wr))
    case atStart => exact ⟨rfl, rfl, Lib.hid (hin0.out.alloc ob)⟩
    case round =>
      obtain ⟨rfl, rfl, hin1⟩ := hrel
      obtain ⟨w1, rfl⟩ : ∃ wk, wk = wr := ⟨_, rfl⟩
      go_wp2_with fail
      go_loopg [9] 0 (fun dd kv wr => dd = 0 ∧ kv = .int .i64 0 ∧ Hid (Chg [] w wr))
      case atStart => exact ⟨rfl, rfl, hin1⟩
      case round =>
        obtain ⟨rfl, rfl, hin2⟩ := hrel
        obtain ⟨w2, rfl⟩ : ∃ wk, wk = wr := ⟨_, rfl⟩
        go_wp2_with fail
        go_loopg [11] 0 (fun dd kv wr => dd = 0 ∧ kv = .int .i64 0 ∧ Hid (Chg [] w wr))
        case atStart => exact ⟨rfl, rfl, hin2⟩
        case round =>
          obtain ⟨rfl, rfl, hin3⟩ := hrel
          obtain ⟨w3, rfl⟩ : ∃ wk, wk = wr := ⟨_, rfl⟩
          go_wp2_with fail
          go_loopg [14] 0 (fun dd kv wr => dd = 0 ∧ kv = .int .i64 0 ∧ Hid (Chg [] w wr))
          case atStart => exact ⟨rfl, rfl, hin3⟩
          case round =>
            obtain ⟨rfl, rfl, hin4⟩ := hrel
            obtain ⟨w4, rfl⟩ : ∃ wk, wk = wr := ⟨_, rfl⟩
            go_wp2_with fail
            go_ret
            exact ⟨rfl, hin4.out⟩

set_option maxRecDepth 100000 in
set_option maxHeartbeats 2000000 in
theorem flatGrammars_nil (w : World) : Calls Tryz.prog 137 #[.slice none 0 0] w fun e w' => e = .returned (.bool true) ∧ Chg [] w w' := by
  obtain ⟨ob, hmk⟩ := made_none (t := 132) Tryz.underlying132 (by kernel_rfl)
  go_enter Tryz.func137, Tryz.ntmps137
  go_wp2_with fail
  go_loopg [3] 0 (fun dd kv wr => dd = 0 ∧ kv = .int .i64 0 ∧ Hid (Chg [] w wr))
  case atStart => exact ⟨rfl, rfl, Lib.hid (Chg.refl _ _)⟩
  case round =>
    obtain ⟨rfl, rfl, hin0⟩ := hrel
    obtain ⟨w0, rfl⟩ : ∃ wk, wk = wr := ⟨_, rfl⟩
    go_wp2_with fail
    go_loopg [6] 0 (fun dd kv wr => dd = 0 ∧ kv = .int .i64 0 ∧ Hid (Chg [] w wr))
    case atStart => exact ⟨rfl, rfl, Lib.hid (hin0.out.alloc ob)⟩
    case round =>
      obtain ⟨rfl, rfl, hin1⟩ := hrel
      obtain ⟨w1, rfl⟩ : ∃ wk, wk = wr := ⟨_, rfl⟩
      go_wp2_with fail
      go_loopg [9] 0 (fun dd kv wr => dd = 0 ∧ kv = .int .i64 0 ∧ Hid (Chg [] w wr))
      case atStart => exact ⟨rfl, rfl, hin1⟩
      case round =>
        obtain ⟨rfl, rfl, hin2⟩ := hrel
        obtain ⟨w2, rfl⟩ : ∃ wk, wk = wr := ⟨_, rfl⟩
        go_wp2_with fail
        go_loopg [11] 0 (fun dd kv wr => dd = 0 ∧ kv = .int .i64 0 ∧ Hid (Chg [] w wr))
        case atStart => exact ⟨rfl, rfl, hin2⟩
        case round =>
          obtain ⟨rfl, rfl, hin3⟩ := hrel
          obtain ⟨w3, rfl⟩ : ∃ wk, wk = wr := ⟨_, rfl⟩
          go_wp2_with fail
          go_loopg [14] 0 (fun dd kv wr => dd = 0 ∧ kv = .int .i64 0 ∧ Hid (Chg [] w wr))
          case atStart => exact ⟨rfl, rfl, hin3⟩
          case round =>
            obtain ⟨rfl, rfl, hin4⟩ := hrel
            obtain ⟨w4, rfl⟩ : ∃ wk, wk = wr := ⟨_, rfl⟩
            go_wp2_with fail
            go_ret
            exact ⟨rfl, hin4.out⟩

set_option maxRecDepth 100000 in
set_option maxHeartbeats 2000000 in
theorem flatFounds_nil (w : World) : Calls Tryz.prog 138 #[.slice none 0 0] w fun e w' => e = .returned (.bool true) ∧ Chg [] w w' := by
  obtain ⟨ob, hmk⟩ := made_none (t := 133) Tryz.underlying133 (by kernel_rfl)
  go_enter Tryz.func138, Tryz.ntmps138
  go_wp2_with fail
  go_loopg [3] 0 (fun dd kv wr => dd = 0 ∧ kv = .int .i64 0 ∧ Hid (Chg [] w wr))
  case atStart => exact ⟨rfl, rfl, Lib.hid (Chg.refl _ _)⟩
  case round =>
    obtain ⟨rfl, rfl, hin0⟩ := hrel
    obtain ⟨w0, rfl⟩ : ∃ wk, wk = wr := ⟨_, rfl⟩
    go_wp2_with fail
    go_loopg [6] 0 (fun dd kv wr => dd = 0 ∧ kv = .int .i64 0 ∧ Hid (Chg [] w wr))
    case atStart => exact ⟨rfl, rfl, Lib.hid (hin0.out.alloc ob)⟩
    case round =>
      obtain ⟨rfl, rfl, hin1⟩ := hrel
      obtain ⟨w1, rfl⟩ : ∃ wk, wk = wr := ⟨_, rfl⟩
      go_wp2_with fail
      go_loopg [9] 0 (fun dd kv wr => dd = 0 ∧ kv = .int .i64 0 ∧ Hid (Chg [] w wr))
      case atStart => exact ⟨rfl, rfl, hin1⟩
      case round =>
        obtain ⟨rfl, rfl, hin2⟩ := hrel
        obtain ⟨w2, rfl⟩ : ∃ wk, wk = wr := ⟨_, rfl⟩
        go_wp2_with fail
        go_loopg [11] 0 (fun dd kv wr => dd = 0 ∧ kv = .int .i64 0 ∧ Hid (Chg [] w wr))
        case atStart => exact ⟨rfl, rfl, hin2⟩
        case round =>
          obtain ⟨rfl, rfl, hin3⟩ := hrel
          obtain ⟨w3, rfl⟩ : ∃ wk, wk = wr := ⟨_, rfl⟩
          go_wp2_with fail
          go_loopg [14] 0 (fun dd kv wr => dd = 0 ∧ kv = .int .i64 0 ∧ Hid (Chg [] w wr))
          case atStart => exact ⟨rfl, rfl, hin3⟩
          case round =>
            obtain ⟨rfl, rfl, hin4⟩ := hrel
            obtain ⟨w4, rfl⟩ : ∃ wk, wk = wr := ⟨_, rfl⟩
            go_wp2_with fail
            go_ret
            exact ⟨rfl, hin4.out⟩

set_option maxRecDepth 100000 in
set_option maxHeartbeats 2000000 in
theorem flatEvents_nil (w : World) : Calls Tryz.prog 139 #[.slice none 0 0] w fun e w' => e = .returned (.bool true) ∧ Chg [] w w' := by
  obtain ⟨ob, hmk⟩ := made_none (t := 134) Tryz.underlying134 (by kernel_rfl)
  go_enter Tryz.func139, Tryz.ntmps139
  go_wp2_with fail
  go_loopg [3] 0 (fun dd kv wr => dd = 0 ∧ kv = .int .i64 0 ∧ Hid (Chg [] w wr))
  case atStart => exact ⟨rfl, rfl, Lib.hid (Chg.refl _ _)⟩
  case round =>
    obtain ⟨rfl, rfl, hin0⟩ := hrel
    obtain ⟨w0, rfl⟩ : ∃ wk, wk = wr := ⟨_, rfl⟩
    go_wp2_with fail
    go_loopg [6] 0 (fun dd kv wr => dd = 0 ∧ kv = .int .i64 0 ∧ Hid (Chg [] w wr))
    case atStart => exact ⟨rfl, rfl, Lib.hid (hin0.out.alloc ob)⟩
    case round =>
      obtain ⟨rfl, rfl, hin1⟩ := hrel
      obtain ⟨w1, rfl⟩ : ∃ wk, wk = wr := ⟨_, rfl⟩
      go_wp2_with fail
      go_loopg [9] 0 (fun dd kv wr => dd = 0 ∧ kv = .int .i64 0 ∧ Hid (Chg [] w wr))
      case atStart => exact ⟨rfl, rfl, hin1⟩
      case round =>
        obtain ⟨rfl, rfl, hin2⟩ := hrel
        obtain ⟨w2, rfl⟩ : ∃ wk, wk = wr := ⟨_, rfl⟩
        go_wp2_with fail
        go_loopg [11] 0 (fun dd kv wr => dd = 0 ∧ kv = .int .i64 0 ∧ Hid (Chg [] w wr))
        case atStart => exact ⟨rfl, rfl, hin2⟩
        case round =>
          obtain ⟨rfl, rfl, hin3⟩ := hrel
          obtain ⟨w3, rfl⟩ : ∃ wk, wk = wr := ⟨_, rfl⟩
          go_wp2_with fail
          go_loopg [14] 0 (fun dd kv wr => dd = 0 ∧ kv = .int .i64 0 ∧ Hid (Chg [] w wr))
          case atStart => exact ⟨rfl, rfl, hin3⟩
          case round =>
            obtain ⟨rfl, rfl, hin4⟩ := hrel
            obtain ⟨w4, rfl⟩ : ∃ wk, wk = wr := ⟨_, rfl⟩
            go_wp2_with fail
            go_ret
            exact ⟨rfl, hin4.out⟩

end Go.Proofs.YtlklmpjakeedcaaGreatDoor

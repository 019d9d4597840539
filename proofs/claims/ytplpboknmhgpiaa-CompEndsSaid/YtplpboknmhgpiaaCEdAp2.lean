/-
  Of no rows of a kind it is said that they lie apart.
  Conditions: none.
-/
import Derived.Test.YtplpboknmhgpiaaCEdCpCy
import Derived.Test.YtplpboknmhgpiaaCEdGTail
set_option linter.unusedVariables false
set_option linter.unusedSimpArgs false
set_option linter.unnecessarySimpa false
namespace Go.Proofs.Ytplpboknmhgpiaa
open Go.RowKit Go.MapKept Go.Shelf

theorem made_none {t e : TypeId} (ht : Try.prog.underlying t = some (.slice e)) (h : ((Try.prog.info? e).bind fun i => i.zero).isSome = true) : ∃ ob, ∀ W : World, (Instr.makeSlice t (.int .i64 0) (.int .i64 0)).run Try.prog W = .ok (.slice (some ⟨W.heap.size, 0, none⟩) 0 0) (W.alloc ob) := by
  obtain ⟨z, hz⟩ := Option.isSome_iff_exists.1 h
  obtain ⟨i, hi, hz⟩ := Option.bind_eq_some_iff.1 hz
  refine ⟨.cells (madeCells z.cells ((0 : Int).toNat * i.size)) e, fun W => ?_⟩
  have hr := run_make (P := Try.prog) W t e i z ht hi hz .i64 .i64 0 0 (Int.le_refl _) (Int.le_refl _) (by simp) (by decide)
  exact hr

set_option maxRecDepth 100000 in
set_option maxHeartbeats 2000000 in
theorem flatLimbs_nil (w : World) : Calls Try.prog 63 #[.slice none 0 0] w fun e w' => e = .returned (.bool true) ∧ Chg [] w w' := by
  obtain ⟨ob, hmk⟩ := made_none (t := 68) Try.underlying68 (by kernel_rfl)
  go_enter Try.func63, Try.ntmps63
  go_wp2_with fail
  go_loopg [3] 0 (fun dd kv wr => dd = 0 ∧ kv = .int .i64 0 ∧ Hid (Chg [] w wr))
  case atStart => exact ⟨rfl, rfl, Lib.hid (Chg.refl _ _)⟩
  case round =>
    obtain ⟨rfl, rfl, hin0⟩ := hrel
    obtain ⟨w0, rfl⟩ : ∃ wk, wk = wr := ⟨_, rfl⟩
    go_wp2_with fail
    go_loopg [6] 0 (fun dd kv wr => dd = 0 ∧ kv = .int .i64 0 ∧ Hid (Chg [] w wr))
    case atStart => exact ⟨rfl, rfl, Lib.hid (hin0.out.alloc ob)⟩
    case round =>
      obtain ⟨rfl, rfl, hin1⟩ := hrel
      obtain ⟨w1, rfl⟩ : ∃ wk, wk = wr := ⟨_, rfl⟩
      go_wp2_with fail
      go_loopg [9] 0 (fun dd kv wr => dd = 0 ∧ kv = .int .i64 0 ∧ Hid (Chg [] w wr))
      case atStart => exact ⟨rfl, rfl, hin1⟩
      case round =>
        obtain ⟨rfl, rfl, hin2⟩ := hrel
        obtain ⟨w2, rfl⟩ : ∃ wk, wk = wr := ⟨_, rfl⟩
        go_wp2_with fail
        go_loopg [11] 0 (fun dd kv wr => dd = 0 ∧ kv = .int .i64 0 ∧ Hid (Chg [] w wr))
        case atStart => exact ⟨rfl, rfl, hin2⟩
        case round =>
          obtain ⟨rfl, rfl, hin3⟩ := hrel
          obtain ⟨w3, rfl⟩ : ∃ wk, wk = wr := ⟨_, rfl⟩
          go_wp2_with fail
          go_loopg [14] 0 (fun dd kv wr => dd = 0 ∧ kv = .int .i64 0 ∧ Hid (Chg [] w wr))
          case atStart => exact ⟨rfl, rfl, hin3⟩
          case round =>
            obtain ⟨rfl, rfl, hin4⟩ := hrel
            obtain ⟨w4, rfl⟩ : ∃ wk, wk = wr := ⟨_, rfl⟩
            go_wp2_with fail
            go_ret
            exact ⟨rfl, hin4.out⟩

set_option maxRecDepth 100000 in
set_option maxHeartbeats 2000000 in
theorem flatWords_nil (w : World) : Calls Try.prog 64 #[.slice none 0 0] w fun e w' => e = .returned (.bool true) ∧ Chg [] w w' := by
  obtain ⟨ob, hmk⟩ := made_none (t := 69) Try.underlying69 (by kernel_rfl)
  go_enter Try.func64, Try.ntmps64
  go_wp2_with fail
  go_loopg [3] 0 (fun dd kv wr => dd = 0 ∧ kv = .int .i64 0 ∧ Hid (Chg [] w wr))
  case atStart => exact ⟨rfl, rfl, Lib.hid (Chg.refl _ _)⟩
  case round =>
    obtain ⟨rfl, rfl, hin0⟩ := hrel
    obtain ⟨w0, rfl⟩ : ∃ wk, wk = wr := ⟨_, rfl⟩
    go_wp2_with fail
    go_loopg [6] 0 (fun dd kv wr => dd = 0 ∧ kv = .int .i64 0 ∧ Hid (Chg [] w wr))
    case atStart => exact ⟨rfl, rfl, Lib.hid (hin0.out.alloc ob)⟩
    case round =>
      obtain ⟨rfl, rfl, hin1⟩ := hrel
      obtain ⟨w1, rfl⟩ : ∃ wk, wk = wr := ⟨_, rfl⟩
      go_wp2_with fail
      go_loopg [9] 0 (fun dd kv wr => dd = 0 ∧ kv = .int .i64 0 ∧ Hid (Chg [] w wr))
      case atStart => exact ⟨rfl, rfl, hin1⟩
      case round =>
        obtain ⟨rfl, rfl, hin2⟩ := hrel
        obtain ⟨w2, rfl⟩ : ∃ wk, wk = wr := ⟨_, rfl⟩
        go_wp2_with fail
        go_loopg [11] 0 (fun dd kv wr => dd = 0 ∧ kv = .int .i64 0 ∧ Hid (Chg [] w wr))
        case atStart => exact ⟨rfl, rfl, hin2⟩
        case round =>
          obtain ⟨rfl, rfl, hin3⟩ := hrel
          obtain ⟨w3, rfl⟩ : ∃ wk, wk = wr := ⟨_, rfl⟩
          go_wp2_with fail
          go_loopg [14] 0 (fun dd kv wr => dd = 0 ∧ kv = .int .i64 0 ∧ Hid (Chg [] w wr))
          case atStart => exact ⟨rfl, rfl, hin3⟩
          case round =>
            obtain ⟨rfl, rfl, hin4⟩ := hrel
            obtain ⟨w4, rfl⟩ : ∃ wk, wk = wr := ⟨_, rfl⟩
            go_wp2_with fail
            go_ret
            exact ⟨rfl, hin4.out⟩

set_option maxRecDepth 100000 in
set_option maxHeartbeats 2000000 in
theorem flatLongs_nil (w : World) : Calls Try.prog 66 #[.slice none 0 0] w fun e w' => e = .returned (.bool true) ∧ Chg [] w w' := by
  obtain ⟨ob, hmk⟩ := made_none (t := 70) Try.underlying70 (by kernel_rfl)
  go_enter Try.func66, Try.ntmps66
  go_wp2_with fail
  go_loopg [3] 0 (fun dd kv wr => dd = 0 ∧ kv = .int .i64 0 ∧ Hid (Chg [] w wr))
  case atStart => exact ⟨rfl, rfl, Lib.hid (Chg.refl _ _)⟩
  case round =>
    obtain ⟨rfl, rfl, hin0⟩ := hrel
    obtain ⟨w0, rfl⟩ : ∃ wk, wk = wr := ⟨_, rfl⟩
    go_wp2_with fail
    go_loopg [6] 0 (fun dd kv wr => dd = 0 ∧ kv = .int .i64 0 ∧ Hid (Chg [] w wr))
    case atStart => exact ⟨rfl, rfl, Lib.hid (hin0.out.alloc ob)⟩
    case round =>
      obtain ⟨rfl, rfl, hin1⟩ := hrel
      obtain ⟨w1, rfl⟩ : ∃ wk, wk = wr := ⟨_, rfl⟩
      go_wp2_with fail
      go_loopg [9] 0 (fun dd kv wr => dd = 0 ∧ kv = .int .i64 0 ∧ Hid (Chg [] w wr))
      case atStart => exact ⟨rfl, rfl, hin1⟩
      case round =>
        obtain ⟨rfl, rfl, hin2⟩ := hrel
        obtain ⟨w2, rfl⟩ : ∃ wk, wk = wr := ⟨_, rfl⟩
        go_wp2_with fail
        go_loopg [11] 0 (fun dd kv wr => dd = 0 ∧ kv = .int .i64 0 ∧ Hid (Chg [] w wr))
        case atStart => exact ⟨rfl, rfl, hin2⟩
        case round =>
          obtain ⟨rfl, rfl, hin3⟩ := hrel
          obtain ⟨w3, rfl⟩ : ∃ wk, wk = wr := ⟨_, rfl⟩
          go_wp2_with fail
          go_loopg [14] 0 (fun dd kv wr => dd = 0 ∧ kv = .int .i64 0 ∧ Hid (Chg [] w wr))
          case atStart => exact ⟨rfl, rfl, hin3⟩
          case round =>
            obtain ⟨rfl, rfl, hin4⟩ := hrel
            obtain ⟨w4, rfl⟩ : ∃ wk, wk = wr := ⟨_, rfl⟩
            go_wp2_with fail
            go_ret
            exact ⟨rfl, hin4.out⟩

set_option maxRecDepth 100000 in
set_option maxHeartbeats 2000000 in
theorem flatTexts_nil (w : World) : Calls Try.prog 67 #[.slice none 0 0] w fun e w' => e = .returned (.bool true) ∧ Chg [] w w' := by
  obtain ⟨ob, hmk⟩ := made_none (t := 71) Try.underlying71 (by kernel_rfl)
  go_enter Try.func67, Try.ntmps67
  go_wp2_with fail
  go_loopg [3] 0 (fun dd kv wr => dd = 0 ∧ kv = .int .i64 0 ∧ Hid (Chg [] w wr))
  case atStart => exact ⟨rfl, rfl, Lib.hid (Chg.refl _ _)⟩
  case round =>
    obtain ⟨rfl, rfl, hin0⟩ := hrel
    obtain ⟨w0, rfl⟩ : ∃ wk, wk = wr := ⟨_, rfl⟩
    go_wp2_with fail
    go_loopg [6] 0 (fun dd kv wr => dd = 0 ∧ kv = .int .i64 0 ∧ Hid (Chg [] w wr))
    case atStart => exact ⟨rfl, rfl, Lib.hid (hin0.out.alloc ob)⟩
    case round =>
      obtain ⟨rfl, rfl, hin1⟩ := hrel
      obtain ⟨w1, rfl⟩ : ∃ wk, wk = wr := ⟨_, rfl⟩
      go_wp2_with fail
      go_loopg [9] 0 (fun dd kv wr => dd = 0 ∧ kv = .int .i64 0 ∧ Hid (Chg [] w wr))
      case atStart => exact ⟨rfl, rfl, hin1⟩
      case round =>
        obtain ⟨rfl, rfl, hin2⟩ := hrel
        obtain ⟨w2, rfl⟩ : ∃ wk, wk = wr := ⟨_, rfl⟩
        go_wp2_with fail
        go_loopg [11] 0 (fun dd kv wr => dd = 0 ∧ kv = .int .i64 0 ∧ Hid (Chg [] w wr))
        case atStart => exact ⟨rfl, rfl, hin2⟩
        case round =>
          obtain ⟨rfl, rfl, hin3⟩ := hrel
          obtain ⟨w3, rfl⟩ : ∃ wk, wk = wr := ⟨_, rfl⟩
          go_wp2_with fail
          go_loopg [14] 0 (fun dd kv wr => dd = 0 ∧ kv = .int .i64 0 ∧ Hid (Chg [] w wr))
          case atStart => exact ⟨rfl, rfl, hin3⟩
          case round =>
            obtain ⟨rfl, rfl, hin4⟩ := hrel
            obtain ⟨w4, rfl⟩ : ∃ wk, wk = wr := ⟨_, rfl⟩
            go_wp2_with fail
            go_ret
            exact ⟨rfl, hin4.out⟩

set_option maxRecDepth 100000 in
set_option maxHeartbeats 2000000 in
theorem flatBytes_nil (w : World) : Calls Try.prog 68 #[.slice none 0 0] w fun e w' => e = .returned (.bool true) ∧ Chg [] w w' := by
  obtain ⟨ob, hmk⟩ := made_none (t := 72) Try.underlying72 (by kernel_rfl)
  go_enter Try.func68, Try.ntmps68
  go_wp2_with fail
  go_loopg [3] 0 (fun dd kv wr => dd = 0 ∧ kv = .int .i64 0 ∧ Hid (Chg [] w wr))
  case atStart => exact ⟨rfl, rfl, Lib.hid (Chg.refl _ _)⟩
  case round =>
    obtain ⟨rfl, rfl, hin0⟩ := hrel
    obtain ⟨w0, rfl⟩ : ∃ wk, wk = wr := ⟨_, rfl⟩
    go_wp2_with fail
    go_loopg [6] 0 (fun dd kv wr => dd = 0 ∧ kv = .int .i64 0 ∧ Hid (Chg [] w wr))
    case atStart => exact ⟨rfl, rfl, Lib.hid (hin0.out.alloc ob)⟩
    case round =>
      obtain ⟨rfl, rfl, hin1⟩ := hrel
      obtain ⟨w1, rfl⟩ : ∃ wk, wk = wr := ⟨_, rfl⟩
      go_wp2_with fail
      go_loopg [9] 0 (fun dd kv wr => dd = 0 ∧ kv = .int .i64 0 ∧ Hid (Chg [] w wr))
      case atStart => exact ⟨rfl, rfl, hin1⟩
      case round =>
        obtain ⟨rfl, rfl, hin2⟩ := hrel
        obtain ⟨w2, rfl⟩ : ∃ wk, wk = wr := ⟨_, rfl⟩
        go_wp2_with fail
        go_loopg [11] 0 (fun dd kv wr => dd = 0 ∧ kv = .int .i64 0 ∧ Hid (Chg [] w wr))
        case atStart => exact ⟨rfl, rfl, hin2⟩
        case round =>
          obtain ⟨rfl, rfl, hin3⟩ := hrel
          obtain ⟨w3, rfl⟩ : ∃ wk, wk = wr := ⟨_, rfl⟩
          go_wp2_with fail
          go_loopg [14] 0 (fun dd kv wr => dd = 0 ∧ kv = .int .i64 0 ∧ Hid (Chg [] w wr))
          case atStart => exact ⟨rfl, rfl, hin3⟩
          case round =>
            obtain ⟨rfl, rfl, hin4⟩ := hrel
            obtain ⟨w4, rfl⟩ : ∃ wk, wk = wr := ⟨_, rfl⟩
            go_wp2_with fail
            go_ret
            exact ⟨rfl, hin4.out⟩

set_option maxRecDepth 100000 in
set_option maxHeartbeats 2000000 in
theorem flatTruths_nil (w : World) : Calls Try.prog 69 #[.slice none 0 0] w fun e w' => e = .returned (.bool true) ∧ Chg [] w w' := by
  obtain ⟨ob, hmk⟩ := made_none (t := 58) Try.underlying58 (by kernel_rfl)
  go_enter Try.func69, Try.ntmps69
  go_wp2_with fail
  go_loopg [3] 0 (fun dd kv wr => dd = 0 ∧ kv = .int .i64 0 ∧ Hid (Chg [] w wr))
  case atStart => exact ⟨rfl, rfl, Lib.hid (Chg.refl _ _)⟩
  case round =>
    obtain ⟨rfl, rfl, hin0⟩ := hrel
    obtain ⟨w0, rfl⟩ : ∃ wk, wk = wr := ⟨_, rfl⟩
    go_wp2_with fail
    go_loopg [6] 0 (fun dd kv wr => dd = 0 ∧ kv = .int .i64 0 ∧ Hid (Chg [] w wr))
    case atStart => exact ⟨rfl, rfl, Lib.hid (hin0.out.alloc ob)⟩
    case round =>
      obtain ⟨rfl, rfl, hin1⟩ := hrel
      obtain ⟨w1, rfl⟩ : ∃ wk, wk = wr := ⟨_, rfl⟩
      go_wp2_with fail
      go_loopg [9] 0 (fun dd kv wr => dd = 0 ∧ kv = .int .i64 0 ∧ Hid (Chg [] w wr))
      case atStart => exact ⟨rfl, rfl, hin1⟩
      case round =>
        obtain ⟨rfl, rfl, hin2⟩ := hrel
        obtain ⟨w2, rfl⟩ : ∃ wk, wk = wr := ⟨_, rfl⟩
        go_wp2_with fail
        go_loopg [11] 0 (fun dd kv wr => dd = 0 ∧ kv = .int .i64 0 ∧ Hid (Chg [] w wr))
        case atStart => exact ⟨rfl, rfl, hin2⟩
        case round =>
          obtain ⟨rfl, rfl, hin3⟩ := hrel
          obtain ⟨w3, rfl⟩ : ∃ wk, wk = wr := ⟨_, rfl⟩
          go_wp2_with fail
          go_loopg [14] 0 (fun dd kv wr => dd = 0 ∧ kv = .int .i64 0 ∧ Hid (Chg [] w wr))
          case atStart => exact ⟨rfl, rfl, hin3⟩
          case round =>
            obtain ⟨rfl, rfl, hin4⟩ := hrel
            obtain ⟨w4, rfl⟩ : ∃ wk, wk = wr := ⟨_, rfl⟩
            go_wp2_with fail
            go_ret
            exact ⟨rfl, hin4.out⟩

set_option maxRecDepth 100000 in
set_option maxHeartbeats 2000000 in
theorem flatTwigs_nil (w : World) : Calls Try.prog 70 #[.slice none 0 0] w fun e w' => e = .returned (.bool true) ∧ Chg [] w w' := by
  obtain ⟨ob, hmk⟩ := made_none (t := 73) Try.underlying73 (by kernel_rfl)
  go_enter Try.func70, Try.ntmps70
  go_wp2_with fail
  go_loopg [3] 0 (fun dd kv wr => dd = 0 ∧ kv = .int .i64 0 ∧ Hid (Chg [] w wr))
  case atStart => exact ⟨rfl, rfl, Lib.hid (Chg.refl _ _)⟩
  case round =>
    obtain ⟨rfl, rfl, hin0⟩ := hrel
    obtain ⟨w0, rfl⟩ : ∃ wk, wk = wr := ⟨_, rfl⟩
    go_wp2_with fail
    go_loopg [6] 0 (fun dd kv wr => dd = 0 ∧ kv = .int .i64 0 ∧ Hid (Chg [] w wr))
    case atStart => exact ⟨rfl, rfl, Lib.hid (hin0.out.alloc ob)⟩
    case round =>
      obtain ⟨rfl, rfl, hin1⟩ := hrel
      obtain ⟨w1, rfl⟩ : ∃ wk, wk = wr := ⟨_, rfl⟩
      go_wp2_with fail
      go_loopg [9] 0 (fun dd kv wr => dd = 0 ∧ kv = .int .i64 0 ∧ Hid (Chg [] w wr))
      case atStart => exact ⟨rfl, rfl, hin1⟩
      case round =>
        obtain ⟨rfl, rfl, hin2⟩ := hrel
        obtain ⟨w2, rfl⟩ : ∃ wk, wk = wr := ⟨_, rfl⟩
        go_wp2_with fail
        go_loopg [11] 0 (fun dd kv wr => dd = 0 ∧ kv = .int .i64 0 ∧ Hid (Chg [] w wr))
        case atStart => exact ⟨rfl, rfl, hin2⟩
        case round =>
          obtain ⟨rfl, rfl, hin3⟩ := hrel
          obtain ⟨w3, rfl⟩ : ∃ wk, wk = wr := ⟨_, rfl⟩
          go_wp2_with fail
          go_loopg [14] 0 (fun dd kv wr => dd = 0 ∧ kv = .int .i64 0 ∧ Hid (Chg [] w wr))
          case atStart => exact ⟨rfl, rfl, hin3⟩
          case round =>
            obtain ⟨rfl, rfl, hin4⟩ := hrel
            obtain ⟨w4, rfl⟩ : ∃ wk, wk = wr := ⟨_, rfl⟩
            go_wp2_with fail
            go_ret
            exact ⟨rfl, hin4.out⟩

set_option maxRecDepth 100000 in
set_option maxHeartbeats 2000000 in
theorem flatNodes_nil (w : World) : Calls Try.prog 71 #[.slice none 0 0] w fun e w' => e = .returned (.bool true) ∧ Chg [] w w' := by
  obtain ⟨ob, hmk⟩ := made_none (t := 74) Try.underlying74 (by kernel_rfl)
  go_enter Try.func71, Try.ntmps71
  go_wp2_with fail
  go_loopg [3] 0 (fun dd kv wr => dd = 0 ∧ kv = .int .i64 0 ∧ Hid (Chg [] w wr))
  case atStart => exact ⟨rfl, rfl, Lib.hid (Chg.refl _ _)⟩
  case round =>
    obtain ⟨rfl, rfl, hin0⟩ := hrel
    obtain ⟨w0, rfl⟩ : ∃ wk, wk = wr := ⟨_, rfl⟩
    go_wp2_with fail
    go_loopg [6] 0 (fun dd kv wr => dd = 0 ∧ kv = .int .i64 0 ∧ Hid (Chg [] w wr))
    case atStart => exact ⟨rfl, rfl, Lib.hid (hin0.out.alloc ob)⟩
    case round =>
      obtain ⟨rfl, rfl, hin1⟩ := hrel
      obtain ⟨w1, rfl⟩ : ∃ wk, wk = wr := ⟨_, rfl⟩
      go_wp2_with fail
      go_loopg [9] 0 (fun dd kv wr => dd = 0 ∧ kv = .int .i64 0 ∧ Hid (Chg [] w wr))
      case atStart => exact ⟨rfl, rfl, hin1⟩
      case round =>
        obtain ⟨rfl, rfl, hin2⟩ := hrel
        obtain ⟨w2, rfl⟩ : ∃ wk, wk = wr := ⟨_, rfl⟩
        go_wp2_with fail
        go_loopg [11] 0 (fun dd kv wr => dd = 0 ∧ kv = .int .i64 0 ∧ Hid (Chg [] w wr))
        case atStart => exact ⟨rfl, rfl, hin2⟩
        case round =>
          obtain ⟨rfl, rfl, hin3⟩ := hrel
          obtain ⟨w3, rfl⟩ : ∃ wk, wk = wr := ⟨_, rfl⟩
          go_wp2_with fail
          go_loopg [14] 0 (fun dd kv wr => dd = 0 ∧ kv = .int .i64 0 ∧ Hid (Chg [] w wr))
          case atStart => exact ⟨rfl, rfl, hin3⟩
          case round =>
            obtain ⟨rfl, rfl, hin4⟩ := hrel
            obtain ⟨w4, rfl⟩ : ∃ wk, wk = wr := ⟨_, rfl⟩
            go_wp2_with fail
            go_ret
            exact ⟨rfl, hin4.out⟩

set_option maxRecDepth 100000 in
set_option maxHeartbeats 2000000 in
theorem flatRules_nil (w : World) : Calls Try.prog 72 #[.slice none 0 0] w fun e w' => e = .returned (.bool true) ∧ Chg [] w w' := by
  obtain ⟨ob, hmk⟩ := made_none (t := 75) Try.underlying75 (by kernel_rfl)
  go_enter Try.func72, Try.ntmps72
  go_wp2_with fail
  go_loopg [3] 0 (fun dd kv wr => dd = 0 ∧ kv = .int .i64 0 ∧ Hid (Chg [] w wr))
  case atStart => exact ⟨rfl, rfl, Lib.hid (Chg.refl _ _)⟩
  case round =>
    obtain ⟨rfl, rfl, hin0⟩ := hrel
    obtain ⟨w0, rfl⟩ : ∃ wk, wk = wr := ⟨_, rfl⟩
    go_wp2_with fail
    go_loopg [6] 0 (fun dd kv wr => dd = 0 ∧ kv = .int .i64 0 ∧ Hid (Chg [] w wr))
    case atStart => exact ⟨rfl, rfl, Lib.hid (hin0.out.alloc ob)⟩
    case round =>
      obtain ⟨rfl, rfl, hin1⟩ := hrel
      obtain ⟨w1, rfl⟩ : ∃ wk, wk = wr := ⟨_, rfl⟩
      go_wp2_with fail
      go_loopg [9] 0 (fun dd kv wr => dd = 0 ∧ kv = .int .i64 0 ∧ Hid (Chg [] w wr))
      case atStart => exact ⟨rfl, rfl, hin1⟩
      case round =>
        obtain ⟨rfl, rfl, hin2⟩ := hrel
        obtain ⟨w2, rfl⟩ : ∃ wk, wk = wr := ⟨_, rfl⟩
        go_wp2_with fail
        go_loopg [11] 0 (fun dd kv wr => dd = 0 ∧ kv = .int .i64 0 ∧ Hid (Chg [] w wr))
        case atStart => exact ⟨rfl, rfl, hin2⟩
        case round =>
          obtain ⟨rfl, rfl, hin3⟩ := hrel
          obtain ⟨w3, rfl⟩ : ∃ wk, wk = wr := ⟨_, rfl⟩
          go_wp2_with fail
          go_loopg [14] 0 (fun dd kv wr => dd = 0 ∧ kv = .int .i64 0 ∧ Hid (Chg [] w wr))
          case atStart => exact ⟨rfl, rfl, hin3⟩
          case round =>
            obtain ⟨rfl, rfl, hin4⟩ := hrel
            obtain ⟨w4, rfl⟩ : ∃ wk, wk = wr := ⟨_, rfl⟩
            go_wp2_with fail
            go_ret
            exact ⟨rfl, hin4.out⟩

set_option maxRecDepth 100000 in
set_option maxHeartbeats 2000000 in
theorem flatSpans_nil (w : World) : Calls Try.prog 73 #[.slice none 0 0] w fun e w' => e = .returned (.bool true) ∧ Chg [] w w' := by
  obtain ⟨ob, hmk⟩ := made_none (t := 76) Try.underlying76 (by kernel_rfl)
  go_enter Try.func73, Try.ntmps73
  go_wp2_with fail
  go_loopg [3] 0 (fun dd kv wr => dd = 0 ∧ kv = .int .i64 0 ∧ Hid (Chg [] w wr))
  case atStart => exact ⟨rfl, rfl, Lib.hid (Chg.refl _ _)⟩
  case round =>
    obtain ⟨rfl, rfl, hin0⟩ := hrel
    obtain ⟨w0, rfl⟩ : ∃ wk, wk = wr := ⟨_, rfl⟩
    go_wp2_with fail
    go_loopg [6] 0 (fun dd kv wr => dd = 0 ∧ kv = .int .i64 0 ∧ Hid (Chg [] w wr))
    case atStart => exact ⟨rfl, rfl, Lib.hid (hin0.out.alloc ob)⟩
    case round =>
      obtain ⟨rfl, rfl, hin1⟩ := hrel
      obtain ⟨w1, rfl⟩ : ∃ wk, wk = wr := ⟨_, rfl⟩
      go_wp2_with fail
      go_loopg [9] 0 (fun dd kv wr => dd = 0 ∧ kv = .int .i64 0 ∧ Hid (Chg [] w wr))
      case atStart => exact ⟨rfl, rfl, hin1⟩
      case round =>
        obtain ⟨rfl, rfl, hin2⟩ := hrel
        obtain ⟨w2, rfl⟩ : ∃ wk, wk = wr := ⟨_, rfl⟩
        go_wp2_with fail
        go_loopg [11] 0 (fun dd kv wr => dd = 0 ∧ kv = .int .i64 0 ∧ Hid (Chg [] w wr))
        case atStart => exact ⟨rfl, rfl, hin2⟩
        case round =>
          obtain ⟨rfl, rfl, hin3⟩ := hrel
          obtain ⟨w3, rfl⟩ : ∃ wk, wk = wr := ⟨_, rfl⟩
          go_wp2_with fail
          go_loopg [14] 0 (fun dd kv wr => dd = 0 ∧ kv = .int .i64 0 ∧ Hid (Chg [] w wr))
          case atStart => exact ⟨rfl, rfl, hin3⟩
          case round =>
            obtain ⟨rfl, rfl, hin4⟩ := hrel
            obtain ⟨w4, rfl⟩ : ∃ wk, wk = wr := ⟨_, rfl⟩
            go_wp2_with fail
            go_ret
            exact ⟨rfl, hin4.out⟩

set_option maxRecDepth 100000 in
set_option maxHeartbeats 2000000 in
theorem flatGrammars_nil (w : World) : Calls Try.prog 74 #[.slice none 0 0] w fun e w' => e = .returned (.bool true) ∧ Chg [] w w' := by
  obtain ⟨ob, hmk⟩ := made_none (t := 77) Try.underlying77 (by kernel_rfl)
  go_enter Try.func74, Try.ntmps74
  go_wp2_with fail
  go_loopg [3] 0 (fun dd kv wr => dd = 0 ∧ kv = .int .i64 0 ∧ Hid (Chg [] w wr))
  case atStart => exact ⟨rfl, rfl, Lib.hid (Chg.refl _ _)⟩
  case round =>
    obtain ⟨rfl, rfl, hin0⟩ := hrel
    obtain ⟨w0, rfl⟩ : ∃ wk, wk = wr := ⟨_, rfl⟩
    go_wp2_with fail
    go_loopg [6] 0 (fun dd kv wr => dd = 0 ∧ kv = .int .i64 0 ∧ Hid (Chg [] w wr))
    case atStart => exact ⟨rfl, rfl, Lib.hid (hin0.out.alloc ob)⟩
    case round =>
      obtain ⟨rfl, rfl, hin1⟩ := hrel
      obtain ⟨w1, rfl⟩ : ∃ wk, wk = wr := ⟨_, rfl⟩
      go_wp2_with fail
      go_loopg [9] 0 (fun dd kv wr => dd = 0 ∧ kv = .int .i64 0 ∧ Hid (Chg [] w wr))
      case atStart => exact ⟨rfl, rfl, hin1⟩
      case round =>
        obtain ⟨rfl, rfl, hin2⟩ := hrel
        obtain ⟨w2, rfl⟩ : ∃ wk, wk = wr := ⟨_, rfl⟩
        go_wp2_with fail
        go_loopg [11] 0 (fun dd kv wr => dd = 0 ∧ kv = .int .i64 0 ∧ Hid (Chg [] w wr))
        case atStart => exact ⟨rfl, rfl, hin2⟩
        case round =>
          obtain ⟨rfl, rfl, hin3⟩ := hrel
          obtain ⟨w3, rfl⟩ : ∃ wk, wk = wr := ⟨_, rfl⟩
          go_wp2_with fail
          go_loopg [14] 0 (fun dd kv wr => dd = 0 ∧ kv = .int .i64 0 ∧ Hid (Chg [] w wr))
          case atStart => exact ⟨rfl, rfl, hin3⟩
          case round =>
            obtain ⟨rfl, rfl, hin4⟩ := hrel
            obtain ⟨w4, rfl⟩ : ∃ wk, wk = wr := ⟨_, rfl⟩
            go_wp2_with fail
            go_ret
            exact ⟨rfl, hin4.out⟩

set_option maxRecDepth 100000 in
set_option maxHeartbeats 2000000 in
theorem flatFounds_nil (w : World) : Calls Try.prog 75 #[.slice none 0 0] w fun e w' => e = .returned (.bool true) ∧ Chg [] w w' := by
  obtain ⟨ob, hmk⟩ := made_none (t := 78) Try.underlying78 (by kernel_rfl)
  go_enter Try.func75, Try.ntmps75
  go_wp2_with fail
  go_loopg [3] 0 (fun dd kv wr => dd = 0 ∧ kv = .int .i64 0 ∧ Hid (Chg [] w wr))
  case atStart => exact ⟨rfl, rfl, Lib.hid (Chg.refl _ _)⟩
  case round =>
    obtain ⟨rfl, rfl, hin0⟩ := hrel
    obtain ⟨w0, rfl⟩ : ∃ wk, wk = wr := ⟨_, rfl⟩
    go_wp2_with fail
    go_loopg [6] 0 (fun dd kv wr => dd = 0 ∧ kv = .int .i64 0 ∧ Hid (Chg [] w wr))
    case atStart => exact ⟨rfl, rfl, Lib.hid (hin0.out.alloc ob)⟩
    case round =>
      obtain ⟨rfl, rfl, hin1⟩ := hrel
      obtain ⟨w1, rfl⟩ : ∃ wk, wk = wr := ⟨_, rfl⟩
      go_wp2_with fail
      go_loopg [9] 0 (fun dd kv wr => dd = 0 ∧ kv = .int .i64 0 ∧ Hid (Chg [] w wr))
      case atStart => exact ⟨rfl, rfl, hin1⟩
      case round =>
        obtain ⟨rfl, rfl, hin2⟩ := hrel
        obtain ⟨w2, rfl⟩ : ∃ wk, wk = wr := ⟨_, rfl⟩
        go_wp2_with fail
        go_loopg [11] 0 (fun dd kv wr => dd = 0 ∧ kv = .int .i64 0 ∧ Hid (Chg [] w wr))
        case atStart => exact ⟨rfl, rfl, hin2⟩
        case round =>
          obtain ⟨rfl, rfl, hin3⟩ := hrel
          obtain ⟨w3, rfl⟩ : ∃ wk, wk = wr := ⟨_, rfl⟩
          go_wp2_with fail
          go_loopg [14] 0 (fun dd kv wr => dd = 0 ∧ kv = .int .i64 0 ∧ Hid (Chg [] w wr))
          case atStart => exact ⟨rfl, rfl, hin3⟩
          case round =>
            obtain ⟨rfl, rfl, hin4⟩ := hrel
            obtain ⟨w4, rfl⟩ : ∃ wk, wk = wr := ⟨_, rfl⟩
            go_wp2_with fail
            go_ret
            exact ⟨rfl, hin4.out⟩

set_option maxRecDepth 100000 in
set_option maxHeartbeats 2000000 in
theorem flatEvents_nil (w : World) : Calls Try.prog 76 #[.slice none 0 0] w fun e w' => e = .returned (.bool true) ∧ Chg [] w w' := by
  obtain ⟨ob, hmk⟩ := made_none (t := 79) Try.underlying79 (by kernel_rfl)
  go_enter Try.func76, Try.ntmps76
  go_wp2_with fail
  go_loopg [3] 0 (fun dd kv wr => dd = 0 ∧ kv = .int .i64 0 ∧ Hid (Chg [] w wr))
  case atStart => exact ⟨rfl, rfl, Lib.hid (Chg.refl _ _)⟩
  case round =>
    obtain ⟨rfl, rfl, hin0⟩ := hrel
    obtain ⟨w0, rfl⟩ : ∃ wk, wk = wr := ⟨_, rfl⟩
    go_wp2_with fail
    go_loopg [6] 0 (fun dd kv wr => dd = 0 ∧ kv = .int .i64 0 ∧ Hid (Chg [] w wr))
    case atStart => exact ⟨rfl, rfl, Lib.hid (hin0.out.alloc ob)⟩
    case round =>
      obtain ⟨rfl, rfl, hin1⟩ := hrel
      obtain ⟨w1, rfl⟩ : ∃ wk, wk = wr := ⟨_, rfl⟩
      go_wp2_with fail
      go_loopg [9] 0 (fun dd kv wr => dd = 0 ∧ kv = .int .i64 0 ∧ Hid (Chg [] w wr))
      case atStart => exact ⟨rfl, rfl, hin1⟩
      case round =>
        obtain ⟨rfl, rfl, hin2⟩ := hrel
        obtain ⟨w2, rfl⟩ : ∃ wk, wk = wr := ⟨_, rfl⟩
        go_wp2_with fail
        go_loopg [11] 0 (fun dd kv wr => dd = 0 ∧ kv = .int .i64 0 ∧ Hid (Chg [] w wr))
        case atStart => exact ⟨rfl, rfl, hin2⟩
        case round =>
          obtain ⟨rfl, rfl, hin3⟩ := hrel
          obtain ⟨w3, rfl⟩ : ∃ wk, wk = wr := ⟨_, rfl⟩
          go_wp2_with fail
          go_loopg [14] 0 (fun dd kv wr => dd = 0 ∧ kv = .int .i64 0 ∧ Hid (Chg [] w wr))
          case atStart => exact ⟨rfl, rfl, hin3⟩
          case round =>
            obtain ⟨rfl, rfl, hin4⟩ := hrel
            obtain ⟨w4, rfl⟩ : ∃ wk, wk = wr := ⟨_, rfl⟩
            go_wp2_with fail
            go_ret
            exact ⟨rfl, hin4.out⟩

end Go.Proofs.Ytplpboknmhgpiaa

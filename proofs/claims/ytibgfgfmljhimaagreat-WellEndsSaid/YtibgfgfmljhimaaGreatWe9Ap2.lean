/-
  Of no rows of a kind it is said that they lie apart.
  Conditions: none.
-/
import Derived.Test.YtibgfgfmljhimaaGreatWe9Ln2
import Derived.Test.YtibgfgfmljhimaaGreatWe9GAny2
set_option linter.unusedVariables false
set_option linter.unusedSimpArgs false
set_option linter.unnecessarySimpa false
namespace Go.Proofs.YtibgfgfmljhimaaGreat
open Go.RowKit Go.MapKept Go.Shelf

theorem made_none {t e : TypeId} (ht : Tryz.prog.underlying t = some (.slice e)) (h : ((Tryz.prog.info? e).bind fun i => i.zero).isSome = true) : ∃ ob, ∀ W : World, (Instr.makeSlice t (.int .i64 0) (.int .i64 0)).run Tryz.prog W = .ok (.slice (some ⟨W.heap.size, 0, none⟩) 0 0) (W.alloc ob) := by
  obtain ⟨z, hz⟩ := Option.isSome_iff_exists.1 h
  obtain ⟨i, hi, hz⟩ := Option.bind_eq_some_iff.1 hz
  refine ⟨.cells (madeCells z.cells ((0 : Int).toNat * i.size)) e, fun W => ?_⟩
  have hr := run_make (P := Tryz.prog) W t e i z ht hi hz .i64 .i64 0 0 (Int.le_refl _) (Int.le_refl _) (by simp) (by decide)
  exact hr

set_option maxRecDepth 100000 in
set_option maxHeartbeats 2000000 in
theorem flatLimbs_nil (w : World) : Calls Tryz.prog 131 #[.slice none 0 0] w fun e w' => e = .returned (.bool true) ∧ Chg [] w w' := by
  obtain ⟨ob, hmk⟩ := made_none (t := 91) Tryz.underlying91 (by kernel_rfl)
  go_enter Tryz.func131, Tryz.ntmps131
  go_wp2_with fail
  go_loopg [3] 0 (fun dd kv wr => dd = 0 ∧ kv = .int .i64 0 ∧ Hid (Chg [] w wr))
  case atStart => exact ⟨rfl, rfl, Lib.hid (Chg.refl _ _)⟩
  case round =>
    obtain ⟨rfl, rfl, hin0⟩ := hrel
    obtain ⟨w0, rfl⟩ : ∃ wk, wk = wr := ⟨_, rfl⟩
    go_wp2_with fail
    go_loopg [6] 0 (fun dd kv wr => dd = 0 ∧ kv = .int .i64 0 ∧ Hid (Chg [] w wr))
    case atStart => exact ⟨rfl, rfl, Lib.hid (hin0.out.alloc ob)⟩
    case round =>
      obtain ⟨rfl, rfl, hin1⟩ := hrel
      obtain ⟨w1, rfl⟩ : ∃ wk, wk = wr := ⟨_, rfl⟩
      go_wp2_with fail
      go_loopg [9] 0 (fun dd kv wr => dd = 0 ∧ kv = .int .i64 0 ∧ Hid (Chg [] w wr))
      case atStart => exact ⟨rfl, rfl, hin1⟩
      case round =>
        obtain ⟨rfl, rfl, hin2⟩ := hrel
        obtain ⟨w2, rfl⟩ : ∃ wk, wk = wr := ⟨_, rfl⟩
        go_wp2_with fail
        go_loopg [11] 0 (fun dd kv wr => dd = 0 ∧ kv = .int .i64 0 ∧ Hid (Chg [] w wr))
        case atStart => exact ⟨rfl, rfl, hin2⟩
        case round =>
          obtain ⟨rfl, rfl, hin3⟩ := hrel
          obtain ⟨w3, rfl⟩ : ∃ wk, wk = wr := ⟨_, rfl⟩
          go_wp2_with fail
          go_loopg [14] 0 (fun dd kv wr => dd = 0 ∧ kv = .int .i64 0 ∧ Hid (Chg [] w wr))
          case atStart => exact ⟨rfl, rfl, hin3⟩
          case round =>
            obtain ⟨rfl, rfl, hin4⟩ := hrel
            obtain ⟨w4, rfl⟩ : ∃ wk, wk = wr := ⟨_, rfl⟩
            go_wp2_with fail
            go_ret
            exact ⟨rfl, hin4.out⟩

set_option maxRecDepth 100000 in
set_option maxHeartbeats 2000000 in
theorem flatWords_nil (w : World) : Calls Tryz.prog 132 #[.slice none 0 0] w fun e w' => e = .returned (.bool true) ∧ Chg [] w w' := by
  obtain ⟨ob, hmk⟩ := made_none (t := 92) Tryz.underlying92 (by kernel_rfl)
  go_enter Tryz.func132, Tryz.ntmps132
  go_wp2_with fail
  go_loopg [3] 0 (fun dd kv wr => dd = 0 ∧ kv = .int .i64 0 ∧ Hid (Chg [] w wr))
  case atStart => exact ⟨rfl, rfl, Lib.hid (Chg.refl _ _)⟩
  case round =>
    obtain ⟨rfl, rfl, hin0⟩ := hrel
    obtain ⟨w0, rfl⟩ : ∃ wk, wk = wr := ⟨_, rfl⟩
    go_wp2_with fail
    go_loopg [6] 0 (fun dd kv wr => dd = 0 ∧ kv = .int .i64 0 ∧ Hid (Chg [] w wr))
    case atStart => exact ⟨rfl, rfl, Lib.hid (hin0.out.alloc ob)⟩
    case round =>
      obtain ⟨rfl, rfl, hin1⟩ := hrel
      obtain ⟨w1, rfl⟩ : ∃ wk, wk = wr := ⟨_, rfl⟩
      go_wp2_with fail
      go_loopg [9] 0 (fun dd kv wr => dd = 0 ∧ kv = .int .i64 0 ∧ Hid (Chg [] w wr))
      case atStart => exact ⟨rfl, rfl, hin1⟩
      case round =>
        obtain ⟨rfl, rfl, hin2⟩ := hrel
        obtain ⟨w2, rfl⟩ : ∃ wk, wk = wr := ⟨_, rfl⟩
        go_wp2_with fail
        go_loopg [11] 0 (fun dd kv wr => dd = 0 ∧ kv = .int .i64 0 ∧ Hid (Chg [] w wr))
        case atStart => exact ⟨rfl, rfl, hin2⟩
        case round =>
          obtain ⟨rfl, rfl, hin3⟩ := hrel
          obtain ⟨w3, rfl⟩ : ∃ wk, wk = wr := ⟨_, rfl⟩
          go_wp2_with fail
          go_loopg [14] 0 (fun dd kv wr => dd = 0 ∧ kv = .int .i64 0 ∧ Hid (Chg [] w wr))
          case atStart => exact ⟨rfl, rfl, hin3⟩
          case round =>
            obtain ⟨rfl, rfl, hin4⟩ := hrel
            obtain ⟨w4, rfl⟩ : ∃ wk, wk = wr := ⟨_, rfl⟩
            go_wp2_with fail
            go_ret
            exact ⟨rfl, hin4.out⟩

set_option maxRecDepth 100000 in
set_option maxHeartbeats 2000000 in
theorem flatLongs_nil (w : World) : Calls Tryz.prog 134 #[.slice none 0 0] w fun e w' => e = .returned (.bool true) ∧ Chg [] w w' := by
  obtain ⟨ob, hmk⟩ := made_none (t := 93) Tryz.underlying93 (by kernel_rfl)
  go_enter Tryz.func134, Tryz.ntmps134
  go_wp2_with fail
  go_loopg [3] 0 (fun dd kv wr => dd = 0 ∧ kv = .int .i64 0 ∧ Hid (Chg [] w wr))
  case atStart => exact ⟨rfl, rfl, Lib.hid (Chg.refl _ _)⟩
  case round =>
    obtain ⟨rfl, rfl, hin0⟩ := hrel
    obtain ⟨w0, rfl⟩ : ∃ wk, wk = wr := ⟨_, rfl⟩
    go_wp2_with fail
    go_loopg [6] 0 (fun dd kv wr => dd = 0 ∧ kv = .int .i64 0 ∧ Hid (Chg [] w wr))
    case atStart => exact ⟨rfl, rfl, Lib.hid (hin0.out.alloc ob)⟩
    case round =>
      obtain ⟨rfl, rfl, hin1⟩ := hrel
      obtain ⟨w1, rfl⟩ : ∃ wk, wk = wr := ⟨_, rfl⟩
      go_wp2_with fail
      go_loopg [9] 0 (fun dd kv wr => dd = 0 ∧ kv = .int .i64 0 ∧ Hid (Chg [] w wr))
      case atStart => exact ⟨rfl, rfl, hin1⟩
      case round =>
        obtain ⟨rfl, rfl, hin2⟩ := hrel
        obtain ⟨w2, rfl⟩ : ∃ wk, wk = wr := ⟨_, rfl⟩
        go_wp2_with fail
        go_loopg [11] 0 (fun dd kv wr => dd = 0 ∧ kv = .int .i64 0 ∧ Hid (Chg [] w wr))
        case atStart => exact ⟨rfl, rfl, hin2⟩
        case round =>
          obtain ⟨rfl, rfl, hin3⟩ := hrel
          obtain ⟨w3, rfl⟩ : ∃ wk, wk = wr := ⟨_, rfl⟩
          go_wp2_with fail
          go_loopg [14] 0 (fun dd kv wr => dd = 0 ∧ kv = .int .i64 0 ∧ Hid (Chg [] w wr))
          case atStart => exact ⟨rfl, rfl, hin3⟩
          case round =>
            obtain ⟨rfl, rfl, hin4⟩ := hrel
            obtain ⟨w4, rfl⟩ : ∃ wk, wk = wr := ⟨_, rfl⟩
            go_wp2_with fail
            go_ret
            exact ⟨rfl, hin4.out⟩

set_option maxRecDepth 100000 in
set_option maxHeartbeats 2000000 in
theorem flatTexts_nil (w : World) : Calls Tryz.prog 135 #[.slice none 0 0] w fun e w' => e = .returned (.bool true) ∧ Chg [] w w' := by
  obtain ⟨ob, hmk⟩ := made_none (t := 94) Tryz.underlying94 (by kernel_rfl)
  go_enter Tryz.func135, Tryz.ntmps135
  go_wp2_with fail
  go_loopg [3] 0 (fun dd kv wr => dd = 0 ∧ kv = .int .i64 0 ∧ Hid (Chg [] w wr))
  case atStart => exact ⟨rfl, rfl, Lib.hid (Chg.refl _ _)⟩
  case round =>
    obtain ⟨rfl, rfl, hin0⟩ := hrel
    obtain ⟨w0, rfl⟩ : ∃ wk, wk = wr := ⟨_, rfl⟩
    go_wp2_with fail
    go_loopg [6] 0 (fun dd kv wr => dd = 0 ∧ kv = .int .i64 0 ∧ Hid (Chg [] w wr))
    case atStart => exact ⟨rfl, rfl, Lib.hid (hin0.out.alloc ob)⟩
    case round =>
      obtain ⟨rfl, rfl, hin1⟩ := hrel
      obtain ⟨w1, rfl⟩ : ∃ wk, wk = wr := ⟨_, rfl⟩
      go_wp2_with fail
      go_loopg [9] 0 (fun dd kv wr => dd = 0 ∧ kv = .int .i64 0 ∧ Hid (Chg [] w wr))
      case atStart => exact ⟨rfl, rfl, hin1⟩
      case round =>
        obtain ⟨rfl, rfl, hin2⟩ := hrel
        obtain ⟨w2, rfl⟩ : ∃ wk, wk = wr := ⟨_, rfl⟩
        go_wp2_with fail
        go_loopg [11] 0 (fun dd kv wr => dd = 0 ∧ kv = .int .i64 0 ∧ Hid (Chg [] w wr))
        case atStart => exact ⟨rfl, rfl, hin2⟩
        case round =>
          obtain ⟨rfl, rfl, hin3⟩ := hrel
          obtain ⟨w3, rfl⟩ : ∃ wk, wk = wr := ⟨_, rfl⟩
          go_wp2_with fail
          go_loopg [14] 0 (fun dd kv wr => dd = 0 ∧ kv = .int .i64 0 ∧ Hid (Chg [] w wr))
          case atStart => exact ⟨rfl, rfl, hin3⟩
          case round =>
            obtain ⟨rfl, rfl, hin4⟩ := hrel
            obtain ⟨w4, rfl⟩ : ∃ wk, wk = wr := ⟨_, rfl⟩
            go_wp2_with fail
            go_ret
            exact ⟨rfl, hin4.out⟩

set_option maxRecDepth 100000 in
set_option maxHeartbeats 2000000 in
theorem flatBytes_nil (w : World) : Calls Tryz.prog 136 #[.slice none 0 0] w fun e w' => e = .returned (.bool true) ∧ Chg [] w w' := by
  obtain ⟨ob, hmk⟩ := made_none (t := 95) Tryz.underlying95 (by kernel_rfl)
  go_enter Tryz.func136, Tryz.ntmps136
  go_wp2_with fail
  go_loopg [3] 0 (fun dd kv wr => dd = 0 ∧ kv = .int .i64 0 ∧ Hid (Chg [] w wr))
  case atStart => exact ⟨rfl, rfl, Lib.hid (Chg.refl _ _)⟩
  case round =>
    obtain ⟨rfl, rfl, hin0⟩ := hrel
    obtain ⟨w0, rfl⟩ : ∃ wk, wk = wr := ⟨_, rfl⟩
    go_wp2_with fail
    go_loopg [6] 0 (fun dd kv wr => dd = 0 ∧ kv = .int .i64 0 ∧ Hid (Chg [] w wr))
    case atStart => exact ⟨rfl, rfl, Lib.hid (hin0.out.alloc ob)⟩
    case round =>
      obtain ⟨rfl, rfl, hin1⟩ := hrel
      obtain ⟨w1, rfl⟩ : ∃ wk, wk = wr := ⟨_, rfl⟩
      go_wp2_with fail
      go_loopg [9] 0 (fun dd kv wr => dd = 0 ∧ kv = .int .i64 0 ∧ Hid (Chg [] w wr))
      case atStart => exact ⟨rfl, rfl, hin1⟩
      case round =>
        obtain ⟨rfl, rfl, hin2⟩ := hrel
        obtain ⟨w2, rfl⟩ : ∃ wk, wk = wr := ⟨_, rfl⟩
        go_wp2_with fail
        go_loopg [11] 0 (fun dd kv wr => dd = 0 ∧ kv = .int .i64 0 ∧ Hid (Chg [] w wr))
        case atStart => exact ⟨rfl, rfl, hin2⟩
        case round =>
          obtain ⟨rfl, rfl, hin3⟩ := hrel
          obtain ⟨w3, rfl⟩ : ∃ wk, wk = wr := ⟨_, rfl⟩
          go_wp2_with fail
          go_loopg [14] 0 (fun dd kv wr => dd = 0 ∧ kv = .int .i64 0 ∧ Hid (Chg [] w wr))
          case atStart => exact ⟨rfl, rfl, hin3⟩
          case round =>
            obtain ⟨rfl, rfl, hin4⟩ := hrel
            obtain ⟨w4, rfl⟩ : ∃ wk, wk = wr := ⟨_, rfl⟩
            go_wp2_with fail
            go_ret
            exact ⟨rfl, hin4.out⟩

set_option maxRecDepth 100000 in
set_option maxHeartbeats 2000000 in
theorem flatTruths_nil (w : World) : Calls Tryz.prog 137 #[.slice none 0 0] w fun e w' => e = .returned (.bool true) ∧ Chg [] w w' := by
  obtain ⟨ob, hmk⟩ := made_none (t := 96) Tryz.underlying96 (by kernel_rfl)
  go_enter Tryz.func137, Tryz.ntmps137
  go_wp2_with fail
  go_loopg [3] 0 (fun dd kv wr => dd = 0 ∧ kv = .int .i64 0 ∧ Hid (Chg [] w wr))
  case atStart => exact ⟨rfl, rfl, Lib.hid (Chg.refl _ _)⟩
  case round =>
    obtain ⟨rfl, rfl, hin0⟩ := hrel
    obtain ⟨w0, rfl⟩ : ∃ wk, wk = wr := ⟨_, rfl⟩
    go_wp2_with fail
    go_loopg [6] 0 (fun dd kv wr => dd = 0 ∧ kv = .int .i64 0 ∧ Hid (Chg [] w wr))
    case atStart => exact ⟨rfl, rfl, Lib.hid (hin0.out.alloc ob)⟩
    case round =>
      obtain ⟨rfl, rfl, hin1⟩ := hrel
      obtain ⟨w1, rfl⟩ : ∃ wk, wk = wr := ⟨_, rfl⟩
      go_wp2_with fail
      go_loopg [9] 0 (fun dd kv wr => dd = 0 ∧ kv = .int .i64 0 ∧ Hid (Chg [] w wr))
      case atStart => exact ⟨rfl, rfl, hin1⟩
      case round =>
        obtain ⟨rfl, rfl, hin2⟩ := hrel
        obtain ⟨w2, rfl⟩ : ∃ wk, wk = wr := ⟨_, rfl⟩
        go_wp2_with fail
        go_loopg [11] 0 (fun dd kv wr => dd = 0 ∧ kv = .int .i64 0 ∧ Hid (Chg [] w wr))
        case atStart => exact ⟨rfl, rfl, hin2⟩
        case round =>
          obtain ⟨rfl, rfl, hin3⟩ := hrel
          obtain ⟨w3, rfl⟩ : ∃ wk, wk = wr := ⟨_, rfl⟩
          go_wp2_with fail
          go_loopg [14] 0 (fun dd kv wr => dd = 0 ∧ kv = .int .i64 0 ∧ Hid (Chg [] w wr))
          case atStart => exact ⟨rfl, rfl, hin3⟩
          case round =>
            obtain ⟨rfl, rfl, hin4⟩ := hrel
            obtain ⟨w4, rfl⟩ : ∃ wk, wk = wr := ⟨_, rfl⟩
            go_wp2_with fail
            go_ret
            exact ⟨rfl, hin4.out⟩

set_option maxRecDepth 100000 in
set_option maxHeartbeats 2000000 in
theorem flatTwigs_nil (w : World) : Calls Tryz.prog 138 #[.slice none 0 0] w fun e w' => e = .returned (.bool true) ∧ Chg [] w w' := by
  obtain ⟨ob, hmk⟩ := made_none (t := 97) Tryz.underlying97 (by kernel_rfl)
  go_enter Tryz.func138, Tryz.ntmps138
  go_wp2_with fail
  go_loopg [3] 0 (fun dd kv wr => dd = 0 ∧ kv = .int .i64 0 ∧ Hid (Chg [] w wr))
  case atStart => exact ⟨rfl, rfl, Lib.hid (Chg.refl _ _)⟩
  case round =>
    obtain ⟨rfl, rfl, hin0⟩ := hrel
    obtain ⟨w0, rfl⟩ : ∃ wk, wk = wr := ⟨_, rfl⟩
    go_wp2_with fail
    go_loopg [6] 0 (fun dd kv wr => dd = 0 ∧ kv = .int .i64 0 ∧ Hid (Chg [] w wr))
    case atStart => exact ⟨rfl, rfl, Lib.hid (hin0.out.alloc ob)⟩
    case round =>
      obtain ⟨rfl, rfl, hin1⟩ := hrel
      obtain ⟨w1, rfl⟩ : ∃ wk, wk = wr := ⟨_, rfl⟩
      go_wp2_with fail
      go_loopg [9] 0 (fun dd kv wr => dd = 0 ∧ kv = .int .i64 0 ∧ Hid (Chg [] w wr))
      case atStart => exact ⟨rfl, rfl, hin1⟩
      case round =>
        obtain ⟨rfl, rfl, hin2⟩ := hrel
        obtain ⟨w2, rfl⟩ : ∃ wk, wk = wr := ⟨_, rfl⟩
        go_wp2_with fail
        go_loopg [11] 0 (fun dd kv wr => dd = 0 ∧ kv = .int .i64 0 ∧ Hid (Chg [] w wr))
        case atStart => exact ⟨rfl, rfl, hin2⟩
        case round =>
          obtain ⟨rfl, rfl, hin3⟩ := hrel
          obtain ⟨w3, rfl⟩ : ∃ wk, wk = wr := ⟨_, rfl⟩
          go_wp2_with fail
          go_loopg [14] 0 (fun dd kv wr => dd = 0 ∧ kv = .int .i64 0 ∧ Hid (Chg [] w wr))
          case atStart => exact ⟨rfl, rfl, hin3⟩
          case round =>
            obtain ⟨rfl, rfl, hin4⟩ := hrel
            obtain ⟨w4, rfl⟩ : ∃ wk, wk = wr := ⟨_, rfl⟩
            go_wp2_with fail
            go_ret
            exact ⟨rfl, hin4.out⟩

set_option maxRecDepth 100000 in
set_option maxHeartbeats 2000000 in
theorem flatNodes_nil (w : World) : Calls Tryz.prog 139 #[.slice none 0 0] w fun e w' => e = .returned (.bool true) ∧ Chg [] w w' := by
  obtain ⟨ob, hmk⟩ := made_none (t := 37) Tryz.underlying37 (by kernel_rfl)
  go_enter Tryz.func139, Tryz.ntmps139
  go_wp2_with fail
  go_loopg [3] 0 (fun dd kv wr => dd = 0 ∧ kv = .int .i64 0 ∧ Hid (Chg [] w wr))
  case atStart => exact ⟨rfl, rfl, Lib.hid (Chg.refl _ _)⟩
  case round =>
    obtain ⟨rfl, rfl, hin0⟩ := hrel
    obtain ⟨w0, rfl⟩ : ∃ wk, wk = wr := ⟨_, rfl⟩
    go_wp2_with fail
    go_loopg [6] 0 (fun dd kv wr => dd = 0 ∧ kv = .int .i64 0 ∧ Hid (Chg [] w wr))
    case atStart => exact ⟨rfl, rfl, Lib.hid (hin0.out.alloc ob)⟩
    case round =>
      obtain ⟨rfl, rfl, hin1⟩ := hrel
      obtain ⟨w1, rfl⟩ : ∃ wk, wk = wr := ⟨_, rfl⟩
      go_wp2_with fail
      go_loopg [9] 0 (fun dd kv wr => dd = 0 ∧ kv = .int .i64 0 ∧ Hid (Chg [] w wr))
      case atStart => exact ⟨rfl, rfl, hin1⟩
      case round =>
        obtain ⟨rfl, rfl, hin2⟩ := hrel
        obtain ⟨w2, rfl⟩ : ∃ wk, wk = wr := ⟨_, rfl⟩
        go_wp2_with fail
        go_loopg [11] 0 (fun dd kv wr => dd = 0 ∧ kv = .int .i64 0 ∧ Hid (Chg [] w wr))
        case atStart => exact ⟨rfl, rfl, hin2⟩
        case round =>
          obtain ⟨rfl, rfl, hin3⟩ := hrel
          obtain ⟨w3, rfl⟩ : ∃ wk, wk = wr := ⟨_, rfl⟩
          go_wp2_with fail
          go_loopg [14] 0 (fun dd kv wr => dd = 0 ∧ kv = .int .i64 0 ∧ Hid (Chg [] w wr))
          case atStart => exact ⟨rfl, rfl, hin3⟩
          case round =>
            obtain ⟨rfl, rfl, hin4⟩ := hrel
            obtain ⟨w4, rfl⟩ : ∃ wk, wk = wr := ⟨_, rfl⟩
            go_wp2_with fail
            go_ret
            exact ⟨rfl, hin4.out⟩

set_option maxRecDepth 100000 in
set_option maxHeartbeats 2000000 in
theorem flatRules_nil (w : World) : Calls Tryz.prog 140 #[.slice none 0 0] w fun e w' => e = .returned (.bool true) ∧ Chg [] w w' := by
  obtain ⟨ob, hmk⟩ := made_none (t := 98) Tryz.underlying98 (by kernel_rfl)
  go_enter Tryz.func140, Tryz.ntmps140
  go_wp2_with fail
  go_loopg [3] 0 (fun dd kv wr => dd = 0 ∧ kv = .int .i64 0 ∧ Hid (Chg [] w wr))
  case atStart => exact ⟨rfl, rfl, Lib.hid (Chg.refl _ _)⟩
  case round =>
    obtain ⟨rfl, rfl, hin0⟩ := hrel
    obtain ⟨w0, rfl⟩ : ∃ wk, wk = wr := ⟨_, rfl⟩
    go_wp2_with fail
    go_loopg [6] 0 (fun dd kv wr => dd = 0 ∧ kv = .int .i64 0 ∧ Hid (Chg [] w wr))
    case atStart => exact ⟨rfl, rfl, Lib.hid (hin0.out.alloc ob)⟩
    case round =>
      obtain ⟨rfl, rfl, hin1⟩ := hrel
      obtain ⟨w1, rfl⟩ : ∃ wk, wk = wr := ⟨_, rfl⟩
      go_wp2_with fail
      go_loopg [9] 0 (fun dd kv wr => dd = 0 ∧ kv = .int .i64 0 ∧ Hid (Chg [] w wr))
      case atStart => exact ⟨rfl, rfl, hin1⟩
      case round =>
        obtain ⟨rfl, rfl, hin2⟩ := hrel
        obtain ⟨w2, rfl⟩ : ∃ wk, wk = wr := ⟨_, rfl⟩
        go_wp2_with fail
        go_loopg [11] 0 (fun dd kv wr => dd = 0 ∧ kv = .int .i64 0 ∧ Hid (Chg [] w wr))
        case atStart => exact ⟨rfl, rfl, hin2⟩
        case round =>
          obtain ⟨rfl, rfl, hin3⟩ := hrel
          obtain ⟨w3, rfl⟩ : ∃ wk, wk = wr := ⟨_, rfl⟩
          go_wp2_with fail
          go_loopg [14] 0 (fun dd kv wr => dd = 0 ∧ kv = .int .i64 0 ∧ Hid (Chg [] w wr))
          case atStart => exact ⟨rfl, rfl, hin3⟩
          case round =>
            obtain ⟨rfl, rfl, hin4⟩ := hrel
            obtain ⟨w4, rfl⟩ : ∃ wk, wk = wr := ⟨_, rfl⟩
            go_wp2_with fail
            go_ret
            exact ⟨rfl, hin4.out⟩

set_option maxRecDepth 100000 in
set_option maxHeartbeats 2000000 in
theorem flatSpans_nil (w : World) : Calls Tryz.prog 141 #[.slice none 0 0] w fun e w' => e = .returned (.bool true) ∧ Chg [] w w' := by
  obtain ⟨ob, hmk⟩ := made_none (t := 99) Tryz.underlying99 (by kernel_rfl)
  go_enter Tryz.func141, Tryz.ntmps141
  go_wp2_with fail
  go_loopg [3] 0 (fun dd kv wr => dd = 0 ∧ kv = .int .i64 0 ∧ Hid (Chg [] w wr))
  case atStart => exact ⟨rfl, rfl, Lib.hid (Chg.refl _ _)⟩
  case round =>
    obtain ⟨rfl, rfl, hin0⟩ := hrel
    obtain ⟨w0, rfl⟩ : ∃ wk, wk = wr := ⟨_, rfl⟩
    go_wp2_with fail
    go_loopg [6] 0 (fun dd kv wr => dd = 0 ∧ kv = .int .i64 0 ∧ Hid (Chg [] w wr))
    case atStart => exact ⟨rfl, rfl, Lib.hid (hin0.out.alloc ob)⟩
    case round =>
      obtain ⟨rfl, rfl, hin1⟩ := hrel
      obtain ⟨w1, rfl⟩ : ∃ wk, wk = wr := ⟨_, rfl⟩
      go_wp2_with fail
      go_loopg [9] 0 (fun dd kv wr => dd = 0 ∧ kv = .int .i64 0 ∧ Hid (Chg [] w wr))
      case atStart => exact ⟨rfl, rfl, hin1⟩
      case round =>
        obtain ⟨rfl, rfl, hin2⟩ := hrel
        obtain ⟨w2, rfl⟩ : ∃ wk, wk = wr := ⟨_, rfl⟩
        go_wp2_with fail
        go_loopg [11] 0 (fun dd kv wr => dd = 0 ∧ kv = .int .i64 0 ∧ Hid (Chg [] w wr))
        case atStart => exact ⟨rfl, rfl, hin2⟩
        case round =>
          obtain ⟨rfl, rfl, hin3⟩ := hrel
          obtain ⟨w3, rfl⟩ : ∃ wk, wk = wr := ⟨_, rfl⟩
          go_wp2_with fail
          go_loopg [14] 0 (fun dd kv wr => dd = 0 ∧ kv = .int .i64 0 ∧ Hid (Chg [] w wr))
          case atStart => exact ⟨rfl, rfl, hin3⟩
          case round =>
            obtain ⟨rfl, rfl, hin4⟩ := hrel
            obtain ⟨w4, rfl⟩ : ∃ wk, wk = wr := ⟨_, rfl⟩
            go_wp2_with fail
            go_ret
            exact ⟨rfl, hin4.out⟩

set_option maxRecDepth 100000 in
set_option maxHeartbeats 2000000 in
theorem flatGrammars_nil (w : World) : Calls Tryz.prog 142 #[.slice none 0 0] w fun e w' => e = .returned (.bool true) ∧ Chg [] w w' := by
  obtain ⟨ob, hmk⟩ := made_none (t := 75) Tryz.underlying75 (by kernel_rfl)
  go_enter Tryz.func142, Tryz.ntmps142
  go_wp2_with fail
  go_loopg [3] 0 (fun dd kv wr => dd = 0 ∧ kv = .int .i64 0 ∧ Hid (Chg [] w wr))
  case atStart => exact ⟨rfl, rfl, Lib.hid (Chg.refl _ _)⟩
  case round =>
    obtain ⟨rfl, rfl, hin0⟩ := hrel
    obtain ⟨w0, rfl⟩ : ∃ wk, wk = wr := ⟨_, rfl⟩
    go_wp2_with fail
    go_loopg [6] 0 (fun dd kv wr => dd = 0 ∧ kv = .int .i64 0 ∧ Hid (Chg [] w wr))
    case atStart => exact ⟨rfl, rfl, Lib.hid (hin0.out.alloc ob)⟩
    case round =>
      obtain ⟨rfl, rfl, hin1⟩ := hrel
      obtain ⟨w1, rfl⟩ : ∃ wk, wk = wr := ⟨_, rfl⟩
      go_wp2_with fail
      go_loopg [9] 0 (fun dd kv wr => dd = 0 ∧ kv = .int .i64 0 ∧ Hid (Chg [] w wr))
      case atStart => exact ⟨rfl, rfl, hin1⟩
      case round =>
        obtain ⟨rfl, rfl, hin2⟩ := hrel
        obtain ⟨w2, rfl⟩ : ∃ wk, wk = wr := ⟨_, rfl⟩
        go_wp2_with fail
        go_loopg [11] 0 (fun dd kv wr => dd = 0 ∧ kv = .int .i64 0 ∧ Hid (Chg [] w wr))
        case atStart => exact ⟨rfl, rfl, hin2⟩
        case round =>
          obtain ⟨rfl, rfl, hin3⟩ := hrel
          obtain ⟨w3, rfl⟩ : ∃ wk, wk = wr := ⟨_, rfl⟩
          go_wp2_with fail
          go_loopg [14] 0 (fun dd kv wr => dd = 0 ∧ kv = .int .i64 0 ∧ Hid (Chg [] w wr))
          case atStart => exact ⟨rfl, rfl, hin3⟩
          case round =>
            obtain ⟨rfl, rfl, hin4⟩ := hrel
            obtain ⟨w4, rfl⟩ : ∃ wk, wk = wr := ⟨_, rfl⟩
            go_wp2_with fail
            go_ret
            exact ⟨rfl, hin4.out⟩

set_option maxRecDepth 100000 in
set_option maxHeartbeats 2000000 in
theorem flatFounds_nil (w : World) : Calls Tryz.prog 143 #[.slice none 0 0] w fun e w' => e = .returned (.bool true) ∧ Chg [] w w' := by
  obtain ⟨ob, hmk⟩ := made_none (t := 100) Tryz.underlying100 (by kernel_rfl)
  go_enter Tryz.func143, Tryz.ntmps143
  go_wp2_with fail
  go_loopg [3] 0 (fun dd kv wr => dd = 0 ∧ kv = .int .i64 0 ∧ Hid (Chg [] w wr))
  case atStart => exact ⟨rfl, rfl, Lib.hid (Chg.refl _ _)⟩
  case round =>
    obtain ⟨rfl, rfl, hin0⟩ := hrel
    obtain ⟨w0, rfl⟩ : ∃ wk, wk = wr := ⟨_, rfl⟩
    go_wp2_with fail
    go_loopg [6] 0 (fun dd kv wr => dd = 0 ∧ kv = .int .i64 0 ∧ Hid (Chg [] w wr))
    case atStart => exact ⟨rfl, rfl, Lib.hid (hin0.out.alloc ob)⟩
    case round =>
      obtain ⟨rfl, rfl, hin1⟩ := hrel
      obtain ⟨w1, rfl⟩ : ∃ wk, wk = wr := ⟨_, rfl⟩
      go_wp2_with fail
      go_loopg [9] 0 (fun dd kv wr => dd = 0 ∧ kv = .int .i64 0 ∧ Hid (Chg [] w wr))
      case atStart => exact ⟨rfl, rfl, hin1⟩
      case round =>
        obtain ⟨rfl, rfl, hin2⟩ := hrel
        obtain ⟨w2, rfl⟩ : ∃ wk, wk = wr := ⟨_, rfl⟩
        go_wp2_with fail
        go_loopg [11] 0 (fun dd kv wr => dd = 0 ∧ kv = .int .i64 0 ∧ Hid (Chg [] w wr))
        case atStart => exact ⟨rfl, rfl, hin2⟩
        case round =>
          obtain ⟨rfl, rfl, hin3⟩ := hrel
          obtain ⟨w3, rfl⟩ : ∃ wk, wk = wr := ⟨_, rfl⟩
          go_wp2_with fail
          go_loopg [14] 0 (fun dd kv wr => dd = 0 ∧ kv = .int .i64 0 ∧ Hid (Chg [] w wr))
          case atStart => exact ⟨rfl, rfl, hin3⟩
          case round =>
            obtain ⟨rfl, rfl, hin4⟩ := hrel
            obtain ⟨w4, rfl⟩ : ∃ wk, wk = wr := ⟨_, rfl⟩
            go_wp2_with fail
            go_ret
            exact ⟨rfl, hin4.out⟩

set_option maxRecDepth 100000 in
set_option maxHeartbeats 2000000 in
theorem flatEvents_nil (w : World) : Calls Tryz.prog 144 #[.slice none 0 0] w fun e w' => e = .returned (.bool true) ∧ Chg [] w w' := by
  obtain ⟨ob, hmk⟩ := made_none (t := 101) Tryz.underlying101 (by kernel_rfl)
  go_enter Tryz.func144, Tryz.ntmps144
  go_wp2_with fail
  go_loopg [3] 0 (fun dd kv wr => dd = 0 ∧ kv = .int .i64 0 ∧ Hid (Chg [] w wr))
  case atStart => exact ⟨rfl, rfl, Lib.hid (Chg.refl _ _)⟩
  case round =>
    obtain ⟨rfl, rfl, hin0⟩ := hrel
    obtain ⟨w0, rfl⟩ : ∃ wk, wk = wr := ⟨_, rfl⟩
    go_wp2_with fail
    go_loopg [6] 0 (fun dd kv wr => dd = 0 ∧ kv = .int .i64 0 ∧ Hid (Chg [] w wr))
    case atStart => exact ⟨rfl, rfl, Lib.hid (hin0.out.alloc ob)⟩
    case round =>
      obtain ⟨rfl, rfl, hin1⟩ := hrel
      obtain ⟨w1, rfl⟩ : ∃ wk, wk = wr := ⟨_, rfl⟩
      go_wp2_with fail
      go_loopg [9] 0 (fun dd kv wr => dd = 0 ∧ kv = .int .i64 0 ∧ Hid (Chg [] w wr))
      case atStart => exact ⟨rfl, rfl, hin1⟩
      case round =>
        obtain ⟨rfl, rfl, hin2⟩ := hrel
        obtain ⟨w2, rfl⟩ : ∃ wk, wk = wr := ⟨_, rfl⟩
        go_wp2_with fail
        go_loopg [11] 0 (fun dd kv wr => dd = 0 ∧ kv = .int .i64 0 ∧ Hid (Chg [] w wr))
        case atStart => exact ⟨rfl, rfl, hin2⟩
        case round =>
          obtain ⟨rfl, rfl, hin3⟩ := hrel
          obtain ⟨w3, rfl⟩ : ∃ wk, wk = wr := ⟨_, rfl⟩
          go_wp2_with fail
          go_loopg [14] 0 (fun dd kv wr => dd = 0 ∧ kv = .int .i64 0 ∧ Hid (Chg [] w wr))
          case atStart => exact ⟨rfl, rfl, hin3⟩
          case round =>
            obtain ⟨rfl, rfl, hin4⟩ := hrel
            obtain ⟨w4, rfl⟩ : ∃ wk, wk = wr := ⟨_, rfl⟩
            go_wp2_with fail
            go_ret
            exact ⟨rfl, hin4.out⟩

end Go.Proofs.YtibgfgfmljhimaaGreat

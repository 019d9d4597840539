/-
 Of no rows of a kind it is said that they lie apart.
 Conditions: none.
-/
import Derived.Test.YtlklmpjakeedcaaGreatDoorSEnAp0
import Derived.Test.YtlklmpjakeedcaaGreatDoorSEnGAny2
import Derived.Test.YtlklmpjakeedcaaGreatDoorSEnAp1
set_option linter.unusedVariables false
set_option linter.unusedSimpArgs false
set_option linter.unnecessarySimpa false
namespace Go.Proofs.YtlklmpjakeedcaaGreatDoor
open Go.RowKit Go.MapKept Go.Shelf

theorem made_none {t e : TypeId} (ht : Tryz.prog.underlying t = some (.slice e)) (h : ((Tryz.prog.info? e).bind fun i => i.zero).isSome = true) : ∃ ob, ∀ W : World, (Instr.makeSlice t (.int .i64 0) (.int .i64 0)).run Tryz.prog W = .ok (.slice (some ⟨W.heap.size, 0, none⟩) 0 0) (W.alloc ob) := by
 obtain ⟨z, hz⟩ := Option.isSome_iff_exists.1 h
 obtain ⟨i, hi, hz⟩ := Option.bind_eq_some_iff.1 hz
 refine ⟨.cells (madeCells z.cells ((0 : Int).toNat * i.size)) e, fun W => ?_⟩
 have hr := run_make (P := Tryz.prog) W t e i z ht hi hz .i64 .i64 0 0 (Int.le_refl _) (Int.le_refl _) (by simp) (by decide)
 exact hr

set_option maxRecDepth 100000 in
set_option maxHeartbeats 2000000 in
theorem flatLimbs_nil (w : World) : Calls Tryz.prog 126 #[.slice none 0 0] w fun e w' => e = .returned (.bool true) ∧ Chg [] w w' := by
 obtain ⟨ob, hmk⟩ := made_none (t := 123) Tryz.underlying123 (by kernel_rfl)
 go_enter Tryz.func126, Tryz.ntmps126
 go_wp2_with fail
 go_loopg [3] 0 (fun dd kv wr => dd = 0 ∧ kv = .int .i64 0 ∧ Hid (Chg [] w wr))
 case atStart => exact ⟨rfl, rfl, Lib.hid (Chg.refl _ _)⟩
 case round =>
  obtain ⟨rfl, rfl, hin0⟩ := hrel
  obtain ⟨w0, rfl⟩ : ∃ wk, wk = wr := ⟨_, rfl⟩
  go_wp2_with fail
  go_loopg [6] 0 (fun dd kv wr => dd = 0 ∧ kv = .int .i64 0 ∧ Hid (Chg [] w wr))
  case atStart => exact ⟨rfl, rfl, Lib.hid (hin0.out.alloc ob)⟩
  case round =>
   obtain ⟨rfl, rfl, hin1⟩ := hrel
   obtain ⟨w1, rfl⟩ : ∃ wk, wk = wr := ⟨_, rfl⟩
   go_wp2_with fail
   go_loopg [9] 0 (fun dd kv wr => dd = 0 ∧ kv = .int .i64 0 ∧ Hid (Chg [] w wr))
   case atStart => exact ⟨rfl, rfl, hin1⟩
   case round =>
    obtain ⟨rfl, rfl, hin2⟩ := hrel
    obtain ⟨w2, rfl⟩ : ∃ wk, wk = wr := ⟨_, rfl⟩
    go_wp2_with fail
    go_loopg [11] 0 (fun dd kv wr => dd = 0 ∧ kv = .int .i64 0 ∧ Hid (Chg [] w wr))
    case atStart => exact ⟨rfl, rfl, hin2⟩
    case round =>
     obtain ⟨rfl, rfl, hin3⟩ := hrel
     obtain ⟨w3, rfl⟩ : ∃ wk, wk = wr := ⟨_, rfl⟩
     go_wp2_with fail
     go_loopg [14] 0 (fun dd kv wr => dd = 0 ∧ kv = .int .i64 0 ∧ Hid (Chg [] w wr))
     case atStart => exact ⟨rfl, rfl, hin3⟩
     case round =>
      obtain ⟨rfl, rfl, hin4⟩ := hrel
      obtain ⟨w4, rfl⟩ : ∃ wk, wk = wr := ⟨_, rfl⟩
      go_wp2_with fail
      go_ret
      exact ⟨rfl, hin4.out⟩

set_option maxRecDepth 100000 in
set_option maxHeartbeats 2000000 in
theorem flatWords_nil (w : World) : Calls Tryz.prog 127 #[.slice none 0 0] w fun e w' => e = .returned (.bool true) ∧ Chg [] w w' := by
 obtain ⟨ob, hmk⟩ := made_none (t := 124) Tryz.underlying124 (by kernel_rfl)
 go_enter Tryz.func127, Tryz.ntmps127
 go_wp2_with fail
 go_loopg [3] 0 (fun dd kv wr => dd = 0 ∧ kv = .int .i64 0 ∧ Hid (Chg [] w wr))
 case atStart => exact ⟨rfl, rfl, Lib.hid (Chg.refl _ _)⟩
 case round =>
  obtain ⟨rfl, rfl, hin0⟩ := hrel
  obtain ⟨w0, rfl⟩ : ∃ wk, wk = wr := ⟨_, rfl⟩
  go_wp2_with fail
  go_loopg [6] 0 (fun dd kv wr => dd = 0 ∧ kv = .int .i64 0 ∧ Hid (Chg [] w wr))
  case atStart => exact ⟨rfl, rfl, Lib.hid (hin0.out.alloc ob)⟩
  case round =>
   obtain ⟨rfl, rfl, hin1⟩ := hrel
   obtain ⟨w1, rfl⟩ : ∃ wk, wk = wr := ⟨_, rfl⟩
   go_wp2_with fail
   go_loopg [9] 0 (fun dd kv wr => dd = 0 ∧ kv = .int .i64 0 ∧ Hid (Chg [] w wr))
   case atStart => exact ⟨rfl, rfl, hin1⟩
   case round =>
    obtain ⟨rfl, rfl, hin2⟩ := hrel
    obtain ⟨w2, rfl⟩ : ∃ wk, wk = wr := ⟨_, rfl⟩
    go_wp2_with fail
    go_loopg [11] 0 (fun dd kv wr => dd = 0 ∧ kv = .int .i64 0 ∧ Hid (Chg [] w wr))
    case atStart => exact ⟨rfl, rfl, hin2⟩
    case round =>
     obtain ⟨rfl, rfl, hin3⟩ := hrel
     obtain ⟨w3, rfl⟩ : ∃ wk, wk = wr := ⟨_, rfl⟩
     go_wp2_with fail
     go_loopg [14] 0 (fun dd kv wr => dd = 0 ∧ kv = .int .i64 0 ∧ Hid (Chg [] w wr))
     case atStart => exact ⟨rfl, rfl, hin3⟩
     case round =>
      obtain ⟨rfl, rfl, hin4⟩ := hrel
      obtain ⟨w4, rfl⟩ : ∃ wk, wk = wr := ⟨_, rfl⟩
      go_wp2_with fail
      go_ret
      exact ⟨rfl, hin4.out⟩

set_option maxRecDepth 100000 in
set_option maxHeartbeats 2000000 in
theorem flatLongs_nil (w : World) : Calls Tryz.prog 129 #[.slice none 0 0] w fun e w' => e = .returned (.bool true) ∧ Chg [] w w' := by
 obtain ⟨ob, hmk⟩ := made_none (t := 125) Tryz.underlying125 (by kernel_rfl)
 go_enter Tryz.func129, Tryz.ntmps129
 go_wp2_with fail
 go_loopg [3] 0 (fun dd kv wr => dd = 0 ∧ kv = .int .i64 0 ∧ Hid (Chg [] w wr))
 case atStart => exact ⟨rfl, rfl, Lib.hid (Chg.refl _ _)⟩
 case round =>
  obtain ⟨rfl, rfl, hin0⟩ := hrel
  obtain ⟨w0, rfl⟩ : ∃ wk, wk = wr := ⟨_, rfl⟩
  go_wp2_with fail
  go_loopg [6] 0 (fun dd kv wr => dd = 0 ∧ kv = .int .i64 0 ∧ Hid (Chg [] w wr))
  case atStart => exact ⟨rfl, rfl, Lib.hid (hin0.out.alloc ob)⟩
  case round =>
   obtain ⟨rfl, rfl, hin1⟩ := hrel
   obtain ⟨w1, rfl⟩ : ∃ wk, wk = wr := ⟨_, rfl⟩
   go_wp2_with fail
   go_loopg [9] 0 (fun dd kv wr => dd = 0 ∧ kv = .int .i64 0 ∧ Hid (Chg [] w wr))
   case atStart => exact ⟨rfl, rfl, hin1⟩
   case round =>
    obtain ⟨rfl, rfl, hin2⟩ := hrel
    obtain ⟨w2, rfl⟩ : ∃ wk, wk = wr := ⟨_, rfl⟩
    go_wp2_with fail
    go_loopg [11] 0 (fun dd kv wr => dd = 0 ∧ kv = .int .i64 0 ∧ Hid (Chg [] w wr))
    case atStart => exact ⟨rfl, rfl, hin2⟩
    case round =>
     obtain ⟨rfl, rfl, hin3⟩ := hrel
     obtain ⟨w3, rfl⟩ : ∃ wk, wk = wr := ⟨_, rfl⟩
     go_wp2_with fail
     go_loopg [14] 0 (fun dd kv wr => dd = 0 ∧ kv = .int .i64 0 ∧ Hid (Chg [] w wr))
     case atStart => exact ⟨rfl, rfl, hin3⟩
     case round =>
      obtain ⟨rfl, rfl, hin4⟩ := hrel
      obtain ⟨w4, rfl⟩ : ∃ wk, wk = wr := ⟨_, rfl⟩
      go_wp2_with fail
      go_ret
      exact ⟨rfl, hin4.out⟩

set_option maxRecDepth 100000 in
set_option maxHeartbeats 2000000 in
theorem flatTexts_nil (w : World) : Calls Tryz.prog 130 #[.slice none 0 0] w fun e w' => e = .returned (.bool true) ∧ Chg [] w w' := by
 obtain ⟨ob, hmk⟩ := made_none (t := 126) Tryz.underlying126 (by kernel_rfl)
 go_enter Tryz.func130, Tryz.ntmps130
 go_wp2_with fail
 go_loopg [3] 0 (fun dd kv wr => dd = 0 ∧ kv = .int .i64 0 ∧ Hid (Chg [] w wr))
 case atStart => exact ⟨rfl, rfl, Lib.hid (Chg.refl _ _)⟩
 case round =>
  obtain ⟨rfl, rfl, hin0⟩ := hrel
  obtain ⟨w0, rfl⟩ : ∃ wk, wk = wr := ⟨_, rfl⟩
  go_wp2_with fail
  go_loopg [6] 0 (fun dd kv wr => dd = 0 ∧ kv = .int .i64 0 ∧ Hid (Chg [] w wr))
  case atStart => exact ⟨rfl, rfl, Lib.hid (hin0.out.alloc ob)⟩
  case round =>
   obtain ⟨rfl, rfl, hin1⟩ := hrel
   obtain ⟨w1, rfl⟩ : ∃ wk, wk = wr := ⟨_, rfl⟩
   go_wp2_with fail
   go_loopg [9] 0 (fun dd kv wr => dd = 0 ∧ kv = .int .i64 0 ∧ Hid (Chg [] w wr))
   case atStart => exact ⟨rfl, rfl, hin1⟩
   case round =>
    obtain ⟨rfl, rfl, hin2⟩ := hrel
    obtain ⟨w2, rfl⟩ : ∃ wk, wk = wr := ⟨_, rfl⟩
    go_wp2_with fail
    go_loopg [11] 0 (fun dd kv wr => dd = 0 ∧ kv = .int .i64 0 ∧ Hid (Chg [] w wr))
    case atStart => exact ⟨rfl, rfl, hin2⟩
    case round =>
     obtain ⟨rfl, rfl, hin3⟩ := hrel
     obtain ⟨w3, rfl⟩ : ∃ wk, wk = wr := ⟨_, rfl⟩
     go_wp2_with fail
     go_loopg [14] 0 (fun dd kv wr => dd = 0 ∧ kv = .int .i64 0 ∧ Hid (Chg [] w wr))
     case atStart => exact ⟨rfl, rfl, hin3⟩
     case round =>
      obtain ⟨rfl, rfl, hin4⟩ := hrel
      obtain ⟨w4, rfl⟩ : ∃ wk, wk = wr := ⟨_, rfl⟩
      go_wp2_with fail
      go_ret
      exact ⟨rfl, hin4.out⟩

set_option maxRecDepth 100000 in
set_option maxHeartbeats 2000000 in
theorem flatBytes_nil (w : World) : Calls Tryz.prog 131 #[.slice none 0 0] w fun e w' => e = .returned (.bool true) ∧ Chg [] w w' := by
 obtain ⟨ob, hmk⟩ := made_none (t := 127) Tryz.underlying127 (by kernel_rfl)
 go_enter Tryz.func131, Tryz.ntmps131
 go_wp2_with fail
 go_loopg [3] 0 (fun dd kv wr => dd = 0 ∧ kv = .int .i64 0 ∧ Hid (Chg [] w wr))
 case atStart => exact ⟨rfl, rfl, Lib.hid (Chg.refl _ _)⟩
 case round =>
  obtain ⟨rfl, rfl, hin0⟩ := hrel
  obtain ⟨w0, rfl⟩ : ∃ wk, wk = wr := ⟨_, rfl⟩
  go_wp2_with fail
  go_loopg [6] 0 (fun dd kv wr => dd = 0 ∧ kv = .int .i64 0 ∧ Hid (Chg [] w wr))
  case atStart => exact ⟨rfl, rfl, Lib.hid (hin0.out.alloc ob)⟩
  case round =>
   obtain ⟨rfl, rfl, hin1⟩ := hrel
   obtain ⟨w1, rfl⟩ : ∃ wk, wk = wr := ⟨_, rfl⟩
   go_wp2_with fail
   go_loopg [9] 0 (fun dd kv wr => dd = 0 ∧ kv = .int .i64 0 ∧ Hid (Chg [] w wr))
   case atStart => exact ⟨rfl, rfl, hin1⟩
   case round =>
    obtain ⟨rfl, rfl, hin2⟩ := hrel
    obtain ⟨w2, rfl⟩ : ∃ wk, wk = wr := ⟨_, rfl⟩
    go_wp2_with fail
    go_loopg [11] 0 (fun dd kv wr => dd = 0 ∧ kv = .int .i64 0 ∧ Hid (Chg [] w wr))
    case atStart => exact ⟨rfl, rfl, hin2⟩
    case round =>
     obtain ⟨rfl, rfl, hin3⟩ := hrel
     obtain ⟨w3, rfl⟩ : ∃ wk, wk = wr := ⟨_, rfl⟩
     go_wp2_with fail
     go_loopg [14] 0 (fun dd kv wr => dd = 0 ∧ kv = .int .i64 0 ∧ Hid (Chg [] w wr))
     case atStart => exact ⟨rfl, rfl, hin3⟩
     case round =>
      obtain ⟨rfl, rfl, hin4⟩ := hrel
      obtain ⟨w4, rfl⟩ : ∃ wk, wk = wr := ⟨_, rfl⟩
      go_wp2_with fail
      go_ret
      exact ⟨rfl, hin4.out⟩

set_option maxRecDepth 100000 in
set_option maxHeartbeats 2000000 in
theorem flatTruths_nil (w : World) : Calls Tryz.prog 132 #[.slice none 0 0] w fun e w' => e = .returned (.bool true) ∧ Chg [] w w' := by
 obtain ⟨ob, hmk⟩ := made_none (t := 128) Tryz.underlying128 (by kernel_rfl)
 go_enter Tryz.func132, Tryz.ntmps132
 go_wp2_with fail
 go_loopg [3] 0 (fun dd kv wr => dd = 0 ∧ kv = .int .i64 0 ∧ Hid (Chg [] w wr))
 case atStart => exact ⟨rfl, rfl, Lib.hid (Chg.refl _ _)⟩
 case round =>
  obtain ⟨rfl, rfl, hin0⟩ := hrel
  obtain ⟨w0, rfl⟩ : ∃ wk, wk = wr := ⟨_, rfl⟩
  go_wp2_with fail
  go_loopg [6] 0 (fun dd kv wr => dd = 0 ∧ kv = .int .i64 0 ∧ Hid (Chg [] w wr))
  case atStart => exact ⟨rfl, rfl, Lib.hid (hin0.out.alloc ob)⟩
  case round =>
   obtain ⟨rfl, rfl, hin1⟩ := hrel
   obtain ⟨w1, rfl⟩ : ∃ wk, wk = wr := ⟨_, rfl⟩
   go_wp2_with fail
   go_loopg [9] 0 (fun dd kv wr => dd = 0 ∧ kv = .int .i64 0 ∧ Hid (Chg [] w wr))
   case atStart => exact ⟨rfl, rfl, hin1⟩
   case round =>
    obtain ⟨rfl, rfl, hin2⟩ := hrel
    obtain ⟨w2, rfl⟩ : ∃ wk, wk = wr := ⟨_, rfl⟩
    go_wp2_with fail
    go_loopg [11] 0 (fun dd kv wr => dd = 0 ∧ kv = .int .i64 0 ∧ Hid (Chg [] w wr))
    case atStart => exact ⟨rfl, rfl, hin2⟩
    case round =>
     obtain ⟨rfl, rfl, hin3⟩ := hrel
     obtain ⟨w3, rfl⟩ : ∃ wk, wk = wr := ⟨_, rfl⟩
     go_wp2_with fail
     go_loopg [14] 0 (fun dd kv wr => dd = 0 ∧ kv = .int .i64 0 ∧ Hid (Chg [] w wr))
     case atStart => exact ⟨rfl, rfl, hin3⟩
     case round =>
      obtain ⟨rfl, rfl, hin4⟩ := hrel
      obtain ⟨w4, rfl⟩ : ∃ wk, wk = wr := ⟨_, rfl⟩
      go_wp2_with fail
      go_ret
      exact ⟨rfl, hin4.out⟩

set_option maxRecDepth 100000 in
set_option maxHeartbeats 2000000 in
theorem flatTwigs_nil (w : World) : Calls Tryz.prog 133 #[.slice none 0 0] w fun e w' => e = .returned (.bool true) ∧ Chg [] w w' := by
 obtain ⟨ob, hmk⟩ := made_none (t := 129) Tryz.underlying129 (by kernel_rfl)
 go_enter Tryz.func133, Tryz.ntmps133
 go_wp2_with fail
 go_loopg [3] 0 (fun dd kv wr => dd = 0 ∧ kv = .int .i64 0 ∧ Hid (Chg [] w wr))
 case atStart => exact ⟨rfl, rfl, Lib.hid (Chg.refl _ _)⟩
 case round =>
  obtain ⟨rfl, rfl, hin0⟩ := hrel
  obtain ⟨w0, rfl⟩ : ∃ wk, wk = wr := ⟨_, rfl⟩
  go_wp2_with fail
  go_loopg [6] 0 (fun dd kv wr => dd = 0 ∧ kv = .int .i64 0 ∧ Hid (Chg [] w wr))
  case atStart => exact ⟨rfl, rfl, Lib.hid (hin0.out.alloc ob)⟩
  case round =>
   obtain ⟨rfl, rfl, hin1⟩ := hrel
   obtain ⟨w1, rfl⟩ : ∃ wk, wk = wr := ⟨_, rfl⟩
   go_wp2_with fail
   go_loopg [9] 0 (fun dd kv wr => dd = 0 ∧ kv = .int .i64 0 ∧ Hid (Chg [] w wr))
   case atStart => exact ⟨rfl, rfl, hin1⟩
   case round =>
    obtain ⟨rfl, rfl, hin2⟩ := hrel
    obtain ⟨w2, rfl⟩ : ∃ wk, wk = wr := ⟨_, rfl⟩
    go_wp2_with fail
    go_loopg [11] 0 (fun dd kv wr => dd = 0 ∧ kv = .int .i64 0 ∧ Hid (Chg [] w wr))
    case atStart => exact ⟨rfl, rfl, hin2⟩
    case round =>
     obtain ⟨rfl, rfl, hin3⟩ := hrel
     obtain ⟨w3, rfl⟩ : ∃ wk, wk = wr := ⟨_, rfl⟩
     go_wp2_with fail
     go_loopg [14] 0 (fun dd kv wr => dd = 0 ∧ kv = .int .i64 0 ∧ Hid (Chg [] w wr))
     case atStart => exact ⟨rfl, rfl, hin3⟩
     case round =>
      obtain ⟨rfl, rfl, hin4⟩ := hrel
      obtain ⟨w4, rfl⟩ : ∃ wk, wk = wr := ⟨_, rfl⟩
      go_wp2_with fail
      go_ret
      exact ⟨rfl, hin4.out⟩

set_option maxRecDepth 100000 in
set_option maxHeartbeats 2000000 in
theorem flatNodes_nil (w : World) : Calls Tryz.prog 134 #[.slice none 0 0] w fun e w' => e = .returned (.bool true) ∧ Chg [] w w' := by
 obtain ⟨ob, hmk⟩ := made_none (t := 41) Tryz.underlying41 (by kernel_rfl)
 go_enter Tryz.func134, Tryz.ntmps134
 go_wp2_with fail
 go_loopg [3] 0 (fun dd kv wr => dd = 0 ∧ kv = .int .i64 0 ∧ Hid (Chg [] w wr))
 case atStart => exact ⟨rfl, rfl, Lib.hid (Chg.refl _ _)⟩
 case round =>
  obtain ⟨rfl, rfl, hin0⟩ := hrel
  obtain ⟨w0, rfl⟩ : ∃ wk, wk = wr := ⟨_, rfl⟩
  go_wp2_with fail
  go_loopg [6] 0 (fun dd kv wr => dd = 0 ∧ kv = .int .i64 0 ∧ Hid (Chg [] w wr))
  case atStart => exact ⟨rfl, rfl, Lib.hid (hin0.out.alloc ob)⟩
  case round =>
   obtain ⟨rfl, rfl, hin1⟩ := hrel
   obtain ⟨w1, rfl⟩ : ∃ wk, wk = wr := ⟨_, rfl⟩
   go_wp2_with fail
   go_loopg [9] 0 (fun dd kv wr => dd = 0 ∧ kv = .int .i64 0 ∧ Hid (Chg [] w wr))
   case atStart => exact ⟨rfl, rfl, hin1⟩
   case round =>
    obtain ⟨rfl, rfl, hin2⟩ := hrel
    obtain ⟨w2, rfl⟩ : ∃ wk, wk = wr := ⟨_, rfl⟩
    go_wp2_with fail
    go_loopg [11] 0 (fun dd kv wr => dd = 0 ∧ kv = .int .i64 0 ∧ Hid (Chg [] w wr))
    case atStart => exact ⟨rfl, rfl, hin2⟩
    case round =>
     obtain ⟨rfl, rfl, hin3⟩ := hrel
     obtain ⟨w3, rfl⟩ : ∃ wk, wk = wr := ⟨_, rfl⟩
     go_wp2_with fail
     go_loopg [14] 0 (fun dd kv wr => dd = 0 ∧ kv = .int .i64 0 ∧ Hid (Chg [] w wr))
     case atStart => exact ⟨rfl, rfl, hin3⟩
     case round =>
      obtain ⟨rfl, rfl, hin4⟩ := hrel
      obtain ⟨w4, rfl⟩ : ∃ wk, wk = wr := ⟨_, rfl⟩
      go_wp2_with fail
      go_ret
      exact ⟨rfl, hin4.out⟩

set_option maxRecDepth 100000 in
set_option maxHeartbeats 2000000 in
theorem flatRules_nil (w : World) : Calls Tryz.prog 135 #[.slice none 0 0] w fun e w' => e = .returned (.bool true) ∧ Chg [] w w' := by
 obtain ⟨ob, hmk⟩ := made_none (t := 130) Tryz.underlying130 (by kernel_rfl)
 go_enter Tryz.func135, Tryz.ntmps135
 go_wp2_with fail
 go_loopg [3] 0 (fun dd kv wr => dd = 0 ∧ kv = .int .i64 0 ∧ Hid (Chg [] w wr))
 case atStart => exact ⟨rfl, rfl, Lib.hid (Chg.refl _ _)⟩
 case round =>
  obtain ⟨rfl, rfl, hin0⟩ := hrel
  obtain ⟨w0, rfl⟩ : ∃ wk, wk = wr := ⟨_, rfl⟩
  go_wp2_with fail
  go_loopg [6] 0 (fun dd kv wr => dd = 0 ∧ kv = .int .i64 0 ∧ Hid (Chg [] w wr))
  case atStart => exact ⟨rfl, rfl, Lib.hid (hin0.out.alloc ob)⟩
  case round =>
   obtain ⟨rfl, rfl, hin1⟩ := hrel
   obtain ⟨w1, rfl⟩ : ∃ wk, wk = wr := ⟨_, rfl⟩
   go_wp2_with fail
   go_loopg [9] 0 (fun dd kv wr => dd = 0 ∧ kv = .int .i64 0 ∧ Hid (Chg [] w wr))
   case atStart => exact ⟨rfl, rfl, hin1⟩
   case round =>
    obtain ⟨rfl, rfl, hin2⟩ := hrel
    obtain ⟨w2, rfl⟩ : ∃ wk, wk = wr := ⟨_, rfl⟩
    go_wp2_with fail
    go_loopg [11] 0 (fun dd kv wr => dd = 0 ∧ kv = .int .i64 0 ∧ Hid (Chg [] w wr))
    case atStart => exact ⟨rfl, rfl, hin2⟩
    case round =>
     obtain ⟨rfl, rfl, hin3⟩ := hrel
     obtain ⟨w3, rfl⟩ : ∃ wk, wk = wr := ⟨_, rfl⟩
     go_wp2_with fail
     go_loopg [14] 0 (fun dd kv wr => dd = 0 ∧ kv = .int .i64 0 ∧ Hid (Chg [] w wr))
     case atStart => exact ⟨rfl, rfl, hin3⟩
     case round =>
      obtain ⟨rfl, rfl, hin4⟩ := hrel
      obtain ⟨w4, rfl⟩ : ∃ wk, wk = wr := ⟨_, rfl⟩
      go_wp2_with fail
      go_ret
      exact ⟨rfl, hin4.out⟩

set_option maxRecDepth 100000 in
set_option maxHeartbeats 2000000 in
theorem flatSpans_nil (w : World) : Calls Tryz.prog 136 #[.slice none 0 0] w fun e w' => e = .returned (.bool true) ∧ Chg [] w w' := by
 obtain ⟨ob, hmk⟩ := made_none (t := 131) Tryz.underlying131 (by kernel_rfl)
 go_enter Tryz.func136, Tryz.ntmps136
 go_wp2_with fail
 go_loopg [3] 0 (fun dd kv wr => dd = 0 ∧ kv = .int .i64 0 ∧ Hid (Chg [] w wr))
 case atStart => exact ⟨rfl, rfl, Lib.hid (Chg.refl _ _)⟩
 case round =>
  obtain ⟨rfl, rfl, hin0⟩ := hrel
  obtain ⟨w0, rfl⟩ : ∃ wk, wk = wr := ⟨_, rfl⟩
  go_wp2_with fail
  go_loopg [6] 0 (fun dd kv wr => dd = 0 ∧ kv = .int .i64 0 ∧ Hid (Chg [] w wr))
  case atStart => exact ⟨rfl, rfl, Lib.hid (hin0.out.alloc ob)⟩
  case round =>
   obtain ⟨rfl, rfl, hin1⟩ := hrel
   obtain ⟨w1, rfl⟩ : ∃ wk, wk = wr := ⟨_, rfl⟩
   go_wp2_with fail
   go_loopg [9] 0 (fun dd kv wr => dd = 0 ∧ kv = .int .i64 0 ∧ Hid (Chg [] w wr))
   case atStart => exact ⟨rfl, rfl, hin1⟩
   case round =>
    obtain ⟨rfl, rfl, hin2⟩ := hrel
    obtain ⟨w2, rfl⟩ : ∃ wk, wk = wr := ⟨_, rfl⟩
    go_wp2_with fail
    go_loopg [11] 0 (fun dd kv wr => dd = 0 ∧ kv = .int .i64 0 ∧ Hid (Chg [] w wr))
    case atStart => exact ⟨rfl, rfl, hin2⟩
    case round =>
     obtain ⟨rfl, rfl, hin3⟩ := hrel
     obtain ⟨w3, rfl⟩ : ∃ wk, wk = wr := ⟨_, rfl⟩
     go_wp2_with fail
     go_loopg [14] 0 (fun dd kv wr => dd = 0 ∧ kv = .int .i64 0 ∧ Hid (Chg [] w wr))
     case atStart => exact ⟨rfl, rfl, hin3⟩
     case round =>
      obtain ⟨rfl, rfl, hin4⟩ := hrel
      obtain ⟨w4, rfl⟩ : ∃ wk, wk = wr := ⟨_, rfl⟩
      go_wp2_with fail
      go_ret
      exact ⟨rfl, hin4.out⟩

set_option maxRecDepth 100000 in
set_option maxHeartbeats 2000000 in
theorem flatGrammars_nil (w : World) : Calls Tryz.prog 137 #[.slice none 0 0] w fun e w' => e = .returned (.bool true) ∧ Chg [] w w' := by
 obtain ⟨ob, hmk⟩ := made_none (t := 132) Tryz.underlying132 (by kernel_rfl)
 go_enter Tryz.func137, Tryz.ntmps137
 go_wp2_with fail
 go_loopg [3] 0 (fun dd kv wr => dd = 0 ∧ kv = .int .i64 0 ∧ Hid (Chg [] w wr))
 case atStart => exact ⟨rfl, rfl, Lib.hid (Chg.refl _ _)⟩
 case round =>
  obtain ⟨rfl, rfl, hin0⟩ := hrel
  obtain ⟨w0, rfl⟩ : ∃ wk, wk = wr := ⟨_, rfl⟩
  go_wp2_with fail
  go_loopg [6] 0 (fun dd kv wr => dd = 0 ∧ kv = .int .i64 0 ∧ Hid (Chg [] w wr))
  case atStart => exact ⟨rfl, rfl, Lib.hid (hin0.out.alloc ob)⟩
  case round =>
   obtain ⟨rfl, rfl, hin1⟩ := hrel
   obtain ⟨w1, rfl⟩ : ∃ wk, wk = wr := ⟨_, rfl⟩
   go_wp2_with fail
   go_loopg [9] 0 (fun dd kv wr => dd = 0 ∧ kv = .int .i64 0 ∧ Hid (Chg [] w wr))
   case atStart => exact ⟨rfl, rfl, hin1⟩
   case round =>
    obtain ⟨rfl, rfl, hin2⟩ := hrel
    obtain ⟨w2, rfl⟩ : ∃ wk, wk = wr := ⟨_, rfl⟩
    go_wp2_with fail
    go_loopg [11] 0 (fun dd kv wr => dd = 0 ∧ kv = .int .i64 0 ∧ Hid (Chg [] w wr))
    case atStart => exact ⟨rfl, rfl, hin2⟩
    case round =>
     obtain ⟨rfl, rfl, hin3⟩ := hrel
     obtain ⟨w3, rfl⟩ : ∃ wk, wk = wr := ⟨_, rfl⟩
     go_wp2_with fail
     go_loopg [14] 0 (fun dd kv wr => dd = 0 ∧ kv = .int .i64 0 ∧ Hid (Chg [] w wr))
     case atStart => exact ⟨rfl, rfl, hin3⟩
     case round =>
      obtain ⟨rfl, rfl, hin4⟩ := hrel
      obtain ⟨w4, rfl⟩ : ∃ wk, wk = wr := ⟨_, rfl⟩
      go_wp2_with fail
      go_ret
      exact ⟨rfl, hin4.out⟩

set_option maxRecDepth 100000 in
set_option maxHeartbeats 2000000 in
theorem flatFounds_nil (w : World) : Calls Tryz.prog 138 #[.slice none 0 0] w fun e w' => e = .returned (.bool true) ∧ Chg [] w w' := by
 obtain ⟨ob, hmk⟩ := made_none (t := 133) Tryz.underlying133 (by kernel_rfl)
 go_enter Tryz.func138, Tryz.ntmps138
 go_wp2_with fail
 go_loopg [3] 0 (fun dd kv wr => dd = 0 ∧ kv = .int .i64 0 ∧ Hid (Chg [] w wr))
 case atStart => exact ⟨rfl, rfl, Lib.hid (Chg.refl _ _)⟩
 case round =>
  obtain ⟨rfl, rfl, hin0⟩ := hrel
  obtain ⟨w0, rfl⟩ : ∃ wk, wk = wr := ⟨_, rfl⟩
  go_wp2_with fail
  go_loopg [6] 0 (fun dd kv wr => dd = 0 ∧ kv = .int .i64 0 ∧ Hid (Chg [] w wr))
  case atStart => exact ⟨rfl, rfl, Lib.hid (hin0.out.alloc ob)⟩
  case round =>
   obtain ⟨rfl, rfl, hin1⟩ := hrel
   obtain ⟨w1, rfl⟩ : ∃ wk, wk = wr := ⟨_, rfl⟩
   go_wp2_with fail
   go_loopg [9] 0 (fun dd kv wr => dd = 0 ∧ kv = .int .i64 0 ∧ Hid (Chg [] w wr))
   case atStart => exact ⟨rfl, rfl, hin1⟩
   case round =>
    obtain ⟨rfl, rfl, hin2⟩ := hrel
    obtain ⟨w2, rfl⟩ : ∃ wk, wk = wr := ⟨_, rfl⟩
    go_wp2_with fail
    go_loopg [11] 0 (fun dd kv wr => dd = 0 ∧ kv = .int .i64 0 ∧ Hid (Chg [] w wr))
    case atStart => exact ⟨rfl, rfl, hin2⟩
    case round =>
     obtain ⟨rfl, rfl, hin3⟩ := hrel
     obtain ⟨w3, rfl⟩ : ∃ wk, wk = wr := ⟨_, rfl⟩
     go_wp2_with fail
     go_loopg [14] 0 (fun dd kv wr => dd = 0 ∧ kv = .int .i64 0 ∧ Hid (Chg [] w wr))
     case atStart => exact ⟨rfl, rfl, hin3⟩
     case round =>
      obtain ⟨rfl, rfl, hin4⟩ := hrel
      obtain ⟨w4, rfl⟩ : ∃ wk, wk = wr := ⟨_, rfl⟩
      go_wp2_with fail
      go_ret
      exact ⟨rfl, hin4.out⟩

set_option maxRecDepth 100000 in
set_option maxHeartbeats 2000000 in
theorem flatEvents_nil (w : World) : Calls Tryz.prog 139 #[.slice none 0 0] w fun e w' => e = .returned (.bool true) ∧ Chg [] w w' := by
 obtain ⟨ob, hmk⟩ := made_none (t := 134) Tryz.underlying134 (by kernel_rfl)
 go_enter Tryz.func139, Tryz.ntmps139
 go_wp2_with fail
 go_loopg [3] 0 (fun dd kv wr => dd = 0 ∧ kv = .int .i64 0 ∧ Hid (Chg [] w wr))
 case atStart => exact ⟨rfl, rfl, Lib.hid (Chg.refl _ _)⟩
 case round =>
  obtain ⟨rfl, rfl, hin0⟩ := hrel
  obtain ⟨w0, rfl⟩ : ∃ wk, wk = wr := ⟨_, rfl⟩
  go_wp2_with fail
  go_loopg [6] 0 (fun dd kv wr => dd = 0 ∧ kv = .int .i64 0 ∧ Hid (Chg [] w wr))
  case atStart => exact ⟨rfl, rfl, Lib.hid (hin0.out.alloc ob)⟩
  case round =>
   obtain ⟨rfl, rfl, hin1⟩ := hrel
   obtain ⟨w1, rfl⟩ : ∃ wk, wk = wr := ⟨_, rfl⟩
   go_wp2_with fail
   go_loopg [9] 0 (fun dd kv wr => dd = 0 ∧ kv = .int .i64 0 ∧ Hid (Chg [] w wr))
   case atStart => exact ⟨rfl, rfl, hin1⟩
   case round =>
    obtain ⟨rfl, rfl, hin2⟩ := hrel
    obtain ⟨w2, rfl⟩ : ∃ wk, wk = wr := ⟨_, rfl⟩
    go_wp2_with fail
    go_loopg [11] 0 (fun dd kv wr => dd = 0 ∧ kv = .int .i64 0 ∧ Hid (Chg [] w wr))
    case atStart => exact ⟨rfl, rfl, hin2⟩
    case round =>
     obtain ⟨rfl, rfl, hin3⟩ := hrel
     obtain ⟨w3, rfl⟩ : ∃ wk, wk = wr := ⟨_, rfl⟩
     go_wp2_with fail
     go_loopg [14] 0 (fun dd kv wr => dd = 0 ∧ kv = .int .i64 0 ∧ Hid (Chg [] w wr))
     case atStart => exact ⟨rfl, rfl, hin3⟩
     case round =>
      obtain ⟨rfl, rfl, hin4⟩ := hrel
      obtain ⟨w4, rfl⟩ : ∃ wk, wk = wr := ⟨_, rfl⟩
      go_wp2_with fail
      go_ret
      exact ⟨rfl, hin4.out⟩

end Go.Proofs.YtlklmpjakeedcaaGreatDoor
set_option linter.unusedVariables false
set_option linter.unusedSimpArgs false
set_option linter.unnecessarySimpa false
namespace Go.Proofs.YtlklmpjakeedcaaGreatDoor
open Go.RowKit Go.MapKept Go.Shelf

/-- A bag that holds rows of numbers alone. -/
def bagAt (w : World) (B : Nat) (a : Option Addr) (k c : Nat) : Prop := w.heap[B]? = some (.cells #[.slice none 0 0, .slice none 0 0, .slice a k c, .slice none 0 0, .slice none 0 0, .slice none 0 0, .slice none 0 0, .slice none 0 0, .slice none 0 0, .slice none 0 0, .slice none 0 0, .slice none 0 0, .slice none 0 0, .slice none 0 0] 136 (0, 0))
def PutI (w : World) (B base : Nat) (k : Nat) (xs : List Value) (r : IR) (e : Ending) (w' : World) : Prop :=
 e = .returned (.tuple #[]) ∧ ∃ a' c', bagAt w' B a' (k + 1) c' ∧ w'.ownsRow base 34 1 (.slice a' (k + 1) c') (k + 1) (xs ++ [r.v]) ∧ ∀ w0 : World, Chg [] w0 w → w0.heap.size ≤ base → w0.heap.size ≤ B → Chg [] w0 w'

set_option maxRecDepth 100000 in
set_option maxHeartbeats 2000000 in
theorem putInts_any (w : World) (B base : Nat) (a : Option Addr) (k c : Nat) (xs : List Value) (r : IR) (hb : bagAt w B a k c) (hrow : w.ownsRow base 34 1 (.slice a k c) k xs) (hbase : base ≤ w.heap.size) (hk : k ≤ 400000) :
  Calls Tryz.prog 90 #[.pointer (some ⟨B, 0, none⟩), .slice r.a r.n r.c] w (PutI w B base k xs r) := by
 obtain ⟨j0, hj0, hy0, hy1, hy2⟩ := info_parts Tryz.infoRowI
 unfold bagAt at hb
 have x2 : w.cell? ⟨B, 2, none⟩ = some (.slice a k c) := cell_of_cells hb 2
 have hlt := lt_of_block hb
 have hca := (Chg.refl [] w).alloc (.cells #[.slice r.a r.n r.c] 34)
 have hrow2 := hca.row hrow (fun _ _ => by simp)
 have hnew := cells_at (w := w.alloc (.cells #[.slice r.a r.n r.c] 34)) (heap_alloc_same _ _)
 have h1 : ∀ u ∈ [Value.slice r.a r.n r.c], u.oneCell' = true := by simp [Value.oneCell']
 have h2 : k + 1 ≤ maxLen ∧ (k + 1) * 24 ≤ 140737488355328 := by simp only [maxLen]; omega
 have hb2 := hca.heap hb (by simp)
 have HA := Lib.hid (And.intro hrow2 (And.intro hnew (And.intro h1 (And.intro h2 (And.intro hb2 (And.intro hca hrow))))))
 have hbs : base ≤ (w.alloc (.cells #[.slice r.a r.n r.c] 34)).heap.size := Nat.le_trans hbase hca.size
 clear hrow2 hnew h1 h2 hb2 hca hb hrow
 go_enter Tryz.func90, Tryz.ntmps90
 go_wp2_with (at_builtin; refine wpList_append_own_at _ rfl _ _ 36 rfl base 34 j0 _ 1 24 Tryz.underlying36 hj0 hy0 hy1 hy2 rfl (by decide) (.slice a k c) k xs rfl HA.out.1 ⟨w.heap.size, 0, none⟩ 1 1 [.slice r.a r.n r.c] rfl rfl HA.out.2.1 HA.out.2.2.1 HA.out.2.2.2.1.1 HA.out.2.2.2.1.2 hbs ?_; intro v' w5 hr5 hg5 hn5 hb5; obtain ⟨a5, c5, rfl⟩ := ownsRow_slice hr5; have hB5 := grown_heap hg5 HA.out.2.2.2.2.1 (ownsRow_ne HA.out.1 HA.out.2.2.2.2.1 (by decide)); have q2 : w5.cell? ⟨B, 2, none⟩ = some (.slice a k c) := cell_of_cells hB5 2; have f2 := free_of_cells hB5 2; have HW := Lib.hid (And.intro hr5 (And.intro hg5 hB5)); clear hr5 hg5 hn5 hb5 hB5)
 refine bodyPost_ret (v := .tuple #[]) (by simp [results, Tryz.results90, go_sem]) rfl ?_
 have hset := heap_setCell_same HW.out.2.2 2 (.slice a5 (k + 1) c5)
 have hcS := (Chg.refl [B] w5).setCell (p := ⟨B, 2, none⟩) (.inl (by simp)) (.slice a5 (k + 1) c5)
 refine ⟨rfl, a5, c5, by simpa [bagAt] using hset, hcS.rowOf HW.out.1 (fun x hx => by simp only [List.mem_singleton] at hx; subst hx; exact .of_cells HW.out.2.2 (by decide)), fun w0 h0 hb0 hB0 => ?_⟩
 exact ((h0.tr HA.out.2.2.2.2.2.1).grown HW.out.2.1 (fun x hx => .inr (by have := (row_beyond HA.out.1 hx).1; omega))).setCell (p := ⟨B, 2, none⟩) (.inr hB0) _

set_option maxRecDepth 100000 in
set_option maxHeartbeats 8000000 in
theorem apartI_any (w : World) (B : Nat) (a : Option Addr) (N c : Nat) (S : List Nat) (R : Nat → IR) (hN : N ≤ 400000) (hlen : ∀ j, j < N → (R j).n ≤ 1000000000) (hb : bagAt w B a N c) (hls : Outer w a c N R) (hap : Apart N w S R) (hS : ∀ x ∈ S, x < w.heap.size) (hBS : B ∉ S) :
  Calls Tryz.prog 91 #[.pointer (some ⟨B, 0, none⟩)] w fun e w' => e = .returned (.bool true) ∧ Chg S w w' := by
 unfold bagAt at hb
 have H := Lib.hid (And.intro hlen (And.intro hls (And.intro hap (And.intro hb (Chg.refl S w)))))
 have HBS := Lib.hid hBS
 have HS := Lib.hid hS
 have x0 : w.cell? ⟨B, 0, none⟩ = some (.slice none 0 0) := cell_of_cells hb 0
 clear hlen hls hap hb hBS hS
 have H0 := Lib.hid (And.intro H.out.2.2.2.1 H.out.2.2.2.2)
 go_enter Tryz.func91, Tryz.ntmps91
 go_wp2_with fail
 refine (flatLimbs_nil _).mono ?_
 rintro e w1 ⟨rfl, h9⟩
 have H1 := Lib.hid (And.intro (h9.heap H0.out.1 (by simp)) (H0.out.2.tr0 h9))
 have HC1 := Lib.hid h9
 clear h9 x0
 have x1 : w1.cell? ⟨B, 1, none⟩ = some (.slice none 0 0) := cell_of_cells H1.out.1 1
 go_wp2_with fail
 refine (flatWords_nil _).mono ?_
 rintro e w2 ⟨rfl, h9⟩
 have H2 := Lib.hid (And.intro (h9.heap H1.out.1 (by simp)) (H1.out.2.tr0 h9))
 have HC2 := Lib.hid (HC1.out.tr h9)
 clear h9 x1
 have x2 : w2.cell? ⟨B, 2, none⟩ = some (.slice a N c) := cell_of_cells H2.out.1 2
 go_wp2_with fail
 refine (flatInts_any w2 a c N S R hN H.out.1 (H.out.2.1.chg0 HC2.out) ⟨fun j hj => (H.out.2.2.1.row j hj).chg HC2.out (by simp), H.out.2.2.1.apart, H.out.2.2.1.mem, fun x hx => by
  have := H.out.2.2.1.all x hx
  exact NotRow.keep0 this HC2.out (HS.out x hx)⟩).mono ?_
 rintro e w3 ⟨rfl, h9⟩
 have H3 := Lib.hid (And.intro (h9.heap H2.out.1 HBS.out) (H2.out.2.tr h9))
 clear h9 x2
 have x3 : w3.cell? ⟨B, 3, none⟩ = some (.slice none 0 0) := cell_of_cells H3.out.1 3
 go_wp2_with fail
 refine (flatLongs_nil _).mono ?_
 rintro e w4 ⟨rfl, h9⟩
 have H4 := Lib.hid (And.intro (h9.heap H3.out.1 (by simp)) (H3.out.2.tr0 h9))
 clear h9 x3
 have x4 : w4.cell? ⟨B, 4, none⟩ = some (.slice none 0 0) := cell_of_cells H4.out.1 4
 go_wp2_with fail
 refine (flatTexts_nil _).mono ?_
 rintro e w5 ⟨rfl, h9⟩
 have H5 := Lib.hid (And.intro (h9.heap H4.out.1 (by simp)) (H4.out.2.tr0 h9))
 clear h9 x4
 have x5 : w5.cell? ⟨B, 5, none⟩ = some (.slice none 0 0) := cell_of_cells H5.out.1 5
 go_wp2_with fail
 refine (flatBytes_nil _).mono ?_
 rintro e w6 ⟨rfl, h9⟩
 have H6 := Lib.hid (And.intro (h9.heap H5.out.1 (by simp)) (H5.out.2.tr0 h9))
 clear h9 x5
 have x6 : w6.cell? ⟨B, 6, none⟩ = some (.slice none 0 0) := cell_of_cells H6.out.1 6
 go_wp2_with fail
 refine (flatTruths_nil _).mono ?_
 rintro e w7 ⟨rfl, h9⟩
 have H7 := Lib.hid (And.intro (h9.heap H6.out.1 (by simp)) (H6.out.2.tr0 h9))
 clear h9 x6
 have x7 : w7.cell? ⟨B, 7, none⟩ = some (.slice none 0 0) := cell_of_cells H7.out.1 7
 go_wp2_with fail
 refine (flatTwigs_nil _).mono ?_
 rintro e w8 ⟨rfl, h9⟩
 have H8 := Lib.hid (And.intro (h9.heap H7.out.1 (by simp)) (H7.out.2.tr0 h9))
 clear h9 x7
 have x8 : w8.cell? ⟨B, 8, none⟩ = some (.slice none 0 0) := cell_of_cells H8.out.1 8
 go_wp2_with fail
 refine (flatNodes_nil _).mono ?_
 rintro e w9 ⟨rfl, h9⟩
 have H9 := Lib.hid (And.intro (h9.heap H8.out.1 (by simp)) (H8.out.2.tr0 h9))
 clear h9 x8
 have x9 : w9.cell? ⟨B, 9, none⟩ = some (.slice none 0 0) := cell_of_cells H9.out.1 9
 go_wp2_with fail
 refine (flatRules_nil _).mono ?_
 rintro e w10 ⟨rfl, h9⟩
 have H10 := Lib.hid (And.intro (h9.heap H9.out.1 (by simp)) (H9.out.2.tr0 h9))
 clear h9 x9
 have x10 : w10.cell? ⟨B, 10, none⟩ = some (.slice none 0 0) := cell_of_cells H10.out.1 10
 go_wp2_with fail
 refine (flatSpans_nil _).mono ?_
 rintro e w11 ⟨rfl, h9⟩
 have H11 := Lib.hid (And.intro (h9.heap H10.out.1 (by simp)) (H10.out.2.tr0 h9))
 clear h9 x10
 have x11 : w11.cell? ⟨B, 11, none⟩ = some (.slice none 0 0) := cell_of_cells H11.out.1 11
 go_wp2_with fail
 refine (flatGrammars_nil _).mono ?_
 rintro e w12 ⟨rfl, h9⟩
 have H12 := Lib.hid (And.intro (h9.heap H11.out.1 (by simp)) (H11.out.2.tr0 h9))
 clear h9 x11
 have x12 : w12.cell? ⟨B, 12, none⟩ = some (.slice none 0 0) := cell_of_cells H12.out.1 12
 go_wp2_with fail
 refine (flatFounds_nil _).mono ?_
 rintro e w13 ⟨rfl, h9⟩
 have H13 := Lib.hid (And.intro (h9.heap H12.out.1 (by simp)) (H12.out.2.tr0 h9))
 clear h9 x12
 have x13 : w13.cell? ⟨B, 13, none⟩ = some (.slice none 0 0) := cell_of_cells H13.out.1 13
 go_wp2_with fail
 refine (flatEvents_nil _).mono ?_
 rintro e w14 ⟨rfl, h9⟩
 have H14 := Lib.hid (And.intro (h9.heap H13.out.1 (by simp)) (H13.out.2.tr0 h9))
 clear h9 x13
 go_wp2_with fail
 go_ret
 exact ⟨rfl, H14.out.2⟩

set_option maxRecDepth 100000 in
set_option maxHeartbeats 4000000 in
theorem ApartInts_any (w : World) (a : Option Addr) (N c : Nat) (S : List Nat) (R : Nat → IR) (hN : N ≤ 400000) (hlen : ∀ j, j < N → (R j).n ≤ 1000000000) (hcells : ∀ j, j < N → ∃ b o, a = some ⟨b, o, none⟩ ∧ w.cell? ⟨b, o + j, none⟩ = some (R j).v) (hNc : N ≤ c) (hcm : c ≤ maxLen) (hap : Apart N w S R) (hS : ∀ x ∈ S, x < w.heap.size) :
  Calls Tryz.prog 54 #[.slice a N c] w fun e w' => e = .returned (.bool true) ∧ Chg S w w' := by
 have H := Lib.hid (And.intro hlen (And.intro hcells (And.intro hap hS)))
 have hcm' : c ≤ 9223372036854775807 := by simp only [maxLen] at hcm; exact hcm
 clear hlen hcells hap hcm hS
 go_enter Tryz.func54, Tryz.ntmps54
 go_wp2_with fail
 obtain ⟨B, hB⟩ : ∃ B, B = w.heap.size := ⟨_, rfl⟩
 have h0 := heap_alloc_same w (.cells #[.slice none 0 0, .slice none 0 0, .slice none 0 0, .slice none 0 0, .slice none 0 0, .slice none 0 0, .slice none 0 0, .slice none 0 0, .slice none 0 0, .slice none 0 0, .slice none 0 0, .slice none 0 0, .slice none 0 0, .slice none 0 0] 136)
 rw [← hB] at h0 ⊢
 have HB := Lib.hid (And.intro h0 (And.intro ((Chg.refl [] w).alloc (.cells #[.slice none 0 0, .slice none 0 0, .slice none 0 0, .slice none 0 0, .slice none 0 0, .slice none 0 0, .slice none 0 0, .slice none 0 0, .slice none 0 0, .slice none 0 0, .slice none 0 0, .slice none 0 0, .slice none 0 0, .slice none 0 0] 136)) hB))
 clear h0 hB
 go_loopg [4] N (fun dd kv wr => ∃ k : Nat, dd = N - k ∧ k ≤ N ∧ kv = .int .i64 k ∧ Hid (∃ a' c', bagAt wr B a' k c' ∧ wr.ownsRow w.heap.size 34 1 (.slice a' k c') k ((List.range k).map fun j => (R j).v) ∧ Chg [] w wr))
 case atStart => exact ⟨0, rfl, Nat.zero_le _, rfl, Lib.hid ⟨none, 0, HB.out.1, World.ownsRow_nil _ _ _ _, HB.out.2.1⟩⟩
 case round =>
  obtain ⟨k, rfl, hk, rfl, hin⟩ := hrel
  obtain ⟨wk, rfl⟩ : ∃ wk, wk = wr := ⟨_, rfl⟩
  obtain ⟨a', c', hb, hrow, hcw⟩ := hin.out
  by_cases hkl : k < N
  ·obtain ⟨b, off, rfl, hcell⟩ := H.out.2.1 k hkl
   have hcell2 := hcw.cell hcell (by simp)
   have hp := putInts_any wk B w.heap.size a' k c' _ (R k) hb hrow hcw.size (by omega)
   have hrv : (R k).v = .slice (R k).a (R k).n (R k).c := rfl
   rw [hrv] at hcell2
   have hk1 : (k : Int) < c := by omega
   have HC := Lib.hid hcw
   clear hcell hrv hb hrow hcw hin
   go_wp2_with fail
   refine hp.mono ?_
   rintro e w2 ⟨rfl, a2, c2, h1, h2, h3⟩
   have HP := Lib.hid (And.intro h1 (And.intro h2 (h3 w HC.out (Nat.le_refl _) (by rw [HB.out.2.2]; exact Nat.le_refl _))))
   clear h1 h2 h3 hp hcell2
   go_wp2_with fail
   go_roundg (N - (k + 1))
   case measure => omega
   case rel => exact ⟨k + 1, rfl, by omega, by go_num, Lib.hid ⟨a2, c2, HP.out.1, by rw [List.range_succ, List.map_append]; exact HP.out.2.1, HP.out.2.2⟩⟩
  ·obtain rfl : k = N := by omega
   have hap : Apart k wk S R := ⟨fun j hj => (H.out.2.2.1.row j hj).chg hcw (by simp), H.out.2.2.1.apart, H.out.2.2.1.mem, fun x hx => NotRow.keep0 (H.out.2.2.1.all x hx) hcw (H.out.2.2.2 x hx)⟩
   have hcall := apartI_any wk B a' k c' S R hN H.out.1 hb (row_base hrow (Nat.zero_le _)) hap (fun x hx => Nat.lt_of_lt_of_le (H.out.2.2.2 x hx) hcw.size) (fun hm => by have := H.out.2.2.2 B hm; have := HB.out.2.2; omega)
   have HC := Lib.hid hcw
   clear hb hrow hcw hap hin
   go_wp2_with fail
   refine hcall.mono ?_
   rintro e w2 ⟨rfl, h2⟩
   have HP := Lib.hid (HC.out.any.tr h2)
   clear h2 hcall
   go_wp2_with fail
   go_ret
   exact ⟨rfl, HP.out⟩
end Go.Proofs.YtlklmpjakeedcaaGreatDoor

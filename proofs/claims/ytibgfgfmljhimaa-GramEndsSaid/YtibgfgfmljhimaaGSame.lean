/-
  Two rules compared.
  Conditions: none.
-/
import Derived.Laws.StructEq
import Derived.Test.YtibgfgfmljhimaaGCopy
set_option linter.unusedVariables false
set_option linter.unusedSimpArgs false
namespace Go.Proofs.Ytibgfgfmljhimaa
open Go.RowKit Go.MapKept Go.Shelf
theorem Try.ruleFields : Try.prog.underlying 46 = some (.struct (Try.prog.fieldsOf 46)) := by kernel_rfl
theorem Try.ruleStood : Try.prog.stoodInHeld 46 = false := by kernel_rfl
@[go_sem] theorem Try.ruleGuard (op : BinOp) (x y : Operand) (xs ys : Array Value) (w : World) : (eqGuard op 46 x y (.agg xs) (.agg ys)).run Try.prog w = .ok () w := run_eqGuard_agg w op _ x y xs ys (by kernel_rfl)
@[go_sem] theorem rule_eq (a a' : ByteArray) (b b' : Int) (w : World) :
    (Op.equalIn 10000 46 (.agg #[.string a, .int .i64 b]) (.agg #[.string a', .int .i64 b'])).run Try.prog w = .ok (decide (a.toList = a'.toList ∧ b = b')) w := by
  rw [show (10000 : Nat) = 9999 + 1 from rfl, run_equalIn_struct w 9999 _ _ _ Try.ruleFields Try.ruleStood]
  simp only [Program.fieldsOf, Try.underlying46]
  have e1 := fun (w : World) => run_equalIn_string (P := Try.prog) w 9998 9 a a' Try.underlying9
  have e2 := fun (w : World) => run_equalIn_int (P := Try.prog) w 9998 3 .i64 .i64 b b' Try.underlying3
  simp only [Op.eqFields]
  simp [part, isAgg, run_underlying Try.underlying9, run_underlying Try.underlying3, e1, e2]
  by_cases h1 : a.toList = a'.toList <;> by_cases h2 : b = b' <;> simp [h1, h2, isAgg, run_underlying Try.underlying9, run_underlying Try.underlying3, e1, e2]
end Go.Proofs.Ytibgfgfmljhimaa
set_option linter.unusedVariables false
set_option linter.unusedSimpArgs false
namespace Go.Proofs.Ytibgfgfmljhimaa
open Go.RowKit Go.MapKept Go.Shelf

/-- Two nodes, field by field. -/
def sameN (x y : Nd) : Bool := decide (x.k = y.k ∧ (x.c0 = y.c0 ∧ x.c1 = y.c1 ∧ x.c2 = y.c2 ∧ x.c3 = y.c3) ∧ x.s.toList = y.s.toList ∧ x.r = y.r ∧ x.l = y.l ∧ x.kids = y.kids)
theorem sameN_refl (x : Nd) : sameN x x = true := by simp [sameN]

structure SameAt (w : World) (B : Nat) (vx vy : Array Value) (t : TypeId) (wr : World) : Prop where
  bx : wr.heap[B]? = some (.cells vx t (0, 0))
  bY : wr.heap[B + 1]? = some (.cells vy t (0, 0))
  ch : Chg [] w wr
theorem SameAt.new (w : World) (vx vy : Array Value) (t : TypeId) : SameAt w w.heap.size vx vy t ((w.alloc (.cells vx t)).alloc (.cells vy t)) :=
  ⟨heap_alloc_lt (heap_alloc_same _ _) _, by have := heap_alloc_same (w.alloc (.cells vx t)) (.cells vy t); rw [World.size_alloc] at this; exact this, ((Chg.refl _ _).alloc _).alloc _⟩
theorem SameAt.keep {w wr w' : World} {B : Nat} {vx vy : Array Value} {t : TypeId} (h : SameAt w B vx vy t wr) (hc : Chg [] wr w') : SameAt w B vx vy t w' := ⟨hc.heap h.bx (by simp), hc.heap h.bY (by simp), h.ch.tr hc⟩

set_option maxRecDepth 100000 in
set_option maxHeartbeats 2000000 in
theorem SameNode_any (w : World) (x y : Nd) (a b : Option Addr) (n c m d' : Nat) (hn : n = x.kids.length) (hm : m = y.kids.length) (hs : n ≤ 9223372036854775807) (hx : Ints w a x.kids) (hy : Ints w b y.kids) :
    Calls Try.prog 92 #[.agg (x.cells a n c), .agg (y.cells b m d')] w fun e w' => e = .returned (.bool (sameN x y)) ∧ Chg [] w w' := by
  obtain ⟨R, hR⟩ : ∃ R, R = sameN x y := ⟨_, rfl⟩
  rw [← hR]
  have H := Lib.hid (And.intro hn (And.intro hm (And.intro hx (And.intro hy hR))))
  clear hn hm hx hy hR
  unfold Nd.cells
  obtain ⟨xk, x0, x1, x2, x3, xs, xr, xl, xkids⟩ := x
  obtain ⟨yk, y0, y1, y2, y3, ys, yr, yl, ykids⟩ := y
  dsimp only at H ⊢
  go_enter Try.func92, Try.ntmps92
  go_wp2_with fail
  all_goals try (go_ret; refine ⟨ret_bool ?_, ((Chg.refl _ _).alloc _).alloc _⟩; have hR := H.out.2.2.2.2; have h1 := H.out.1; have h2 := H.out.2.1; clear H; rw [hR, sameN]; simp only [beq_iff_eq, beq_eq_false_iff_ne, bne_iff_ne, ne_eq, decide_eq_true_eq, decide_eq_false_iff_not] at *; grind)
  rename_i e5 e4 e3 e2 e1 e0 _ _
  have HE := Lib.hid (And.intro e5 (And.intro e4 (And.intro e3 (And.intro e2 (And.intro e1 e0)))))
  clear e5 e4 e3 e2 e1 e0
  go_loopg [5] n (fun d iv wr => ∃ k : Nat, d = n - k ∧ k ≤ n ∧ iv = .int .i64 k ∧ Hid (SameAt w w.heap.size #[.int .i64 yk, .int .u64 y0, .int .u64 y1, .int .u64 y2, .int .u64 y3, .string xs, .int .i64 yr, .int .i64 yl, .slice a n c] #[.int .i64 yk, .int .u64 y0, .int .u64 y1, .int .u64 y2, .int .u64 y3, .string ys, .int .i64 yr, .int .i64 yl, .slice b m d'] 32 wr ∧ xkids.take k = ykids.take k))
  case atStart => exact ⟨0, rfl, Nat.zero_le _, rfl, Lib.hid ⟨SameAt.new _ _ _ _, rfl⟩⟩
  case round =>
    obtain ⟨k, rfl, hk, rfl, hin⟩ := hrel
    obtain ⟨wq, rfl⟩ : ∃ wq, wq = wr := ⟨_, rfl⟩
    have x8 := (cells9 hin.out.1.bx).2.2.2.2.2.2.2.2
    have y8 := (cells9 hin.out.1.bY).2.2.2.2.2.2.2.2
    by_cases hlt : k < n
    · have hkx : k < xkids.length := by have := H.out.1; omega
      have hnm : n = m := by have h := HE.out.2.2.2.2.2; simp at h; omega
      have hky : k < ykids.length := by have := H.out.2.1; omega
      have hlm : k < m := by omega
      obtain ⟨bx, ox, rfl, hx⟩ := H.out.2.2.1 k hkx
      obtain ⟨by', oy, rfl, hy⟩ := H.out.2.2.2.1 k hky
      have hx := hin.out.1.ch.kp.2 _ _ hx
      have hy := hin.out.1.ch.kp.2 _ _ hy
      obtain ⟨zx, hzx⟩ : ∃ z, z = xkids[k] := ⟨_, rfl⟩
      obtain ⟨zy, hzy⟩ : ∃ z, z = ykids[k] := ⟨_, rfl⟩
      rw [← hzx] at hx
      rw [← hzy] at hy
      have HZ := Lib.hid (And.intro hzx (And.intro hzy hnm))
      clear hzx hzy hnm
      go_wp2_with fail
      go_quiet (fail)
      go_wp2_with fail
      · go_ret
        rename_i hz
        refine ⟨ret_bool ?_, hin.out.1.ch.drewN _⟩
        rw [H.out.2.2.2.2, sameN]
        symm
        rw [decide_eq_false_iff_not]
        rintro ⟨_, _, _, _, _, hkk⟩
        dsimp only at hkk
        have : zx = zy := by rw [HZ.out.1, HZ.out.2.1]; simp only [hkk]
        simp [this] at hz
      · go_roundg (n - (k + 1))
        case measure => omega
        case rel =>
          rename_i hz
          refine ⟨k + 1, rfl, by omega, by go_num, Lib.hid ⟨hin.out.1.keep ((Chg.refl _ _).drewN _), ?_⟩⟩
          have : zx = zy := by simpa using hz
          rw [List.take_succ_eq_append_getElem hkx, List.take_succ_eq_append_getElem hky, hin.out.2, ← HZ.out.1, ← HZ.out.2.1, this]
    · obtain rfl : k = n := by omega
      go_wp2
      go_ret
      refine ⟨ret_bool ?_, hin.out.1.ch⟩
      rw [H.out.2.2.2.2, sameN]
      symm
      rw [decide_eq_true_eq]
      have hkk := hin.out.2
      have h1 := H.out.1
      have h2 := H.out.2.1
      have h := HE.out.2.2.2.2.2
      simp at h
      have h' : k = m := by omega
      rw [List.take_of_length_le (by omega), List.take_of_length_le (by omega)] at hkk
      exact ⟨HE.out.1, HE.out.2.1, HE.out.2.2.1, HE.out.2.2.2.1, HE.out.2.2.2.2.1, hkk⟩
end Go.Proofs.Ytibgfgfmljhimaa

/-
 Two rules compared.
 Conditions: none.
-/
import Derived.Test.YtlklmpjakeedcaaGreatDoorSEnGFresh
import Derived.Laws.StructEq
import Derived.Test.YtlklmpjakeedcaaGreatDoorSEnLfD
set_option linter.unusedVariables false
set_option linter.unusedSimpArgs false
namespace Go.Proofs.YtlklmpjakeedcaaGreatDoor
open Go.RowKit Go.MapKept Go.Shelf
theorem Tryz.ruleFields : Tryz.prog.underlying 53 = some (.struct (Tryz.prog.fieldsOf 53)) := by kernel_rfl
theorem Tryz.ruleStood : Tryz.prog.stoodInHeld 53 = false := by kernel_rfl
@[go_sem] theorem Tryz.ruleGuard (op : BinOp) (x y : Operand) (xs ys : Array Value) (w : World) : (eqGuard op 53 x y (.agg xs) (.agg ys)).run Tryz.prog w = .ok () w := run_eqGuard_agg w op _ x y xs ys (by kernel_rfl)
@[go_sem] theorem rule_eq (a a' : ByteArray) (b b' : Int) (w : World) :
  (Op.equalIn 10000 53 (.agg #[.string a, .int .i64 b]) (.agg #[.string a', .int .i64 b'])).run Tryz.prog w = .ok (decide (a.toList = a'.toList ∧ b = b')) w := by
 rw [show (10000 : Nat) = 9999 + 1 from rfl, run_equalIn_struct w 9999 _ _ _ Tryz.ruleFields Tryz.ruleStood]
 simp only [Program.fieldsOf, Tryz.underlying53]
 have e1 := fun (w : World) => run_equalIn_string (P := Tryz.prog) w 9998 9 a a' Tryz.underlying9
 have e2 := fun (w : World) => run_equalIn_int (P := Tryz.prog) w 9998 3 .i64 .i64 b b' Tryz.underlying3
 simp only [Op.eqFields]
 simp [part, isAgg, run_underlying Tryz.underlying9, run_underlying Tryz.underlying3, e1, e2]
 by_cases h1 : a.toList = a'.toList <;> by_cases h2 : b = b' <;> simp [h1, h2, isAgg, run_underlying Tryz.underlying9, run_underlying Tryz.underlying3, e1, e2]
end Go.Proofs.YtlklmpjakeedcaaGreatDoor
set_option linter.unusedVariables false
set_option linter.unusedSimpArgs false
namespace Go.Proofs.YtlklmpjakeedcaaGreatDoor
open Go.RowKit Go.MapKept Go.Shelf

/-- Two nodes, field by field. -/
def sameN (x y : Nd) : Bool := decide (x.k = y.k ∧ (x.c0 = y.c0 ∧ x.c1 = y.c1 ∧ x.c2 = y.c2 ∧ x.c3 = y.c3) ∧ x.s.toList = y.s.toList ∧ x.r = y.r ∧ x.l = y.l ∧ x.kids = y.kids)
theorem sameN_refl (x : Nd) : sameN x x = true := by simp [sameN]

end Go.Proofs.YtlklmpjakeedcaaGreatDoor
set_option linter.unusedVariables false
set_option linter.unusedSimpArgs false
namespace Go.Proofs.YtlklmpjakeedcaaGreatDoor
open Go.RowKit Go.MapKept Go.Shelf

def sameR (r q : Rl) : Bool := decide (r.name.toList = q.name.toList ∧ r.body = q.body)
def sameRs : List Rl → List Rl → Bool
 | [], [] => true
 | r :: rs, q :: qs => sameR r q && sameRs rs qs
 | _, _ => false
def sameNs : List Nd → List Nd → Bool
 | [], [] => true
 | x :: xs, y :: ys => sameN x y && sameNs xs ys
 | _, _ => false
def sameG (g h : Gr) : Bool := sameRs g.rules h.rules && sameNs g.nodes h.nodes
theorem sameRs_refl (l : List Rl) : sameRs l l = true := by
 induction l with
 | nil => rfl
 | cons r rs ih => simp [sameRs, sameR, ih]
theorem sameNs_refl (l : List Nd) : sameNs l l = true := by
 induction l with
 | nil => rfl
 | cons r rs ih => simp [sameNs, sameN_refl, ih]
theorem sameG_refl (g : Gr) : sameG g g = true := by simp [sameG, sameRs_refl, sameNs_refl]
theorem sameRs_iff (l m : List Rl) : sameRs l m = true ↔ l.length = m.length ∧ ∀ i (h : i < l.length) (h' : i < m.length), sameR l[i] m[i] = true := by
 induction l generalizing m with
 | nil => cases m with
  | nil => simp [sameRs]
  | cons _ _ => simp [sameRs]
 | cons r rs ih => cases m with
  | nil => simp [sameRs]
  | cons q qs =>
   simp only [sameRs, Bool.and_eq_true, ih, List.length_cons, Nat.add_right_cancel_iff]
   constructor
   ·rintro ⟨h1, h2, h3⟩
    refine ⟨h2, fun i hi hi' => ?_⟩
    cases i with
    | zero => exact h1
    | succ i => exact h3 i (by omega) (by omega)
   ·rintro ⟨h1, h2⟩
    exact ⟨h2 0 (by omega) (by omega), h1, fun i hi hi' => h2 (i + 1) (by omega) (by omega)⟩
theorem sameNs_iff (l m : List Nd) : sameNs l m = true ↔ l.length = m.length ∧ ∀ i (h : i < l.length) (h' : i < m.length), sameN l[i] m[i] = true := by
 induction l generalizing m with
 | nil => cases m with
  | nil => simp [sameNs]
  | cons _ _ => simp [sameNs]
 | cons r rs ih => cases m with
  | nil => simp [sameNs]
  | cons q qs =>
   simp only [sameNs, Bool.and_eq_true, ih, List.length_cons, Nat.add_right_cancel_iff]
   constructor
   ·rintro ⟨h1, h2, h3⟩
    refine ⟨h2, fun i hi hi' => ?_⟩
    cases i with
    | zero => exact h1
    | succ i => exact h3 i (by omega) (by omega)
   ·rintro ⟨h1, h2⟩
    exact ⟨h2 0 (by omega) (by omega), h1, fun i hi hi' => h2 (i + 1) (by omega) (by omega)⟩
end Go.Proofs.YtlklmpjakeedcaaGreatDoor
set_option linter.unusedVariables false
set_option linter.unusedSimpArgs false
namespace Go.Proofs.YtlklmpjakeedcaaGreatDoor
open Go.RowKit Go.MapKept Go.Shelf

set_option maxRecDepth 100000 in
set_option maxHeartbeats 2000000 in
theorem sameInts_any (w : World) (a b : Option Addr) (n c m d' : Nat) (xs ys : List Int) (hn : n = xs.length) (hm : m = ys.length) (hs : n ≤ 9223372036854775807) (hx : Ints w a xs) (hy : Ints w b ys) :
  Calls Tryz.prog 37 #[.slice a n c, .slice b m d'] w fun e w' => e = .returned (.bool (decide (xs = ys))) ∧ Chg [] w w' := by
 obtain ⟨R, hR⟩ : ∃ R, R = decide (xs = ys) := ⟨_, rfl⟩
 rw [← hR]
 have H := Lib.hid (And.intro hn (And.intro hm (And.intro hx (And.intro hy hR))))
 clear hn hm hx hy hR
 by_cases hnm : n = m
 ·subst hnm
  go_enter Tryz.func37, Tryz.ntmps37
  go_wp2_with fail
  go_loopg [5] n (fun d iv wr => ∃ k : Nat, d = n - k ∧ k ≤ n ∧ iv = .int .i64 k ∧ Hid (Chg [] w wr ∧ xs.take k = ys.take k))
  case atStart => exact ⟨0, rfl, Nat.zero_le _, rfl, Lib.hid ⟨Chg.refl _ _, rfl⟩⟩
  case round =>
   obtain ⟨k, rfl, hk, rfl, hin⟩ := hrel
   obtain ⟨wq, rfl⟩ : ∃ wq, wq = wr := ⟨_, rfl⟩
   by_cases hlt : k < n
   ·have hkx : k < xs.length := by have := H.out.1; omega
    have hky : k < ys.length := by have := H.out.2.1; omega
    obtain ⟨bx, ox, rfl, hx⟩ := H.out.2.2.1 k hkx
    obtain ⟨bb, oy, rfl, hy⟩ := H.out.2.2.2.1 k hky
    have hx := hin.out.1.kp.2 _ _ hx
    have hy := hin.out.1.kp.2 _ _ hy
    obtain ⟨zx, hzx⟩ : ∃ z, z = xs[k] := ⟨_, rfl⟩
    obtain ⟨zy, hzy⟩ : ∃ z, z = ys[k] := ⟨_, rfl⟩
    rw [← hzx] at hx
    rw [← hzy] at hy
    have HZ := Lib.hid (And.intro hzx hzy)
    clear hzx hzy
    go_wp2_with fail
    go_quiet (fail)
    go_wp2_with fail
    ·go_ret
     rename_i hz
     refine ⟨ret_bool ?_, hin.out.1.drewN _⟩
     rw [H.out.2.2.2.2]
     symm
     rw [decide_eq_false_iff_not]
     intro hkk
     have : zx = zy := by rw [HZ.out.1, HZ.out.2]; simp only [hkk]
     simp [this] at hz
    ·go_roundg (n - (k + 1))
     case measure => omega
     case rel =>
      rename_i hz
      refine ⟨k + 1, rfl, by omega, by go_num, Lib.hid ⟨hin.out.1.drewN _, ?_⟩⟩
      have : zx = zy := by simpa using hz
      rw [List.take_succ_eq_append_getElem hkx, List.take_succ_eq_append_getElem hky, hin.out.2, ← HZ.out.1, ← HZ.out.2, this]
   ·obtain rfl : k = n := by omega
    go_wp2
    go_ret
    refine ⟨ret_bool ?_, hin.out.1⟩
    rw [H.out.2.2.2.2]
    symm
    rw [decide_eq_true_eq]
    have hkk := hin.out.2
    have h1 := H.out.1
    have h2 := H.out.2.1
    rw [List.take_of_length_le (by omega), List.take_of_length_le (by omega)] at hkk
    exact hkk
 ·have hb : (((n : Int)) != ((m : Int))) = true := by simp; omega
  have hnm' : ¬ ((n : Int) = (m : Int)) := by omega
  go_enter Tryz.func37, Tryz.ntmps37
  go_wp2_with fail
  go_ret
  refine ⟨ret_bool ?_, Chg.refl _ _⟩
  rw [H.out.2.2.2.2]
  symm
  rw [decide_eq_false_iff_not]
  intro hkk
  have h1 := H.out.1
  have h2 := H.out.2.1
  rw [hkk] at h1
  omega
end Go.Proofs.YtlklmpjakeedcaaGreatDoor
set_option linter.unusedVariables false
set_option linter.unusedSimpArgs false
namespace Go.Proofs.YtlklmpjakeedcaaGreatDoor
open Go.RowKit Go.MapKept Go.Shelf

set_option maxRecDepth 100000 in
set_option maxHeartbeats 2000000 in
theorem kitSameNode_any (w : World) (x y : Nd) (a b : Option Addr) (n c m d' : Nat) (hn : n = x.kids.length) (hm : m = y.kids.length) (hs : n ≤ 9223372036854775807) (hx : Ints w a x.kids) (hy : Ints w b y.kids) :
  Calls Tryz.prog 125 #[.agg (x.cells a n c), .agg (y.cells b m d')] w fun e w' => e = .returned (.bool (sameN x y)) ∧ Chg [] w w' := by
 obtain ⟨R, hR⟩ : ∃ R, R = sameN x y := ⟨_, rfl⟩
 rw [← hR]
 have hk := fun (w1 : World) (h1 : Chg [] w w1) => sameInts_any w1 a b n c m d' x.kids y.kids hn hm hs (hx.keep h1.kp) (hy.keep h1.kp)
 have H := Lib.hid (And.intro hk hR)
 clear hn hm hx hy hR hk
 unfold Nd.cells
 obtain ⟨xk, x0, x1, x2, x3, xs, xr, xl, xkids⟩ := x
 obtain ⟨yk, y0, y1, y2, y3, ys, yr, yl, ykids⟩ := y
 dsimp only at H ⊢
 go_enter Tryz.func125, Tryz.ntmps125
 go_wp2_with fail
 all_goals try (go_ret; refine ⟨ret_bool ?_, ((Chg.refl _ _).alloc _).alloc _⟩; have hR := H.out.2; clear H; rw [hR, sameN]; simp only [beq_iff_eq, beq_eq_false_iff_ne, bne_iff_ne, ne_eq, decide_eq_true_eq, decide_eq_false_iff_not] at *; grind)
 refine (H.out.1 _ (((Chg.refl _ _).alloc _).alloc _)).mono ?_
 rintro e w1 ⟨rfl, hc⟩
 have H1 := Lib.hid ((((Chg.refl [] w).alloc _).alloc _).tr hc)
 clear hc
 rename_i e5 e4 e3 e2 e1 _ _
 have HE := Lib.hid (And.intro e5 (And.intro e4 (And.intro e3 (And.intro e2 e1))))
 clear e5 e4 e3 e2 e1
 go_wp2_with fail
 go_ret
 refine ⟨ret_bool ?_, H1.out⟩
 rw [H.out.2, sameN]
 have h := HE.out
 simp only [decide_eq_decide]
 grind
end Go.Proofs.YtlklmpjakeedcaaGreatDoor
set_option linter.unusedVariables false
set_option linter.unusedSimpArgs false
set_option linter.unnecessarySimpa false
namespace Go.Proofs.YtlklmpjakeedcaaGreatDoor
open Go.RowKit Go.MapKept Go.Shelf

/-- Rows of numbers, as they lie. -/
def IntRows (w : World) (a : Option Addr) (VS : List Is) : Prop := ∀ i (h : i < VS.length), ∃ b o, a = some ⟨b, o, none⟩ ∧ w.cell? ⟨b, o + i, none⟩ = some VS[i].cell ∧ Ints w VS[i].1 VS[i].2.2 ∧ VS[i].2.2.length ≤ 9223372036854775807
theorem OwnIs.rows {B : Nat} {w : World} {a : Option Addr} {c : Nat} {VS : List Is} (h : OwnIs B w a c VS) : IntRows w a VS := fun i hi => by
 obtain ⟨gb, rfl, hgb, hgc⟩ := h.at hi
 have := (ownInts_read (h.each _ (List.getElem_mem hi)).own).2.2
 simp only [maxLen] at this
 exact ⟨gb, 0, rfl, by rw [Nat.zero_add]; exact hgc, h.ints hi, by omega⟩
theorem IntRows.keep {w w' : World} {a : Option Addr} {VS : List Is} (h : IntRows w a VS) (k : Kp w w') : IntRows w' a VS := fun i hi => by
 obtain ⟨b, o, rfl, h1, h2, h3⟩ := h i hi
 exact ⟨b, o, rfl, k.2 _ _ h1, h2.keep k, h3⟩

end Go.Proofs.YtlklmpjakeedcaaGreatDoor
set_option linter.unusedVariables false
set_option linter.unusedSimpArgs false
set_option linter.unnecessarySimpa false
namespace Go.Proofs.YtlklmpjakeedcaaGreatDoor
open Go.RowKit Go.MapKept Go.Shelf

set_option maxRecDepth 100000 in
set_option maxHeartbeats 4000000 in
theorem kitSameRules_any (w : World) (a b : Option Addr) (n c m d' : Nat) (rs qs : List Rl) (hn : n = rs.length) (hm : m = qs.length) (hs : n ≤ 9223372036854775807) (hs2 : m ≤ 9223372036854775807) (hx : Rules w a rs) (hy : Rules w b qs) :
  Calls Tryz.prog 122 #[.slice a n c, .slice b m d'] w fun e w' => e = .returned (.bool (sameRs rs qs)) ∧ Chg [] w w' := by
 obtain ⟨R, hR⟩ : ∃ R, R = sameRs rs qs := ⟨_, rfl⟩
 rw [← hR]
 have H := Lib.hid (And.intro hn (And.intro hm (And.intro hx (And.intro hy hR))))
 clear hn hm hx hy hR
 by_cases hnm : n = m
 ·subst hnm
  go_enter Tryz.func122, Tryz.ntmps122
  go_wp2_with fail
  go_loopg [5] n (fun d iv wr => ∃ k : Nat, d = n - k ∧ k ≤ n ∧ iv = .int .i64 k ∧ Hid (Chg [] w wr ∧ ∀ i (h1 : i < rs.length) (h2 : i < qs.length), i < k → sameR rs[i] qs[i] = true))
  case atStart => exact ⟨0, rfl, Nat.zero_le _, rfl, Lib.hid ⟨Chg.refl _ _, fun i _ _ hi => by omega⟩⟩
  case round =>
   obtain ⟨k, rfl, hk, rfl, hin⟩ := hrel
   obtain ⟨wq, rfl⟩ : ∃ wz, wz = wr := ⟨_, rfl⟩
   by_cases hlt : k < n
   ·have hkx : k < rs.length := by have := H.out.1; omega
    have hky : k < qs.length := by have := H.out.2.1; omega
    obtain ⟨bx, ox, rfl, hx, hx'⟩ := (H.out.2.2.1.keep hin.out.1.kp) k hkx
    obtain ⟨bb, oy, rfl, hy, hy'⟩ := (H.out.2.2.2.1.keep hin.out.1.kp) k hky
    obtain ⟨zx, hzx⟩ : ∃ z, z = rs[k] := ⟨_, rfl⟩
    obtain ⟨zy, hzy⟩ : ∃ z, z = qs[k] := ⟨_, rfl⟩
    rw [← hzx] at hx hx'
    rw [← hzy] at hy hy'
    have HZ := Lib.hid (And.intro hzx hzy)
    clear hzx hzy
    by_cases hb1 : zx.name.toList = zy.name.toList
    ·by_cases hb2 : zx.body = zy.body
     ·have HB := Lib.hid (And.intro hb1 hb2)
      go_wp2_with fail
      go_quiet (fail)
      go_wp2_with fail
      go_roundg (n - (k + 1))
      case measure => omega
      case rel =>
       refine ⟨k + 1, rfl, by omega, by go_num, Lib.hid ⟨hin.out.1.drewN _, fun i h1 h2 hi => ?_⟩⟩
       by_cases e : i = k
       ·subst e
        rw [← HZ.out.1, ← HZ.out.2, sameR, decide_eq_true_eq]
        exact HB.out
       ·exact hin.out.2 i h1 h2 (by omega)
     ·go_wp2_with fail
      go_quiet (fail)
      go_wp2_with fail
      go_ret
      refine ⟨ret_bool ?_, hin.out.1.drewN _⟩
      rw [H.out.2.2.2.2]
      symm
      rw [← Bool.not_eq_true, sameRs_iff]
      rintro ⟨_, k2⟩
      have := k2 k hkx hky
      rw [← HZ.out.1, ← HZ.out.2, sameR, decide_eq_true_eq] at this
      exact hb2 this.2
    ·go_wp2_with fail
     go_quiet (fail)
     go_wp2_with fail
     go_ret
     refine ⟨ret_bool ?_, hin.out.1.drewN _⟩
     rw [H.out.2.2.2.2]
     symm
     rw [← Bool.not_eq_true, sameRs_iff]
     rintro ⟨_, k2⟩
     have := k2 k hkx hky
     rw [← HZ.out.1, ← HZ.out.2, sameR, decide_eq_true_eq] at this
     exact hb1 this.1
   ·obtain rfl : k = n := by omega
    go_wp2_with fail
    go_ret
    refine ⟨ret_bool ?_, hin.out.1⟩
    rw [H.out.2.2.2.2]
    symm
    rw [sameRs_iff]
    exact ⟨by rw [← H.out.1, ← H.out.2.1], fun i h1 h2 => hin.out.2 i h1 h2 (by have := H.out.1; omega)⟩
 ·have hR : R = false := by
   rw [H.out.2.2.2.2, ← Bool.not_eq_true, sameRs_iff]
   rintro ⟨h, _⟩
   exact hnm (by rw [H.out.1, H.out.2.1, h])
  subst hR
  go_enter Tryz.func122, Tryz.ntmps122
  go_wp2_with fail
  go_ret
  exact ⟨rfl, Chg.refl _ _⟩

set_option maxRecDepth 100000 in
set_option maxHeartbeats 4000000 in
theorem kitSameNodes_any (w : World) (a b : Option Addr) (n c m d' : Nat) (xs ys : List Nd) (hn : n = xs.length) (hm : m = ys.length) (hs : n ≤ 9223372036854775807) (hs2 : m ≤ 9223372036854775807) (hx : Nodes w a xs) (hy : Nodes w b ys) :
  Calls Tryz.prog 123 #[.slice a n c, .slice b m d'] w fun e w' => e = .returned (.bool (sameNs xs ys)) ∧ Chg [] w w' := by
 obtain ⟨R, hR⟩ : ∃ R, R = sameNs xs ys := ⟨_, rfl⟩
 rw [← hR]
 have H := Lib.hid (And.intro hn (And.intro hm (And.intro hx (And.intro hy hR))))
 clear hn hm hx hy hR
 by_cases hnm : n = m
 ·subst hnm
  go_enter Tryz.func123, Tryz.ntmps123
  go_wp2_with fail
  go_loopg [5] n (fun d iv wr => ∃ k : Nat, d = n - k ∧ k ≤ n ∧ iv = .int .i64 k ∧ Hid (Chg [] w wr ∧ ∀ i (h1 : i < xs.length) (h2 : i < ys.length), i < k → sameN xs[i] ys[i] = true))
  case atStart => exact ⟨0, rfl, Nat.zero_le _, rfl, Lib.hid ⟨Chg.refl _ _, fun i _ _ hi => by omega⟩⟩
  case round =>
   obtain ⟨k, rfl, hk, rfl, hin⟩ := hrel
   obtain ⟨wq, rfl⟩ : ∃ wz, wz = wr := ⟨_, rfl⟩
   by_cases hlt : k < n
   ·have hkx : k < xs.length := by have := H.out.1; omega
    have hky : k < ys.length := by have := H.out.2.1; omega
    obtain ⟨bx, ox, ax, nx, cx, rfl, hx⟩ := (H.out.2.2.1.keep hin.out.1.kp) k hkx
    obtain ⟨bb, oy, ay, ny, cy, rfl, hy⟩ := (H.out.2.2.2.1.keep hin.out.1.kp) k hky
    obtain ⟨zx, hzx⟩ : ∃ z, z = xs[k] := ⟨_, rfl⟩
    obtain ⟨zy, hzy⟩ : ∃ z, z = ys[k] := ⟨_, rfl⟩
    rw [← hzx] at hx
    rw [← hzy] at hy
    obtain ⟨r, hr⟩ : ∃ r, r = sameN zx zy := ⟨_, rfl⟩
    have hs3 : nx ≤ 9223372036854775807 := by have := hx.le; have := hx.cap; simp only [maxLen] at this; omega
    have cA := calls_rg (w := wq) (fun w1 h1 => kitSameNode_any w1 zx zy ax ay nx cx ny cy hx.len hy.len hs3 (hx.ints.keep h1.kp) (hy.ints.keep h1.kp))
    rw [← hr] at cA
    unfold Nd.cells at cA
    have e0 := cell_rg hx.k
    have e1 := cell_rg hx.c0
    have e2 := cell_rg hx.c1
    have e3 := cell_rg hx.c2
    have e4 := cell_rg hx.c3
    have e5 := cell_rg hx.s
    have e6 := cell_rg hx.r
    have e7 := cell_rg hx.l
    have e8 := cell_rg hx.kids
    have f0 := cell_rg hy.k
    have f1 := cell_rg hy.c0
    have f2 := cell_rg hy.c1
    have f3 := cell_rg hy.c2
    have f4 := cell_rg hy.c3
    have f5 := cell_rg hy.s
    have f6 := cell_rg hy.r
    have f7 := cell_rg hy.l
    have f8 := cell_rg hy.kids
    have HZ := Lib.hid (And.intro hzx (And.intro hzy hr))
    clear hzx hzy hr hx hy hs3
    go_wp2_with fail
    refine wp_region_quiet_below (by kernel_rfl) (by kernel_rfl) ?_
    repeat (go_big_quiet_step (first | (with_reducible exact cA _ _)))
    refine wpQuiet_nil ?_
    intro w4 hw4
    have H4 := Lib.hid (hin.out.1.tr (chg_of_rg hw4))
    clear hw4 cA e0 e1 e2 e3 e4 e5 e6 e7 e8 f0 f1 f2 f3 f4 f5 f6 f7 f8
    cases r with
    | true =>
     go_wp2_with fail
     go_roundg (n - (k + 1))
     case measure => omega
     case rel =>
      refine ⟨k + 1, rfl, by omega, by go_num, Lib.hid ⟨H4.out, fun i h1 h2 hi => ?_⟩⟩
      by_cases e : i = k
      ·subst e
       rw [← HZ.out.1, ← HZ.out.2.1, ← HZ.out.2.2]
      ·exact hin.out.2 i h1 h2 (by omega)
    | false =>
     go_wp2_with fail
     go_ret
     refine ⟨ret_bool ?_, H4.out⟩
     rw [H.out.2.2.2.2]
     symm
     rw [← Bool.not_eq_true, sameNs_iff]
     rintro ⟨_, k2⟩
     have := k2 k hkx hky
     rw [← HZ.out.1, ← HZ.out.2.1, ← HZ.out.2.2] at this
     cases this
   ·obtain rfl : k = n := by omega
    go_wp2_with fail
    go_ret
    refine ⟨ret_bool ?_, hin.out.1⟩
    rw [H.out.2.2.2.2]
    symm
    rw [sameNs_iff]
    exact ⟨by rw [← H.out.1, ← H.out.2.1], fun i h1 h2 => hin.out.2 i h1 h2 (by have := H.out.1; omega)⟩
 ·have hR : R = false := by
   rw [H.out.2.2.2.2, ← Bool.not_eq_true, sameNs_iff]
   rintro ⟨h, _⟩
   exact hnm (by rw [H.out.1, H.out.2.1, h])
  subst hR
  go_enter Tryz.func123, Tryz.ntmps123
  go_wp2_with fail
  go_ret
  exact ⟨rfl, Chg.refl _ _⟩

set_option maxRecDepth 100000 in
set_option maxHeartbeats 2000000 in
theorem kitSameGram_any (w : World) (a1 : Option Addr) (n1 c1 : Nat) (a2 : Option Addr) (n2 c2 : Nat) (g : Gr) (b1 : Option Addr) (m1 d1 : Nat) (b2 : Option Addr) (m2 d2 : Nat) (h : Gr) (hg : GramAt w a1 n1 c1 a2 n2 c2 g) (hh : GramAt w b1 m1 d1 b2 m2 d2 h) :
  Calls Tryz.prog 87 #[.agg #[.slice a1 n1 c1, .slice a2 n2 c2], .agg #[.slice b1 m1 d1, .slice b2 m2 d2]] w fun e w' => e = .returned (.bool (sameG g h)) ∧ Chg [] w w' := by
 obtain ⟨r, hr⟩ : ∃ r, r = sameRs g.rules h.rules := ⟨_, rfl⟩
 obtain ⟨s, hs⟩ : ∃ s, s = sameNs g.nodes h.nodes := ⟨_, rfl⟩
 rw [sameG, ← hr, ← hs]
 have hc1 := ((Chg.refl [] w).alloc (.cells #[.slice a1 n1 c1, .slice a2 n2 c2] 31)).alloc (.cells #[.slice b1 m1 d1, .slice b2 m2 d2] 31)
 have hb0 := heap_alloc_lt (heap_alloc_same w (.cells #[.slice a1 n1 c1, .slice a2 n2 c2] 31)) (.cells #[.slice b1 m1 d1, .slice b2 m2 d2] 31)
 have hb1 := heap_alloc_same (w.alloc (.cells #[.slice a1 n1 c1, .slice a2 n2 c2] 31)) (.cells #[.slice b1 m1 d1, .slice b2 m2 d2] 31)
 simp only [World.size_alloc] at hb1
 have hp := fun (W : World) (hW : Chg [] w W) => kitSameRules_any W a1 b1 n1 c1 m1 d1 g.rules h.rules hg.e1 hh.e1 hg.small.1 hh.small.1 (hg.rules.keep hW.kp) (hh.rules.keep hW.kp)
 have hq := fun (W : World) (hW : Chg [] w W) => kitSameNodes_any W a2 b2 n2 c2 m2 d2 g.nodes h.nodes hg.e2 hh.e2 hg.small.2 hh.small.2 (hg.nodes.keep hW.kp) (hh.nodes.keep hW.kp)
 rw [← hr] at hp
 rw [← hs] at hq
 have H := Lib.hid (And.intro hp (And.intro hq (And.intro hc1 (And.intro hb0 hb1))))
 clear hp hq hc1 hr hs hg hh
 go_enter Tryz.func87, Tryz.ntmps87
 obtain ⟨x0, x1⟩ := cells2 hb0
 obtain ⟨y0, y1⟩ := cells2 hb1
 clear hb0 hb1
 go_wp2_with fail
 refine (H.out.1 _ H.out.2.2.1).mono ?_
 rintro e w2 ⟨rfl, hc2⟩
 have H2 := Lib.hid (And.intro (H.out.2.2.1.tr hc2) (And.intro (hc2.heap H.out.2.2.2.1 (by simp)) (hc2.heap H.out.2.2.2.2 (by simp))))
 clear hc2 x0 x1 y0 y1
 cases r with
 | false =>
  go_wp2_with fail
  go_ret
  exact ⟨by simp, H2.out.1⟩
 | true =>
  obtain ⟨x0, x1⟩ := cells2 H2.out.2.1
  obtain ⟨y0, y1⟩ := cells2 H2.out.2.2
  go_wp2_with fail
  refine (H.out.2.1 _ H2.out.1).mono ?_
  rintro e w3 ⟨rfl, hc3⟩
  have H3 := Lib.hid (H2.out.1.tr hc3)
  clear hc3 x0 x1 y0 y1
  go_wp2_with fail
  go_ret
  exact ⟨by simp, H3.out⟩
end Go.Proofs.YtlklmpjakeedcaaGreatDoor

/-
  Two rules compared.
  Conditions: none.
-/
import Derived.Test.YtlklmpjakeedcaaGreatDoorSOrGCopy
import Derived.Laws.StructEq
import Derived.Test.YtlklmpjakeedcaaGreatDoorSOrLfD
import Derived.Test.YtlklmpjakeedcaaGreatDoorSOrKB3
import Derived.Test.YtlklmpjakeedcaaGreatDoorSOrG06A
import Derived.Test.YtlklmpjakeedcaaGreatDoorSOrLfH
set_option linter.unusedVariables false
set_option linter.unusedSimpArgs false
namespace Go.Proofs.YtlklmpjakeedcaaGreatDoor
open Go.RowKit Go.MapKept Go.Shelf
theorem Tryz.ruleFields : Tryz.prog.underlying 53 = some (.struct (Tryz.prog.fieldsOf 53)) := by kernel_rfl
theorem Tryz.ruleStood : Tryz.prog.stoodInHeld 53 = false := by kernel_rfl
@[go_sem] theorem Tryz.ruleGuard (op : BinOp) (x y : Operand) (xs ys : Array Value) (w : World) : (eqGuard op 53 x y (.agg xs) (.agg ys)).run Tryz.prog w = .ok () w := run_eqGuard_agg w op _ x y xs ys (by kernel_rfl)
@[go_sem] theorem rule_eq (a a' : ByteArray) (b b' : Int) (w : World) :
    (Op.equalIn 10000 53 (.agg #[.string a, .int .i64 b]) (.agg #[.string a', .int .i64 b'])).run Tryz.prog w = .ok (decide (a.toList = a'.toList ∧ b = b')) w := by
  rw [show (10000 : Nat) = 9999 + 1 from rfl, run_equalIn_struct w 9999 _ _ _ Tryz.ruleFields Tryz.ruleStood]
  simp only [Program.fieldsOf, Tryz.underlying53]
  have e1 := fun (w : World) => run_equalIn_string (P := Tryz.prog) w 9998 9 a a' Tryz.underlying9
  have e2 := fun (w : World) => run_equalIn_int (P := Tryz.prog) w 9998 3 .i64 .i64 b b' Tryz.underlying3
  simp only [Op.eqFields]
  simp [part, isAgg, run_underlying Tryz.underlying9, run_underlying Tryz.underlying3, e1, e2]
  by_cases h1 : a.toList = a'.toList <;> by_cases h2 : b = b' <;> simp [h1, h2, isAgg, run_underlying Tryz.underlying9, run_underlying Tryz.underlying3, e1, e2]
end Go.Proofs.YtlklmpjakeedcaaGreatDoor
set_option linter.unusedVariables false
set_option linter.unusedSimpArgs false
namespace Go.Proofs.YtlklmpjakeedcaaGreatDoor
open Go.RowKit Go.MapKept Go.Shelf

/-- Two nodes, field by field. -/
def sameN (x y : Nd) : Bool := decide (x.k = y.k ∧ (x.c0 = y.c0 ∧ x.c1 = y.c1 ∧ x.c2 = y.c2 ∧ x.c3 = y.c3) ∧ x.s.toList = y.s.toList ∧ x.r = y.r ∧ x.l = y.l ∧ x.kids = y.kids)
theorem sameN_refl (x : Nd) : sameN x x = true := by simp [sameN]

structure SameAt (w : World) (B : Nat) (vx vy : Array Value) (t : TypeId) (wr : World) : Prop where
  bx : wr.heap[B]? = some (.cells vx t (0, 0))
  bY : wr.heap[B + 1]? = some (.cells vy t (0, 0))
  ch : Chg [] w wr
theorem SameAt.new (w : World) (vx vy : Array Value) (t : TypeId) : SameAt w w.heap.size vx vy t ((w.alloc (.cells vx t)).alloc (.cells vy t)) :=
  ⟨heap_alloc_lt (heap_alloc_same _ _) _, by have := heap_alloc_same (w.alloc (.cells vx t)) (.cells vy t); rw [World.size_alloc] at this; exact this, ((Chg.refl _ _).alloc _).alloc _⟩
theorem SameAt.keep {w wr w' : World} {B : Nat} {vx vy : Array Value} {t : TypeId} (h : SameAt w B vx vy t wr) (hc : Chg [] wr w') : SameAt w B vx vy t w' := ⟨hc.heap h.bx (by simp), hc.heap h.bY (by simp), h.ch.tr hc⟩

end Go.Proofs.YtlklmpjakeedcaaGreatDoor
set_option linter.unusedVariables false
set_option linter.unusedSimpArgs false
namespace Go.Proofs.YtlklmpjakeedcaaGreatDoor
open Go.RowKit Go.MapKept Go.Shelf

def sameR (r q : Rl) : Bool := decide (r.name.toList = q.name.toList ∧ r.body = q.body)
def sameRs : List Rl → List Rl → Bool
  | [], [] => true
  | r :: rs, q :: qs => sameR r q && sameRs rs qs
  | _, _ => false
def sameNs : List Nd → List Nd → Bool
  | [], [] => true
  | x :: xs, y :: ys => sameN x y && sameNs xs ys
  | _, _ => false
def sameG (g h : Gr) : Bool := sameRs g.rules h.rules && sameNs g.nodes h.nodes
theorem sameRs_refl (l : List Rl) : sameRs l l = true := by
  induction l with
  | nil => rfl
  | cons r rs ih => simp [sameRs, sameR, ih]
theorem sameNs_refl (l : List Nd) : sameNs l l = true := by
  induction l with
  | nil => rfl
  | cons r rs ih => simp [sameNs, sameN_refl, ih]
theorem sameG_refl (g : Gr) : sameG g g = true := by simp [sameG, sameRs_refl, sameNs_refl]
theorem sameRs_iff (l m : List Rl) : sameRs l m = true ↔ l.length = m.length ∧ ∀ i (h : i < l.length) (h' : i < m.length), sameR l[i] m[i] = true := by
  induction l generalizing m with
  | nil => cases m with
    | nil => simp [sameRs]
    | cons _ _ => simp [sameRs]
  | cons r rs ih => cases m with
    | nil => simp [sameRs]
    | cons q qs =>
      simp only [sameRs, Bool.and_eq_true, ih, List.length_cons, Nat.add_right_cancel_iff]
      constructor
      · rintro ⟨h1, h2, h3⟩
        refine ⟨h2, fun i hi hi' => ?_⟩
        cases i with
        | zero => exact h1
        | succ i => exact h3 i (by omega) (by omega)
      · rintro ⟨h1, h2⟩
        exact ⟨h2 0 (by omega) (by omega), h1, fun i hi hi' => h2 (i + 1) (by omega) (by omega)⟩
theorem sameNs_iff (l m : List Nd) : sameNs l m = true ↔ l.length = m.length ∧ ∀ i (h : i < l.length) (h' : i < m.length), sameN l[i] m[i] = true := by
  induction l generalizing m with
  | nil => cases m with
    | nil => simp [sameNs]
    | cons _ _ => simp [sameNs]
  | cons r rs ih => cases m with
    | nil => simp [sameNs]
    | cons q qs =>
      simp only [sameNs, Bool.and_eq_true, ih, List.length_cons, Nat.add_right_cancel_iff]
      constructor
      · rintro ⟨h1, h2, h3⟩
        refine ⟨h2, fun i hi hi' => ?_⟩
        cases i with
        | zero => exact h1
        | succ i => exact h3 i (by omega) (by omega)
      · rintro ⟨h1, h2⟩
        exact ⟨h2 0 (by omega) (by omega), h1, fun i hi hi' => h2 (i + 1) (by omega) (by omega)⟩
theorem sameG_iff (g h : Gr) : sameG g h = true ↔ (g.rules.length = h.rules.length ∧ ∀ i (h1 : i < g.rules.length) (h2 : i < h.rules.length), sameR g.rules[i] h.rules[i] = true) ∧ (g.nodes.length = h.nodes.length ∧ ∀ i (h1 : i < g.nodes.length) (h2 : i < h.nodes.length), sameN g.nodes[i] h.nodes[i] = true) := by
  rw [sameG, Bool.and_eq_true, sameRs_iff, sameNs_iff]

end Go.Proofs.YtlklmpjakeedcaaGreatDoor
set_option linter.unusedVariables false
set_option linter.unusedSimpArgs false
namespace Go.Proofs.YtlklmpjakeedcaaGreatDoor
open Go.RowKit Go.MapKept Go.Shelf

set_option maxRecDepth 100000 in
set_option maxHeartbeats 2000000 in
theorem sameInts_any (w : World) (a b : Option Addr) (n c m d' : Nat) (xs ys : List Int) (hn : n = xs.length) (hm : m = ys.length) (hs : n ≤ 9223372036854775807) (hx : Ints w a xs) (hy : Ints w b ys) :
    Calls Tryz.prog 37 #[.slice a n c, .slice b m d'] w fun e w' => e = .returned (.bool (decide (xs = ys))) ∧ Chg [] w w' := by
  obtain ⟨R, hR⟩ : ∃ R, R = decide (xs = ys) := ⟨_, rfl⟩
  rw [← hR]
  have H := Lib.hid (And.intro hn (And.intro hm (And.intro hx (And.intro hy hR))))
  clear hn hm hx hy hR
  by_cases hnm : n = m
  · subst hnm
    go_enter Tryz.func37, Tryz.ntmps37
    go_wp2_with fail
    go_loopg [5] n (fun d iv wr => ∃ k : Nat, d = n - k ∧ k ≤ n ∧ iv = .int .i64 k ∧ Hid (Chg [] w wr ∧ xs.take k = ys.take k))
    case atStart => exact ⟨0, rfl, Nat.zero_le _, rfl, Lib.hid ⟨Chg.refl _ _, rfl⟩⟩
    case round =>
      obtain ⟨k, rfl, hk, rfl, hin⟩ := hrel
      obtain ⟨wq, rfl⟩ : ∃ wq, wq = wr := ⟨_, rfl⟩
      by_cases hlt : k < n
      · have hkx : k < xs.length := by have := H.out.1; omega
        have hky : k < ys.length := by have := H.out.2.1; omega
        obtain ⟨bx, ox, rfl, hx⟩ := H.out.2.2.1 k hkx
        obtain ⟨bb, oy, rfl, hy⟩ := H.out.2.2.2.1 k hky
        have hx := hin.out.1.kp.2 _ _ hx
        have hy := hin.out.1.kp.2 _ _ hy
        obtain ⟨zx, hzx⟩ : ∃ z, z = xs[k] := ⟨_, rfl⟩
        obtain ⟨zy, hzy⟩ : ∃ z, z = ys[k] := ⟨_, rfl⟩
        rw [← hzx] at hx
        rw [← hzy] at hy
        have HZ := Lib.hid (And.intro hzx hzy)
        clear hzx hzy
        go_wp2_with fail
        go_quiet (fail)
        go_wp2_with fail
        · go_ret
          rename_i hz
          refine ⟨ret_bool ?_, hin.out.1.drewN _⟩
          rw [H.out.2.2.2.2]
          symm
          rw [decide_eq_false_iff_not]
          intro hkk
          have : zx = zy := by rw [HZ.out.1, HZ.out.2]; simp only [hkk]
          simp [this] at hz
        · go_roundg (n - (k + 1))
          case measure => omega
          case rel =>
            rename_i hz
            refine ⟨k + 1, rfl, by omega, by go_num, Lib.hid ⟨hin.out.1.drewN _, ?_⟩⟩
            have : zx = zy := by simpa using hz
            rw [List.take_succ_eq_append_getElem hkx, List.take_succ_eq_append_getElem hky, hin.out.2, ← HZ.out.1, ← HZ.out.2, this]
      · obtain rfl : k = n := by omega
        go_wp2
        go_ret
        refine ⟨ret_bool ?_, hin.out.1⟩
        rw [H.out.2.2.2.2]
        symm
        rw [decide_eq_true_eq]
        have hkk := hin.out.2
        have h1 := H.out.1
        have h2 := H.out.2.1
        rw [List.take_of_length_le (by omega), List.take_of_length_le (by omega)] at hkk
        exact hkk
  · have hb : (((n : Int)) != ((m : Int))) = true := by simp; omega
    have hnm' : ¬ ((n : Int) = (m : Int)) := by omega
    go_enter Tryz.func37, Tryz.ntmps37
    go_wp2_with fail
    go_ret
    refine ⟨ret_bool ?_, Chg.refl _ _⟩
    rw [H.out.2.2.2.2]
    symm
    rw [decide_eq_false_iff_not]
    intro hkk
    have h1 := H.out.1
    have h2 := H.out.2.1
    rw [hkk] at h1
    omega
end Go.Proofs.YtlklmpjakeedcaaGreatDoor
set_option linter.unusedVariables false
set_option linter.unusedSimpArgs false
namespace Go.Proofs.YtlklmpjakeedcaaGreatDoor
open Go.RowKit Go.MapKept Go.Shelf

set_option maxRecDepth 100000 in
set_option maxHeartbeats 2000000 in
theorem kitSameNode_any (w : World) (x y : Nd) (a b : Option Addr) (n c m d' : Nat) (hn : n = x.kids.length) (hm : m = y.kids.length) (hs : n ≤ 9223372036854775807) (hx : Ints w a x.kids) (hy : Ints w b y.kids) :
    Calls Tryz.prog 125 #[.agg (x.cells a n c), .agg (y.cells b m d')] w fun e w' => e = .returned (.bool (sameN x y)) ∧ Chg [] w w' := by
  obtain ⟨R, hR⟩ : ∃ R, R = sameN x y := ⟨_, rfl⟩
  rw [← hR]
  have hk := fun (w1 : World) (h1 : Chg [] w w1) => sameInts_any w1 a b n c m d' x.kids y.kids hn hm hs (hx.keep h1.kp) (hy.keep h1.kp)
  have H := Lib.hid (And.intro hk hR)
  clear hn hm hx hy hR hk
  unfold Nd.cells
  obtain ⟨xk, x0, x1, x2, x3, xs, xr, xl, xkids⟩ := x
  obtain ⟨yk, y0, y1, y2, y3, ys, yr, yl, ykids⟩ := y
  dsimp only at H ⊢
  go_enter Tryz.func125, Tryz.ntmps125
  go_wp2_with fail
  all_goals try (go_ret; refine ⟨ret_bool ?_, ((Chg.refl _ _).alloc _).alloc _⟩; have hR := H.out.2; clear H; rw [hR, sameN]; simp only [beq_iff_eq, beq_eq_false_iff_ne, bne_iff_ne, ne_eq, decide_eq_true_eq, decide_eq_false_iff_not] at *; grind)
  refine (H.out.1 _ (((Chg.refl _ _).alloc _).alloc _)).mono ?_
  rintro e w1 ⟨rfl, hc⟩
  have H1 := Lib.hid ((((Chg.refl [] w).alloc _).alloc _).tr hc)
  clear hc
  rename_i e5 e4 e3 e2 e1 _ _
  have HE := Lib.hid (And.intro e5 (And.intro e4 (And.intro e3 (And.intro e2 e1))))
  clear e5 e4 e3 e2 e1
  go_wp2_with fail
  go_ret
  refine ⟨ret_bool ?_, H1.out⟩
  rw [H.out.2, sameN]
  have h := HE.out
  simp only [decide_eq_decide]
  grind
end Go.Proofs.YtlklmpjakeedcaaGreatDoor
set_option linter.unusedVariables false
set_option linter.unusedSimpArgs false
set_option linter.unnecessarySimpa false
namespace Go.Proofs.YtlklmpjakeedcaaGreatDoor
open Go.RowKit Go.MapKept Go.Shelf

/-- Rows of numbers, as they lie. -/
def IntRows (w : World) (a : Option Addr) (VS : List Is) : Prop := ∀ i (h : i < VS.length), ∃ b o, a = some ⟨b, o, none⟩ ∧ w.cell? ⟨b, o + i, none⟩ = some VS[i].cell ∧ Ints w VS[i].1 VS[i].2.2 ∧ VS[i].2.2.length ≤ 9223372036854775807
theorem OwnIs.rows {B : Nat} {w : World} {a : Option Addr} {c : Nat} {VS : List Is} (h : OwnIs B w a c VS) : IntRows w a VS := fun i hi => by
  obtain ⟨gb, rfl, hgb, hgc⟩ := h.at hi
  have := (ownInts_read (h.each _ (List.getElem_mem hi)).own).2.2
  simp only [maxLen] at this
  exact ⟨gb, 0, rfl, by rw [Nat.zero_add]; exact hgc, h.ints hi, by omega⟩
theorem IntRows.keep {w w' : World} {a : Option Addr} {VS : List Is} (h : IntRows w a VS) (k : Kp w w') : IntRows w' a VS := fun i hi => by
  obtain ⟨b, o, rfl, h1, h2, h3⟩ := h i hi
  exact ⟨b, o, rfl, k.2 _ _ h1, h2.keep k, h3⟩

end Go.Proofs.YtlklmpjakeedcaaGreatDoor
set_option linter.unusedVariables false
set_option linter.unusedSimpArgs false
namespace Go.Proofs.YtlklmpjakeedcaaGreatDoor
open Go.RowKit Go.MapKept Go.Shelf

def smallB (ns : List Nd) : Bool := decide (ns.length ≤ 3000) && !ns.isEmpty && ns.all fun x => decide (x.kids.length ≤ 3000) && x.kids.all fun z => decide (-100000 ≤ z) && decide (z ≤ 100000)
theorem small_of {ns : List Nd} (h : smallB ns = true) : Small ns := by
  simp only [smallB, Bool.and_eq_true, decide_eq_true_eq, Bool.not_eq_true', List.all_eq_true] at h
  exact ⟨h.1.1, fun e => by rw [e] at h; simp at h, fun x hx => ⟨(h.2 x hx).1, fun z hz => (h.2 x hx).2 z hz⟩⟩
def wfB (g : Gr) : Bool := (g.nodes.all fun x => decide (I64 x.k) && decide (I64 x.r) && decide (I64 x.l) && (x.kids.all fun z => decide (I64 z)) && decide (x.s.size ≤ maxLen)) && g.rules.all fun r => decide (r.name.size ≤ maxLen) && decide (I64 r.body)
theorem wf_of {g : Gr} (h : wfB g = true) : g.Wf := by
  simp only [wfB, Bool.and_eq_true, decide_eq_true_eq, List.all_eq_true] at h
  exact ⟨fun x hx => ⟨(h.1 x hx).1.1.1.1, (h.1 x hx).1.1.1.2, (h.1 x hx).1.1.2, (h.1 x hx).1.2, (h.1 x hx).2⟩, fun r hr => (h.2 r hr).1, fun r hr => (h.2 r hr).2⟩
theorem NewGramRows.new {w : World} {g : Gr} {e : Ending} {w' : World} (h : NewGramRows w g e w') (wf : g.Wf) : NewGram w g e w' := by
  obtain ⟨a1, c1, a2, c2, L, h1, h2, h3, h4, h5⟩ := h
  obtain ⟨k1, k2, k3, k4⟩ := rules_row (row_base h3 (Nat.zero_le _))
  obtain ⟨m1, m2, m3⟩ := h4.read
  rw [h2] at m1
  have hl : L.length = g.nodes.length := by rw [← h2]; simp
  rw [hl] at m2
  exact ⟨a1, c1, a2, c2, h1, ⟨rfl, k3, k4, k1, rfl, m2, m3, m1, wf⟩, h5⟩
def reachB (g : Gr) : Bool := decide (g.rules.length ≤ 17592186044416) && decide (g.nodes.length ≤ 17592186044416) && g.nodes.all fun x => decide (x.kids.length ≤ 17592186044416)
theorem reach_of {g : Gr} (h : reachB g = true) : Reach g := by
  simp only [reachB, Bool.and_eq_true, decide_eq_true_eq, List.all_eq_true] at h
  exact ⟨h.1.1, h.1.2, h.2⟩

theorem kids_few {g : Gr} (h : smallG g) : g.rules.length ≤ 300 ∧ g.nodes.length ≤ 300 ∧ ∀ x ∈ g.nodes, x.kids.length ≤ 300 := by
  unfold smallG at h
  refine ⟨by omega, by omega, fun x hx => ?_⟩
  obtain ⟨i, hi, rfl⟩ := List.mem_iff_getElem.1 hx
  have := kids_le_sum g.nodes i hi
  omega

end Go.Proofs.YtlklmpjakeedcaaGreatDoor
set_option linter.unusedVariables false
set_option linter.unusedSimpArgs false
namespace Go.Proofs.YtlklmpjakeedcaaGreatDoor
open Go.RowKit Go.MapKept Go.Shelf

def ex12 : Gr := gramL [ofL 7 [ofL 6 [ofL 10 [[callN 1 0]], [callN 0 0], [wordN ⟨#[120]⟩]], ofL 6 [ofL 11 [[callN 2 0]], [bareN 2]]], ofL 6 [[wordN ⟨#[98]⟩], [callN 0 0]], ofL 6 [ofL 8 [[wordN ⟨#[99]⟩]], [callN 2 0]]]
theorem ex12_says : graphG ex12 = [[0, 1, 2], [], [2]] ∧ toL ex12 0 = [0, 1, 2] ∧ goesB ex12 0 = true ∧ goesB ex12 1 = false ∧ goesB ex12 2 = true ∧ wayL ex12 0 2 = [0, 2] := by decide +kernel
theorem ints_lit {w : World} {zs : List Int} {k : Nat} {t : TypeId} (h : w.heap[k]? = some (.cells (zs.map (Value.int .i64)).toArray t (0, 0))) : Ints w (some ⟨k, 0, none⟩) zs := by
  intro i hi
  refine ⟨k, 0, rfl, ?_⟩
  rw [cell_of_cells h]
  simp [hi]
end Go.Proofs.YtlklmpjakeedcaaGreatDoor

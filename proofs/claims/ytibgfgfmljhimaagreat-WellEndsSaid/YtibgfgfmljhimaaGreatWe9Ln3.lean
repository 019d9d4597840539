/-
  Two rules compared.
  Conditions: none.
-/
import Derived.Test.YtibgfgfmljhimaaGreatWe9GCopy
import Derived.Laws.StructEq
import Derived.Test.YtibgfgfmljhimaaGreatWe9Ln2
set_option linter.unusedVariables false
set_option linter.unusedSimpArgs false
namespace Go.Proofs.YtibgfgfmljhimaaGreat
open Go.RowKit Go.MapKept Go.Shelf
theorem Tryz.ruleFields : Tryz.prog.underlying 43 = some (.struct (Tryz.prog.fieldsOf 43)) := by kernel_rfl
theorem Tryz.ruleStood : Tryz.prog.stoodInHeld 43 = false := by kernel_rfl
@[go_sem] theorem Tryz.ruleGuard (op : BinOp) (x y : Operand) (xs ys : Array Value) (w : World) : (eqGuard op 43 x y (.agg xs) (.agg ys)).run Tryz.prog w = .ok () w := run_eqGuard_agg w op _ x y xs ys (by kernel_rfl)
@[go_sem] theorem rule_eq (a a' : ByteArray) (b b' : Int) (w : World) :
    (Op.equalIn 10000 43 (.agg #[.string a, .int .i64 b]) (.agg #[.string a', .int .i64 b'])).run Tryz.prog w = .ok (decide (a.toList = a'.toList ∧ b = b')) w := by
  rw [show (10000 : Nat) = 9999 + 1 from rfl, run_equalIn_struct w 9999 _ _ _ Tryz.ruleFields Tryz.ruleStood]
  simp only [Program.fieldsOf, Tryz.underlying43]
  have e1 := fun (w : World) => run_equalIn_string (P := Tryz.prog) w 9998 9 a a' Tryz.underlying9
  have e2 := fun (w : World) => run_equalIn_int (P := Tryz.prog) w 9998 3 .i64 .i64 b b' Tryz.underlying3
  simp only [Op.eqFields]
  simp [part, isAgg, run_underlying Tryz.underlying9, run_underlying Tryz.underlying3, e1, e2]
  by_cases h1 : a.toList = a'.toList <;> by_cases h2 : b = b' <;> simp [h1, h2, isAgg, run_underlying Tryz.underlying9, run_underlying Tryz.underlying3, e1, e2]
end Go.Proofs.YtibgfgfmljhimaaGreat
set_option linter.unusedVariables false
set_option linter.unusedSimpArgs false
namespace Go.Proofs.YtibgfgfmljhimaaGreat
open Go.RowKit Go.MapKept Go.Shelf

/-- Two nodes, field by field. -/
def sameN (x y : Nd) : Bool := decide (x.k = y.k ∧ (x.c0 = y.c0 ∧ x.c1 = y.c1 ∧ x.c2 = y.c2 ∧ x.c3 = y.c3) ∧ x.s.toList = y.s.toList ∧ x.r = y.r ∧ x.l = y.l ∧ x.kids = y.kids)
theorem sameN_refl (x : Nd) : sameN x x = true := by simp [sameN]

structure SameAt (w : World) (B : Nat) (vx vy : Array Value) (t : TypeId) (wr : World) : Prop where
  bx : wr.heap[B]? = some (.cells vx t (0, 0))
  bY : wr.heap[B + 1]? = some (.cells vy t (0, 0))
  ch : Chg [] w wr
theorem SameAt.new (w : World) (vx vy : Array Value) (t : TypeId) : SameAt w w.heap.size vx vy t ((w.alloc (.cells vx t)).alloc (.cells vy t)) :=
  ⟨heap_alloc_lt (heap_alloc_same _ _) _, by have := heap_alloc_same (w.alloc (.cells vx t)) (.cells vy t); rw [World.size_alloc] at this; exact this, ((Chg.refl _ _).alloc _).alloc _⟩
theorem SameAt.keep {w wr w' : World} {B : Nat} {vx vy : Array Value} {t : TypeId} (h : SameAt w B vx vy t wr) (hc : Chg [] wr w') : SameAt w B vx vy t w' := ⟨hc.heap h.bx (by simp), hc.heap h.bY (by simp), h.ch.tr hc⟩

end Go.Proofs.YtibgfgfmljhimaaGreat
set_option linter.unusedVariables false
set_option linter.unusedSimpArgs false
namespace Go.Proofs.YtibgfgfmljhimaaGreat
open Go.RowKit Go.MapKept Go.Shelf

def sameR (r q : Rl) : Bool := decide (r.name.toList = q.name.toList ∧ r.body = q.body)
def sameRs : List Rl → List Rl → Bool
  | [], [] => true
  | r :: rs, q :: qs => sameR r q && sameRs rs qs
  | _, _ => false
def sameNs : List Nd → List Nd → Bool
  | [], [] => true
  | x :: xs, y :: ys => sameN x y && sameNs xs ys
  | _, _ => false
def sameG (g h : Gr) : Bool := sameRs g.rules h.rules && sameNs g.nodes h.nodes
theorem sameRs_refl (l : List Rl) : sameRs l l = true := by
  induction l with
  | nil => rfl
  | cons r rs ih => simp [sameRs, sameR, ih]
theorem sameNs_refl (l : List Nd) : sameNs l l = true := by
  induction l with
  | nil => rfl
  | cons r rs ih => simp [sameNs, sameN_refl, ih]
theorem sameG_refl (g : Gr) : sameG g g = true := by simp [sameG, sameRs_refl, sameNs_refl]
theorem sameRs_iff (l m : List Rl) : sameRs l m = true ↔ l.length = m.length ∧ ∀ i (h : i < l.length) (h' : i < m.length), sameR l[i] m[i] = true := by
  induction l generalizing m with
  | nil => cases m with
    | nil => simp [sameRs]
    | cons _ _ => simp [sameRs]
  | cons r rs ih => cases m with
    | nil => simp [sameRs]
    | cons q qs =>
      simp only [sameRs, Bool.and_eq_true, ih, List.length_cons, Nat.add_right_cancel_iff]
      constructor
      · rintro ⟨h1, h2, h3⟩
        refine ⟨h2, fun i hi hi' => ?_⟩
        cases i with
        | zero => exact h1
        | succ i => exact h3 i (by omega) (by omega)
      · rintro ⟨h1, h2⟩
        exact ⟨h2 0 (by omega) (by omega), h1, fun i hi hi' => h2 (i + 1) (by omega) (by omega)⟩
theorem sameNs_iff (l m : List Nd) : sameNs l m = true ↔ l.length = m.length ∧ ∀ i (h : i < l.length) (h' : i < m.length), sameN l[i] m[i] = true := by
  induction l generalizing m with
  | nil => cases m with
    | nil => simp [sameNs]
    | cons _ _ => simp [sameNs]
  | cons r rs ih => cases m with
    | nil => simp [sameNs]
    | cons q qs =>
      simp only [sameNs, Bool.and_eq_true, ih, List.length_cons, Nat.add_right_cancel_iff]
      constructor
      · rintro ⟨h1, h2, h3⟩
        refine ⟨h2, fun i hi hi' => ?_⟩
        cases i with
        | zero => exact h1
        | succ i => exact h3 i (by omega) (by omega)
      · rintro ⟨h1, h2⟩
        exact ⟨h2 0 (by omega) (by omega), h1, fun i hi hi' => h2 (i + 1) (by omega) (by omega)⟩
end Go.Proofs.YtibgfgfmljhimaaGreat
set_option linter.unusedVariables false
set_option linter.unusedSimpArgs false
namespace Go.Proofs.YtibgfgfmljhimaaGreat
open Go.RowKit Go.MapKept Go.Shelf

set_option maxRecDepth 100000 in
set_option maxHeartbeats 2000000 in
theorem sameInts_any (w : World) (a b : Option Addr) (n c m d' : Nat) (xs ys : List Int) (hn : n = xs.length) (hm : m = ys.length) (hs : n ≤ 9223372036854775807) (hx : Ints w a xs) (hy : Ints w b ys) :
    Calls Tryz.prog 46 #[.slice a n c, .slice b m d'] w fun e w' => e = .returned (.bool (decide (xs = ys))) ∧ Chg [] w w' := by
  obtain ⟨R, hR⟩ : ∃ R, R = decide (xs = ys) := ⟨_, rfl⟩
  rw [← hR]
  have H := Lib.hid (And.intro hn (And.intro hm (And.intro hx (And.intro hy hR))))
  clear hn hm hx hy hR
  by_cases hnm : n = m
  · subst hnm
    go_enter Tryz.func46, Tryz.ntmps46
    go_wp2_with fail
    go_loopg [5] n (fun d iv wr => ∃ k : Nat, d = n - k ∧ k ≤ n ∧ iv = .int .i64 k ∧ Hid (Chg [] w wr ∧ xs.take k = ys.take k))
    case atStart => exact ⟨0, rfl, Nat.zero_le _, rfl, Lib.hid ⟨Chg.refl _ _, rfl⟩⟩
    case round =>
      obtain ⟨k, rfl, hk, rfl, hin⟩ := hrel
      obtain ⟨wq, rfl⟩ : ∃ wq, wq = wr := ⟨_, rfl⟩
      by_cases hlt : k < n
      · have hkx : k < xs.length := by have := H.out.1; omega
        have hky : k < ys.length := by have := H.out.2.1; omega
        obtain ⟨bx, ox, rfl, hx⟩ := H.out.2.2.1 k hkx
        obtain ⟨bb, oy, rfl, hy⟩ := H.out.2.2.2.1 k hky
        have hx := hin.out.1.kp.2 _ _ hx
        have hy := hin.out.1.kp.2 _ _ hy
        obtain ⟨zx, hzx⟩ : ∃ z, z = xs[k] := ⟨_, rfl⟩
        obtain ⟨zy, hzy⟩ : ∃ z, z = ys[k] := ⟨_, rfl⟩
        rw [← hzx] at hx
        rw [← hzy] at hy
        have HZ := Lib.hid (And.intro hzx hzy)
        clear hzx hzy
        go_wp2_with fail
        go_quiet (fail)
        go_wp2_with fail
        · go_ret
          rename_i hz
          refine ⟨ret_bool ?_, hin.out.1.drewN _⟩
          rw [H.out.2.2.2.2]
          symm
          rw [decide_eq_false_iff_not]
          intro hkk
          have : zx = zy := by rw [HZ.out.1, HZ.out.2]; simp only [hkk]
          simp [this] at hz
        · go_roundg (n - (k + 1))
          case measure => omega
          case rel =>
            rename_i hz
            refine ⟨k + 1, rfl, by omega, by go_num, Lib.hid ⟨hin.out.1.drewN _, ?_⟩⟩
            have : zx = zy := by simpa using hz
            rw [List.take_succ_eq_append_getElem hkx, List.take_succ_eq_append_getElem hky, hin.out.2, ← HZ.out.1, ← HZ.out.2, this]
      · obtain rfl : k = n := by omega
        go_wp2
        go_ret
        refine ⟨ret_bool ?_, hin.out.1⟩
        rw [H.out.2.2.2.2]
        symm
        rw [decide_eq_true_eq]
        have hkk := hin.out.2
        have h1 := H.out.1
        have h2 := H.out.2.1
        rw [List.take_of_length_le (by omega), List.take_of_length_le (by omega)] at hkk
        exact hkk
  · have hb : (((n : Int)) != ((m : Int))) = true := by simp; omega
    have hnm' : ¬ ((n : Int) = (m : Int)) := by omega
    go_enter Tryz.func46, Tryz.ntmps46
    go_wp2_with fail
    go_ret
    refine ⟨ret_bool ?_, Chg.refl _ _⟩
    rw [H.out.2.2.2.2]
    symm
    rw [decide_eq_false_iff_not]
    intro hkk
    have h1 := H.out.1
    have h2 := H.out.2.1
    rw [hkk] at h1
    omega
end Go.Proofs.YtibgfgfmljhimaaGreat
set_option linter.unusedVariables false
set_option linter.unusedSimpArgs false
namespace Go.Proofs.YtibgfgfmljhimaaGreat
open Go.RowKit Go.MapKept Go.Shelf

set_option maxRecDepth 100000 in
set_option maxHeartbeats 2000000 in
theorem kitSameNode_any (w : World) (x y : Nd) (a b : Option Addr) (n c m d' : Nat) (hn : n = x.kids.length) (hm : m = y.kids.length) (hs : n ≤ 9223372036854775807) (hx : Ints w a x.kids) (hy : Ints w b y.kids) :
    Calls Tryz.prog 130 #[.agg (x.cells a n c), .agg (y.cells b m d')] w fun e w' => e = .returned (.bool (sameN x y)) ∧ Chg [] w w' := by
  obtain ⟨R, hR⟩ : ∃ R, R = sameN x y := ⟨_, rfl⟩
  rw [← hR]
  have hk := fun (w1 : World) (h1 : Chg [] w w1) => sameInts_any w1 a b n c m d' x.kids y.kids hn hm hs (hx.keep h1.kp) (hy.keep h1.kp)
  have H := Lib.hid (And.intro hk hR)
  clear hn hm hx hy hR hk
  unfold Nd.cells
  obtain ⟨xk, x0, x1, x2, x3, xs, xr, xl, xkids⟩ := x
  obtain ⟨yk, y0, y1, y2, y3, ys, yr, yl, ykids⟩ := y
  dsimp only at H ⊢
  go_enter Tryz.func130, Tryz.ntmps130
  go_wp2_with fail
  all_goals try (go_ret; refine ⟨ret_bool ?_, ((Chg.refl _ _).alloc _).alloc _⟩; have hR := H.out.2; clear H; rw [hR, sameN]; simp only [beq_iff_eq, beq_eq_false_iff_ne, bne_iff_ne, ne_eq, decide_eq_true_eq, decide_eq_false_iff_not] at *; grind)
  refine (H.out.1 _ (((Chg.refl _ _).alloc _).alloc _)).mono ?_
  rintro e w1 ⟨rfl, hc⟩
  have H1 := Lib.hid ((((Chg.refl [] w).alloc _).alloc _).tr hc)
  clear hc
  rename_i e5 e4 e3 e2 e1 _ _
  have HE := Lib.hid (And.intro e5 (And.intro e4 (And.intro e3 (And.intro e2 e1))))
  clear e5 e4 e3 e2 e1
  go_wp2_with fail
  go_ret
  refine ⟨ret_bool ?_, H1.out⟩
  rw [H.out.2, sameN]
  have h := HE.out
  simp only [decide_eq_decide]
  grind
end Go.Proofs.YtibgfgfmljhimaaGreat
set_option linter.unusedVariables false
set_option linter.unusedSimpArgs false
set_option linter.unnecessarySimpa false
namespace Go.Proofs.YtibgfgfmljhimaaGreat
open Go.RowKit Go.MapKept Go.Shelf

def marksR (m : Nat) : List Rl := (List.range m).map fun (i : Nat) => (⟨⟨#[]⟩, markZ 1 i⟩ : Rl)
theorem marksR_succ (m : Nat) : marksR (m + 1) = marksR m ++ [⟨⟨#[]⟩, markZ 1 m⟩] := by simp [marksR, List.range_succ]
theorem marksR_len (m : Nat) : (marksR m).length = m := by simp [marksR]
theorem rulesCells_app (a b : List Rl) : rulesCells (a ++ b) = rulesCells a ++ rulesCells b := by simp [rulesCells]
theorem rules_one (l : List Rl) : ∀ u ∈ rulesCells l, u.oneCell' = true := by
  intro u hu
  obtain ⟨z, _, hz⟩ := List.mem_flatMap.1 hu
  simp only [Rl.cells, List.mem_cons, List.not_mem_nil, or_false] at hz
  rcases hz with rfl | rfl <;> rfl

set_option maxRecDepth 100000 in
set_option maxHeartbeats 1000000 in
theorem markRule_any (w : World) (k i : Int) (h1 : 0 ≤ k) (h2 : k ≤ 1000000) (h3 : 0 ≤ i) (h4 : i ≤ 1099511627776) :
    Calls Tryz.prog 122 #[.int .i64 k, .int .i64 i] w fun e w' => e = .returned (.agg #[.string ⟨#[]⟩, .int .i64 (markZ k i)]) ∧ Chg [] w w' := by
  go_enter Tryz.func122, Tryz.ntmps122
  go_wp2_with fail
  refine (mark_any _ k i h1 h2 h3 h4).mono ?_
  rintro e w2 ⟨rfl, hc2⟩
  obtain ⟨mz, hmz⟩ : ∃ mz, mz = markZ k i := ⟨_, rfl⟩
  rw [← hmz]
  have hb := hc2.heap (heap_alloc_same w (.cells #[.string ⟨#[]⟩, .int .i64 0] 43)) (by simp)
  have HC := Lib.hid (And.intro (((Chg.refl [] w).alloc (.cells #[.string ⟨#[]⟩, .int .i64 0] 43)).tr hc2) hmz)
  obtain ⟨x0, x1⟩ := cells2 hb
  have f0 := free_of_cells hb 0
  have f1 := free_of_cells hb 1
  have hlt := lt_of_block hb
  clear hc2 hmz hb
  go_wp2_with fail
  refine bodyPost_ret (v := .agg #[.string ⟨#[]⟩, .int .i64 mz]) (by simp [results, Tryz.results122, go_sem, x0, x1, f0, f1, hlt]) rfl ?_
  refine ⟨by rw [HC.out.2], (HC.out.1.setCell (p := ⟨w.heap.size, 0, none⟩) (.inr (Nat.le_refl _)) _).setCell (p := ⟨w.heap.size, 1, none⟩) (.inr (Nat.le_refl _)) _⟩

/-- Rules, with marks behind their end. -/
def LentR (w : World) (rs : List Rl) (e : Ending) (w' : World) : Prop :=
  ∃ b c, e = .returned (.slice (some ⟨b, 0, none⟩) rs.length c) ∧ w'.ownsRow w.heap.size 43 2 (.slice (some ⟨b, 0, none⟩) (rs.length + 12) c) (rs.length + 12) (rulesCells (rs ++ marksR 12)) ∧ Chg [] w w'

set_option maxRecDepth 100000 in
set_option maxHeartbeats 4000000 in
theorem LentRules_any (w : World) (a : Option Addr) (n c : Nat) (zs : List Rl) (hn : n = zs.length) (hs : n ≤ 1099511627776) (hz : Rules w a zs) :
    Calls Tryz.prog 84 #[.slice a n c] w (LentR w zs) := by
  obtain ⟨i0, hi, hz0, hz1, hz2⟩ := info_parts Tryz.infoRule
  obtain ⟨ob, hmk, hob⟩ := made_row (P := Tryz.prog) (t := 22) Tryz.underlying22 hi hz0 hz1 (m := n + 12) (by rw [hz2]; omega) (by simp only [maxLen]; omega)
  rw [show ((n + 12 : Nat) : Int) = (n : Int) + 12 by omega] at hmk
  have hnone : a = none → n = 0 := fun h => by subst h; rw [hn, rules_none hz]; rfl
  have hsome : ∀ b, a = some b → ∀ j u, (rulesCells zs)[j]? = some u → (w.alloc ob).cell? (b.add j) = some u := fun b h j u hu => by
    subst h; exact (((Chg.refl [] w).alloc ob).kp).2 _ _ (rules_some hz j u hu)
  have h1 := rules_one
  have HH := Lib.hid (And.intro hn (And.intro (hob w w.heap.size (Nat.le_refl _)) (And.intro hnone (And.intro hsome (And.intro (h1 zs) (show (0 + n ≤ maxLen ∧ (0 + n) * 24 ≤ 140737488355328) by simp only [maxLen]; omega))))))
  have HO := Lib.hid h1
  have hl : (rulesCells zs).length = n * 2 := by rw [rulesCells_len, hn]
  have HL := Lib.hid hl
  clear hn hz hob hnone hsome h1 hl
  go_enter Tryz.func84, Tryz.ntmps84
  go_wp2_with (at_builtin; refine wpList_append_two rfl _ _ 22 rfl w.heap.size 43 i0 _ 2 24 Tryz.underlying22 hi hz0 hz1 hz2 rfl (by decide) (.slice (some ⟨w.heap.size, 0, none⟩) 0 (n + 12)) 0 [] rfl HH.out.2.1 a n c (rulesCells zs) rfl HL.out HH.out.2.2.1 HH.out.2.2.2.1 HH.out.2.2.2.2.1 HH.out.2.2.2.2.2.1 HH.out.2.2.2.2.2.2 (by simp) ?_; intro v' w1 hown hgrow hblk; obtain ⟨a', c', rfl⟩ := ownsRow_slice hown; have HW := Lib.hid (And.intro hown hgrow); clear hown hgrow hblk)
  go_loopg [3, 4] 12 (fun dd lv iv wr => ∃ (i : Nat) (b : Option Addr) (d : Nat), dd = 12 - i ∧ i ≤ 12 ∧ lv = .slice b (n + i) d ∧ iv = .int .i64 i ∧ Hid (wr.ownsRow w.heap.size 43 2 (.slice b (n + i) d) (n + i) (rulesCells (zs ++ marksR i)) ∧ Chg [] w wr))
  case atStart =>
    refine ⟨0, a', c', rfl, Nat.zero_le _, ?_, rfl, Lib.hid ⟨?_, ?_⟩⟩
    · simp
    · have := HW.out.1
      simpa [marksR] using this
    · exact ((Chg.refl [] w).alloc ob).grown HW.out.2 (fun k hk => .inr (by simp [Value.ownBlock] at hk; omega))
  case round =>
    obtain ⟨i, b, d, rfl, hi12, rfl, rfl, hin⟩ := hrel
    obtain ⟨wq, rfl⟩ : ∃ wq, wq = wr := ⟨_, rfl⟩
    by_cases hlt : i < 12
    · go_wp2_with fail
      refine (markRule_any wq 1 i (by omega) (by omega) (by omega) (by omega)).mono ?_
      rintro e w2 ⟨rfl, hc2⟩
      obtain ⟨mz, hmz⟩ : ∃ mz, mz = markZ 1 i := ⟨_, rfl⟩
      rw [← hmz]
      have hca := hc2.alloc (.cells #[.string ⟨#[]⟩, .int .i64 mz] 43)
      have hrow := hca.row hin.out.1 (fun _ _ => by simp)
      have hnew := cells_at (w := w2.alloc (.cells #[.string ⟨#[]⟩, .int .i64 mz] 43)) (heap_alloc_same _ _)
      have h2 : n + i + 1 ≤ maxLen ∧ (n + i + 1) * 24 ≤ 140737488355328 := by simp only [maxLen]; omega
      have hch := hin.out.2.tr hca
      have HA := Lib.hid (And.intro hrow (And.intro hnew (And.intro h2 (And.intro hch hmz))))
      have hbs := hch.size
      clear hrow hnew h2 hch hca hc2 hmz
      go_wp2_with (at_builtin; refine wpList_append_own_at _ rfl _ _ 22 rfl w.heap.size 43 i0 _ 2 24 Tryz.underlying22 hi hz0 hz1 hz2 rfl (by decide) (.slice b (n + i) d) (n + i) _ rfl HA.out.1 ⟨w2.heap.size, 0, none⟩ 1 1 [.string ⟨#[]⟩, .int .i64 mz] rfl rfl HA.out.2.1 (HO.out [⟨⟨#[]⟩, mz⟩]) HA.out.2.2.1.1 HA.out.2.2.1.2 hbs ?_; intro v' w5 hr5 hg5 hn5 hb5; obtain ⟨a5, c5, rfl⟩ := ownsRow_slice hr5; have HX := Lib.hid (And.intro hr5 hg5); clear hr5 hg5 hn5 hb5)
      go_roundg (12 - (i + 1))
      case measure => omega
      case rel =>
        refine ⟨i + 1, a5, c5, rfl, by omega, rfl, by go_num, Lib.hid ⟨?_, HA.out.2.2.2.1.grown HX.out.2 (fun j hj => .inr (row_beyond HA.out.1 hj).1)⟩⟩
        have := HX.out.1
        rw [HA.out.2.2.2.2, show [Value.string ⟨#[]⟩, Value.int .i64 (markZ 1 i)] = rulesCells [⟨⟨#[]⟩, markZ 1 i⟩] from rfl, ← rulesCells_app, List.append_assoc, ← marksR_succ] at this
        exact this
    · obtain rfl : i = 12 := by omega
      obtain ⟨G, rfl, hd⟩ : ∃ G, b = some ⟨G, 0, none⟩ ∧ n + 12 ≤ d := by
        rcases hin.out.1.2 with ⟨h0, h1⟩ | ⟨g, cap, cur, h0, _, _, hn, _⟩
        · omega
        · cases h0; exact ⟨g, rfl, hn⟩
      have hdm : d ≤ 9223372036854775807 := by
        rcases hin.out.1.2 with ⟨h0, h1⟩ | ⟨g, cap, cur, h0, _, _, _, hc, _⟩
        · omega
        · cases h0; simp only [maxLen] at hc; exact hc
      go_wp2_with fail
      go_ret
      obtain ⟨h1, h2⟩ := hin.out
      have hn := HH.out.1
      subst hn
      exact ⟨G, d, rfl, h1, h2⟩
set_option maxRecDepth 100000 in
set_option maxHeartbeats 4000000 in
theorem KeptRules_any (w : World) (b o : Nat) (n c : Nat) (a : Option Addr) (n2 c2 : Nat) (zs : List Rl) (hn : n = zs.length) (hn2 : n2 = zs.length) (hs : n ≤ 1099511627776) (hc : n + 12 ≤ c) (hcm : c ≤ maxLen) (hz : Rules w (some ⟨b, o, none⟩) (zs ++ marksR 12)) (hl : Rules w a zs) :
    Calls Tryz.prog 90 #[.slice (some ⟨b, o, none⟩) n c, .slice a n2 c2] w fun e w' => e = .returned (.bool true) ∧ Chg [] w w' := by
  obtain rfl : n2 = n := by omega
  have hcm' : c ≤ 9223372036854775807 := by simp only [maxLen] at hcm; exact hcm
  have H := Lib.hid (And.intro hn (And.intro hz hl))
  clear hn hn2 hz hl hcm
  go_enter Tryz.func90, Tryz.ntmps90
  go_wp2_with fail
  go_loopg [6] (n2 + 12) (fun dd iv wr => ∃ i : Nat, dd = n2 + 12 - i ∧ i ≤ n2 + 12 ∧ iv = .int .i64 i ∧ Hid (Chg [] w wr))
  case atStart => exact ⟨0, rfl, Nat.zero_le _, rfl, Lib.hid (Chg.refl _ _)⟩
  case round =>
    obtain ⟨i, rfl, hi, rfl, hin⟩ := hrel
    obtain ⟨wq, rfl⟩ : ∃ wq, wq = wr := ⟨_, rfl⟩
    by_cases hlt : i < n2 + 12
    · have hil : i < (zs ++ marksR 12).length := by rw [List.length_append, marksR_len, ← H.out.1]; exact hlt
      obtain ⟨b', o', hb', hx, hx'⟩ := (H.out.2.1.keep hin.out.kp) i hil
      obtain ⟨rfl, rfl⟩ : b = b' ∧ o = o' := by cases hb'; exact ⟨rfl, rfl⟩
      by_cases hiz : i < n2
      · have hzl : i < zs.length := by rw [← H.out.1]; exact hiz
        obtain ⟨b2, o2, rfl, hy, hy'⟩ := (H.out.2.2.keep hin.out.kp) i hzl
        rw [List.getElem_append_left hzl] at hx hx'
        obtain ⟨z, hzv⟩ : ∃ z, z = zs[i].name := ⟨_, rfl⟩
        obtain ⟨z', hzv'⟩ : ∃ z, z = zs[i].body := ⟨_, rfl⟩
        rw [← hzv] at hx hy
        rw [← hzv'] at hx' hy'
        have kx := cell_rg hx
        have ky := cell_rg hy
        have kx' := cell_rg hx'
        have ky' := cell_rg hy'
        have hd1 : decide ((i : Int) < n2) = true := decide_eq_true (by omega)
        have hd2 : decide (n2 ≤ i) = false := decide_eq_false (by omega)
        clear hx hy hx' hy' hzv hzv' hil hzl hb'
        go_wp2_with fail
        refine wp_region_quiet_below (by kernel_rfl) (by kernel_rfl) ?_
        repeat (go_big_quiet_step (fail))
        refine wpQuiet_nil ?_
        intro w7 hw7
        have HW := Lib.hid (hin.out.tr (chg_of_rg hw7))
        clear hw7 kx ky kx' ky' hd1 hd2
        go_wp2_with fail
        go_roundg (n2 + 12 - (i + 1))
        case measure => omega
        case rel => exact ⟨i + 1, rfl, by omega, by go_num, HW⟩
      · have hx2 : (zs ++ marksR 12)[i] = ⟨⟨#[]⟩, markZ 1 ((i : Int) - n2)⟩ := by
          have hzl : zs.length ≤ i := by rw [← H.out.1]; omega
          rw [List.getElem_append_right hzl]
          have hk : i - zs.length < 12 := by rw [← H.out.1]; omega
          simp only [marksR, List.getElem_map, List.getElem_range]
          congr 2
          have := H.out.1
          omega
        rw [hx2] at hx hx'
        have cA := calls_rg (w := wq) (fun w1 h1 => markRule_any w1 1 ((i : Int) - n2) (by omega) (by omega) (by omega) (by omega))
        obtain ⟨z, hzv⟩ : ∃ z, z = markZ 1 ((i : Int) - n2) := ⟨_, rfl⟩
        simp only at hx hx'
        rw [← hzv] at hx' cA
        have kx := cell_rg hx
        have kx' := cell_rg hx'
        have hd1 : decide ((i : Int) < n2) = false := decide_eq_false (by omega)
        have hd2 : decide (n2 ≤ i) = true := decide_eq_true (by omega)
        have hw1 : IntKind.i64.wrap ((i : Int) - n2) = (i : Int) - n2 := IntWalk.i64_in _ (by omega)
        clear hx hx' hzv hil hb' hx2
        go_wp2_with fail
        refine wp_region_quiet_below (by kernel_rfl) (by kernel_rfl) ?_
        repeat (go_big_quiet_step (with_reducible exact cA _ _))
        refine wpQuiet_nil ?_
        intro w7 hw7
        have HW := Lib.hid (hin.out.tr (chg_of_rg hw7))
        clear hw7 kx kx' hd1 hd2 cA hw1
        go_wp2_with fail
        go_roundg (n2 + 12 - (i + 1))
        case measure => omega
        case rel => exact ⟨i + 1, rfl, by omega, by go_num, HW⟩
    · obtain rfl : i = n2 + 12 := by omega
      go_wp2_with fail
      go_ret
      exact ⟨rfl, hin.out⟩
end Go.Proofs.YtibgfgfmljhimaaGreat

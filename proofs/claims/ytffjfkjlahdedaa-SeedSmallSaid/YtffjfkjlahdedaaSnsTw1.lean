/-
  Twigs: lists of them, read, compared, lent, kept, spoiled.
  Conditions: the lists read as data; they are not too long.
-/
import Derived.Test.YtffjfkjlahdedaaSnsLn1
import Derived.Test.YtffjfkjlahdedaaSnsSeedA
import Derived.Laws.StructEq
set_option linter.unusedVariables false
set_option linter.unusedSimpArgs false
set_option linter.unnecessarySimpa false
namespace Go.Proofs.Ytffjfkjlahdedaa
open Go.RowKit Go.MapKept Go.Shelf

/-- A list of twigs, read where it lies. -/
def Twigs (w : World) (a : Option Addr) (rs : List Tw) : Prop :=
  ∀ i (h : i < rs.length), ∃ b o, a = some ⟨b, o, none⟩ ∧ w.cell? ⟨b, o + i * 5, none⟩ = some (.int .i64 rs[i].r) ∧ w.cell? ⟨b, o + i * 5 + 1, none⟩ = some (.int .i64 rs[i].l) ∧ w.cell? ⟨b, o + i * 5 + 2, none⟩ = some (.int .i64 rs[i].f) ∧ w.cell? ⟨b, o + i * 5 + 3, none⟩ = some (.int .i64 rs[i].t) ∧ w.cell? ⟨b, o + i * 5 + 4, none⟩ = some (.int .i64 rs[i].k)
theorem Twigs.keep {w w' : World} {a : Option Addr} {rs : List Tw} (h : Twigs w a rs) (k : Kp w w') : Twigs w' a rs := fun i hi => by
  obtain ⟨b, o, h1, h2, h3, h4, h5, h6⟩ := h i hi
  exact ⟨b, o, h1, k.2 _ _ h2, k.2 _ _ h3, k.2 _ _ h4, k.2 _ _ h5, k.2 _ _ h6⟩
theorem twigs_none {w : World} {rs : List Tw} (h : Twigs w none rs) : rs = [] := by
  cases rs with
  | nil => rfl
  | cons z zs => obtain ⟨b, o, h1, _⟩ := h 0 (by simp); cases h1
theorem twigs_some {w : World} {b : Addr} {rs : List Tw} (h : Twigs w (some b) rs) : ∀ j u, (twCells rs)[j]? = some u → w.cell? (b.add j) = some u := by
  intro j u hu
  have e : j = j / 5 * 5 + j % 5 := by omega
  rw [e, twCells, flat_get Tw.cells 5 (fun _ => rfl) rs _ _ (Nat.mod_lt _ (by decide))] at hu
  cases hr : rs[j / 5]? with
  | none => rw [hr] at hu; cases hu
  | some r =>
    rw [hr] at hu
    simp only [Option.bind_some] at hu
    obtain ⟨hk, hkr⟩ := List.getElem?_eq_some_iff.1 hr
    obtain ⟨b', o', e1, h2, h3, h4, h5, h6⟩ := h (j / 5) hk
    cases e1
    rw [hkr] at h2 h3 h4 h5 h6
    rw [Addr.add_lit]
    rcases (show j % 5 = 0 ∨ j % 5 = 1 ∨ j % 5 = 2 ∨ j % 5 = 3 ∨ j % 5 = 4 by omega) with h0 | h0 | h0 | h0 | h0
    all_goals
      rw [h0] at hu
      simp only [Tw.cells, List.getElem?_cons_zero, List.getElem?_cons_succ, Option.some.injEq] at hu
      subst hu
    · rw [show o' + j = o' + j / 5 * 5 by omega]; exact h2
    · rw [show o' + j = o' + j / 5 * 5 + 1 by omega]; exact h3
    · rw [show o' + j = o' + j / 5 * 5 + 2 by omega]; exact h4
    · rw [show o' + j = o' + j / 5 * 5 + 3 by omega]; exact h5
    · rw [show o' + j = o' + j / 5 * 5 + 4 by omega]; exact h6
theorem twigs_row {w : World} {base : Nat} {a : Option Addr} {n c : Nat} {rs : List Tw} (h : w.ownsRow base 33 5 (.slice a n c) rs.length (twCells rs)) : Twigs w a rs := by
  intro i hi
  rcases h.2 with ⟨h0, h1⟩ | ⟨g, cap, cur, h0, hb, hg, hn, hc, hs, ht⟩
  · omega
  · cases h0
    have key : ∀ r, r < 5 → w.cell? ⟨g, i * 5 + r, none⟩ = rs[i].cells[r]? := fun r hr => by
      rw [(row_put h (i := i * 5 + r) (by omega)).1]
      have h1 := flat_get Tw.cells 5 (fun _ => rfl) rs i r hr
      rw [List.getElem?_eq_getElem hi, Option.bind_some] at h1
      exact h1
    refine ⟨g, 0, rfl, ?_⟩
    rw [Nat.zero_add]
    exact ⟨key 0 (by decide), key 1 (by decide), key 2 (by decide), key 3 (by decide), key 4 (by decide)⟩
theorem cellsT5 {w : World} {b : Nat} {v0 v1 v2 v3 v4 : Value} {t : TypeId} {m : Nat × Nat} (h : w.heap[b]? = some (.cells #[v0, v1, v2, v3, v4] t m)) :
    w.cell? ⟨b, 0, none⟩ = some v0 ∧ w.cell? ⟨b, 1, none⟩ = some v1 ∧ w.cell? ⟨b, 2, none⟩ = some v2 ∧ w.cell? ⟨b, 3, none⟩ = some v3 ∧ w.cell? ⟨b, 4, none⟩ = some v4 :=
  ⟨cell_of_cells h 0, cell_of_cells h 1, cell_of_cells h 2, cell_of_cells h 3, cell_of_cells h 4⟩
def marksT (m : Nat) : List Tw := (List.range m).map fun (i : Nat) => (⟨markZ 1 i, 0, 0, 0, 0⟩ : Tw)
theorem marksT_succ (m : Nat) : marksT (m + 1) = marksT m ++ [⟨markZ 1 m, 0, 0, 0, 0⟩] := by simp [marksT, List.range_succ]
theorem marksT_len (m : Nat) : (marksT m).length = m := by simp [marksT]
theorem Try.twigFields : Try.prog.underlying 33 = some (.struct (Try.prog.fieldsOf 33)) := by kernel_rfl
theorem Try.twigStood : Try.prog.stoodInHeld 33 = false := by kernel_rfl
theorem Try.spanFields : Try.prog.underlying 31 = some (.struct (Try.prog.fieldsOf 31)) := by kernel_rfl
theorem Try.spanStood : Try.prog.stoodInHeld 31 = false := by kernel_rfl
@[go_sem] theorem Try.twigGuard (op : BinOp) (x y : Operand) (xs ys : Array Value) (w : World) : (eqGuard op 33 x y (.agg xs) (.agg ys)).run Try.prog w = .ok () w := run_eqGuard_agg w op _ x y xs ys (by kernel_rfl)
@[go_sem] theorem twig_eq (a b c d e : Int) (w : World) :
    (Op.equalIn 10000 33 (.agg #[.int .i64 a, .int .i64 b, .int .i64 c, .int .i64 d, .int .i64 e]) (.agg #[.int .i64 a, .int .i64 b, .int .i64 c, .int .i64 d, .int .i64 e])).run Try.prog w = .ok true w := by
  rw [show (10000 : Nat) = 9999 + 1 from rfl, run_equalIn_struct w 9999 _ _ _ Try.twigFields Try.twigStood]
  simp only [Program.fieldsOf, Try.underlying33]
  have e1 := fun (w : World) (x : Int) => run_equalIn_int (P := Try.prog) w 9998 3 .i64 .i64 x x Try.underlying3
  have e2 := fun (w : World) (x : Int) => run_equalIn_int (P := Try.prog) w 9997 3 .i64 .i64 x x Try.underlying3
  have e3 := fun (w : World) (x y : Int) => run_equalIn_struct (P := Try.prog) w 9998 31 #[.int .i64 x, .int .i64 y] #[.int .i64 x, .int .i64 y] Try.spanFields Try.spanStood
  simp only [Op.eqFields]
  simp [part, isAgg, run_underlying Try.underlying31, run_underlying Try.underlying3, e1, e2, e3, Program.fieldsOf, Try.underlying31, Op.eqFields]

set_option maxRecDepth 100000 in
set_option maxHeartbeats 1000000 in
theorem markTwig_any (w : World) (k i : Int) (h1 : 0 ≤ k) (h2 : k ≤ 1000000) (h3 : 0 ≤ i) (h4 : i ≤ 1099511627776) :
    Calls Try.prog 36 #[.int .i64 k, .int .i64 i] w fun e w' => e = .returned (.agg #[.int .i64 (markZ k i), .int .i64 0, .int .i64 0, .int .i64 0, .int .i64 0]) ∧ Chg [] w w' := by
  go_enter Try.func36, Try.ntmps36
  go_wp2_with fail
  refine (mark_any _ k i h1 h2 h3 h4).mono ?_
  rintro e w2 ⟨rfl, hc2⟩
  obtain ⟨mz, hmz⟩ : ∃ mz, mz = markZ k i := ⟨_, rfl⟩
  rw [← hmz]
  have hb := hc2.heap (heap_alloc_same w (.cells #[.int .i64 0, .int .i64 0, .int .i64 0, .int .i64 0, .int .i64 0] 33)) (by simp)
  have HC := Lib.hid (And.intro (((Chg.refl [] w).alloc (.cells #[.int .i64 0, .int .i64 0, .int .i64 0, .int .i64 0, .int .i64 0] 33)).tr hc2) hmz)
  obtain ⟨x0, x1, x2, x3, x4⟩ := cellsT5 hb
  have f0 := free_of_cells hb 0
  have f1 := free_of_cells hb 1
  have f2 := free_of_cells hb 2
  have f3 := free_of_cells hb 3
  have f4 := free_of_cells hb 4
  have hlt := lt_of_block hb
  clear hc2 hmz hb
  go_wp2_with fail
  refine bodyPost_ret (v := .agg #[.int .i64 mz, .int .i64 0, .int .i64 0, .int .i64 0, .int .i64 0]) (by simp [results, Try.results36, go_sem, x0, x1, x2, x3, x4, f0, f1, f2, f3, f4, hlt]) rfl ?_
  refine ⟨by rw [HC.out.2], ((((HC.out.1.setCell (p := ⟨w.heap.size, 0, none⟩) (.inr (Nat.le_refl _)) _).setCell (p := ⟨w.heap.size, 1, none⟩) (.inr (Nat.le_refl _)) _).setCell (p := ⟨w.heap.size, 2, none⟩) (.inr (Nat.le_refl _)) _).setCell (p := ⟨w.heap.size, 3, none⟩) (.inr (Nat.le_refl _)) _).setCell (p := ⟨w.heap.size, 4, none⟩) (.inr (Nat.le_refl _)) _⟩

/-- Twigs, with marks behind their end. -/
def LentT (w : World) (rs : List Tw) (e : Ending) (w' : World) : Prop :=
  ∃ b c, e = .returned (.slice (some ⟨b, 0, none⟩) rs.length c) ∧ w'.ownsRow w.heap.size 33 5 (.slice (some ⟨b, 0, none⟩) (rs.length + 12) c) (rs.length + 12) (twCells (rs ++ marksT 12)) ∧ Chg [] w w'

set_option maxRecDepth 100000 in
set_option maxHeartbeats 4000000 in
theorem LentTwigs_any (w : World) (a : Option Addr) (n c : Nat) (zs : List Tw) (hn : n = zs.length) (hs : n ≤ 1099511627776) (hz : Twigs w a zs) :
    Calls Try.prog 18 #[.slice a n c] w (LentT w zs) := by
  obtain ⟨i0, hi, hz0, hz1, hz2⟩ := info_parts Try.infoTwig
  obtain ⟨ob, hmk, hob⟩ := made_row (P := Try.prog) (t := 34) Try.underlying34 hi hz0 hz1 (m := n + 12) (by rw [hz2]; omega) (by simp only [maxLen]; omega)
  rw [show ((n + 12 : Nat) : Int) = (n : Int) + 12 by omega] at hmk
  have hnone : a = none → n = 0 := fun h => by subst h; rw [hn, twigs_none hz]; rfl
  have hsome : ∀ b, a = some b → ∀ j u, (twCells zs)[j]? = some u → (w.alloc ob).cell? (b.add j) = some u := fun b h j u hu => by
    subst h; exact (((Chg.refl [] w).alloc ob).kp).2 _ _ (twigs_some hz j u hu)
  have h1 := twCells_one
  have HH := Lib.hid (And.intro hn (And.intro (hob w w.heap.size (Nat.le_refl _)) (And.intro hnone (And.intro hsome (And.intro (h1 zs) (show (0 + n ≤ maxLen ∧ (0 + n) * 40 ≤ 140737488355328) by simp only [maxLen]; omega))))))
  have HO := Lib.hid h1
  have hl : (twCells zs).length = n * 5 := by rw [twCells_length, hn]
  have HL := Lib.hid hl
  clear hn hz hob hnone hsome h1 hl
  go_enter Try.func18, Try.ntmps18
  go_wp2_with (at_builtin; refine wpList_append_two rfl _ _ 34 rfl w.heap.size 33 i0 _ 5 40 Try.underlying34 hi hz0 hz1 hz2 rfl (by decide) (.slice (some ⟨w.heap.size, 0, none⟩) 0 (n + 12)) 0 [] rfl HH.out.2.1 a n c (twCells zs) rfl HL.out HH.out.2.2.1 HH.out.2.2.2.1 HH.out.2.2.2.2.1 HH.out.2.2.2.2.2.1 HH.out.2.2.2.2.2.2 (by simp) ?_; intro v' w1 hown hgrow hblk; obtain ⟨a', c', rfl⟩ := ownsRow_slice hown; have HW := Lib.hid (And.intro hown hgrow); clear hown hgrow hblk)
  go_loopg [3, 4] 12 (fun dd lv iv wr => ∃ (i : Nat) (b : Option Addr) (d : Nat), dd = 12 - i ∧ i ≤ 12 ∧ lv = .slice b (n + i) d ∧ iv = .int .i64 i ∧ Hid (wr.ownsRow w.heap.size 33 5 (.slice b (n + i) d) (n + i) (twCells (zs ++ marksT i)) ∧ Chg [] w wr))
  case atStart =>
    refine ⟨0, a', c', rfl, Nat.zero_le _, ?_, rfl, Lib.hid ⟨?_, ?_⟩⟩
    · simp
    · have := HW.out.1
      simpa [marksT] using this
    · exact ((Chg.refl [] w).alloc ob).grown HW.out.2 (fun k hk => .inr (by simp [Value.ownBlock] at hk; omega))
  case round =>
    obtain ⟨i, b, d, rfl, hi12, rfl, rfl, hin⟩ := hrel
    obtain ⟨wq, rfl⟩ : ∃ wq, wq = wr := ⟨_, rfl⟩
    by_cases hlt : i < 12
    · go_wp2_with fail
      refine (markTwig_any wq 1 i (by omega) (by omega) (by omega) (by omega)).mono ?_
      rintro e w2 ⟨rfl, hc2⟩
      obtain ⟨mz, hmz⟩ : ∃ mz, mz = markZ 1 i := ⟨_, rfl⟩
      rw [← hmz]
      have hca := hc2.alloc (.cells #[.int .i64 mz, .int .i64 0, .int .i64 0, .int .i64 0, .int .i64 0] 33)
      have hrow := hca.row hin.out.1 (fun _ _ => by simp)
      have hnew := cells_at (w := w2.alloc (.cells #[.int .i64 mz, .int .i64 0, .int .i64 0, .int .i64 0, .int .i64 0] 33)) (heap_alloc_same _ _)
      have h2 : n + i + 1 ≤ maxLen ∧ (n + i + 1) * 40 ≤ 140737488355328 := by simp only [maxLen]; omega
      have hch := hin.out.2.tr hca
      have HA := Lib.hid (And.intro hrow (And.intro hnew (And.intro h2 (And.intro hch hmz))))
      have hbs := hch.size
      clear hrow hnew h2 hch hca hc2 hmz
      go_wp2_with (at_builtin; refine wpList_append_own_at _ rfl _ _ 34 rfl w.heap.size 33 i0 _ 5 40 Try.underlying34 hi hz0 hz1 hz2 rfl (by decide) (.slice b (n + i) d) (n + i) _ rfl HA.out.1 ⟨w2.heap.size, 0, none⟩ 1 1 [.int .i64 mz, .int .i64 0, .int .i64 0, .int .i64 0, .int .i64 0] rfl rfl HA.out.2.1 (HO.out [⟨mz, 0, 0, 0, 0⟩]) HA.out.2.2.1.1 HA.out.2.2.1.2 hbs ?_; intro v' w5 hr5 hg5 hn5 hb5; obtain ⟨a5, c5, rfl⟩ := ownsRow_slice hr5; have HX := Lib.hid (And.intro hr5 hg5); clear hr5 hg5 hn5 hb5)
      go_roundg (12 - (i + 1))
      case measure => omega
      case rel =>
        refine ⟨i + 1, a5, c5, rfl, by omega, rfl, by go_num, Lib.hid ⟨?_, HA.out.2.2.2.1.grown HX.out.2 (fun j hj => .inr (row_beyond HA.out.1 hj).1)⟩⟩
        have := HX.out.1
        rw [HA.out.2.2.2.2, show [Value.int .i64 (markZ 1 i), Value.int .i64 0, Value.int .i64 0, Value.int .i64 0, Value.int .i64 0] = twCells [⟨markZ 1 i, 0, 0, 0, 0⟩] from rfl, ← twCells_append, List.append_assoc, ← marksT_succ] at this
        exact this
    · obtain rfl : i = 12 := by omega
      obtain ⟨G, rfl, hd⟩ : ∃ G, b = some ⟨G, 0, none⟩ ∧ n + 12 ≤ d := by
        rcases hin.out.1.2 with ⟨h0, h1⟩ | ⟨g, cap, cur, h0, _, _, hn, _⟩
        · omega
        · cases h0; exact ⟨g, rfl, hn⟩
      have hdm : d ≤ 9223372036854775807 := by
        rcases hin.out.1.2 with ⟨h0, h1⟩ | ⟨g, cap, cur, h0, _, _, _, hc, _⟩
        · omega
        · cases h0; simp only [maxLen] at hc; exact hc
      go_wp2_with fail
      go_ret
      obtain ⟨h1, h2⟩ := hin.out
      have hn := HH.out.1
      subst hn
      exact ⟨G, d, rfl, h1, h2⟩
set_option maxRecDepth 100000 in
set_option maxHeartbeats 4000000 in
theorem KeptTwigs_any (w : World) (b o : Nat) (n c : Nat) (a : Option Addr) (n2 c2 : Nat) (zs : List Tw) (hn : n = zs.length) (hn2 : n2 = zs.length) (hs : n ≤ 1099511627776) (hc : n + 12 ≤ c) (hcm : c ≤ maxLen) (hz : Twigs w (some ⟨b, o, none⟩) (zs ++ marksT 12)) (hl : Twigs w a zs) :
    Calls Try.prog 23 #[.slice (some ⟨b, o, none⟩) n c, .slice a n2 c2] w fun e w' => e = .returned (.bool true) ∧ Chg [] w w' := by
  obtain rfl : n2 = n := by omega
  have hcm' : c ≤ 9223372036854775807 := by simp only [maxLen] at hcm; exact hcm
  have H := Lib.hid (And.intro hn (And.intro hz hl))
  clear hn hn2 hz hl hcm
  go_enter Try.func23, Try.ntmps23
  go_wp2_with fail
  go_loopg [6] (n2 + 12) (fun dd iv wr => ∃ i : Nat, dd = n2 + 12 - i ∧ i ≤ n2 + 12 ∧ iv = .int .i64 i ∧ Hid (Chg [] w wr))
  case atStart => exact ⟨0, rfl, Nat.zero_le _, rfl, Lib.hid (Chg.refl _ _)⟩
  case round =>
    obtain ⟨i, rfl, hi, rfl, hin⟩ := hrel
    obtain ⟨wq, rfl⟩ : ∃ wq, wq = wr := ⟨_, rfl⟩
    by_cases hlt : i < n2 + 12
    · have hil : i < (zs ++ marksT 12).length := by rw [List.length_append, marksT_len, ← H.out.1]; exact hlt
      obtain ⟨b', o', hb', x0, x1, x2, x3, x4⟩ := (H.out.2.1.keep hin.out.kp) i hil
      obtain ⟨rfl, rfl⟩ : b = b' ∧ o = o' := by cases hb'; exact ⟨rfl, rfl⟩
      by_cases hiz : i < n2
      · have hzl : i < zs.length := by rw [← H.out.1]; exact hiz
        obtain ⟨b2, o2, rfl, y0, y1, y2, y3, y4⟩ := (H.out.2.2.keep hin.out.kp) i hzl
        rw [List.getElem_append_left hzl] at x0 x1 x2 x3 x4
        obtain ⟨z, hzv⟩ : ∃ z, z = zs[i] := ⟨_, rfl⟩
        rw [← hzv] at x0 x1 x2 x3 x4 y0 y1 y2 y3 y4
        obtain ⟨zr, zl, zf, zt, zk⟩ := z
        simp only at x0 x1 x2 x3 x4 y0 y1 y2 y3 y4
        have kx0 := cell_rg x0
        have kx1 := cell_rg x1
        have kx2 := cell_rg x2
        have kx3 := cell_rg x3
        have kx4 := cell_rg x4
        have ky0 := cell_rg y0
        have ky1 := cell_rg y1
        have ky2 := cell_rg y2
        have ky3 := cell_rg y3
        have ky4 := cell_rg y4
        have hd1 : decide ((i : Int) < n2) = true := decide_eq_true (by omega)
        have hd2 : decide (n2 ≤ i) = false := decide_eq_false (by omega)
        clear x0 x1 x2 x3 x4 y0 y1 y2 y3 y4 hzv hil hzl hb'
        go_wp2_with fail
        refine wp_region_quiet_below (by kernel_rfl) (by kernel_rfl) ?_
        repeat (go_big_quiet_step (fail))
        refine wpQuiet_nil ?_
        intro w7 hw7
        have HW := Lib.hid (hin.out.tr (chg_of_rg hw7))
        clear hw7 kx0 kx1 kx2 kx3 kx4 ky0 ky1 ky2 ky3 ky4 hd1 hd2
        go_wp2_with fail
        go_roundg (n2 + 12 - (i + 1))
        case measure => omega
        case rel => exact ⟨i + 1, rfl, by omega, by go_num, HW⟩
      · have hx2 : (zs ++ marksT 12)[i] = ⟨markZ 1 ((i : Int) - n2), 0, 0, 0, 0⟩ := by
          have hzl : zs.length ≤ i := by rw [← H.out.1]; omega
          rw [List.getElem_append_right hzl]
          have hk : i - zs.length < 12 := by rw [← H.out.1]; omega
          simp only [marksT, List.getElem_map, List.getElem_range]
          congr 2
          have := H.out.1
          omega
        rw [hx2] at x0 x1 x2 x3 x4
        have cA := calls_rg (w := wq) (fun w1 h1 => markTwig_any w1 1 ((i : Int) - n2) (by omega) (by omega) (by omega) (by omega))
        obtain ⟨z, hzv⟩ : ∃ z, z = markZ 1 ((i : Int) - n2) := ⟨_, rfl⟩
        simp only at x0 x1 x2 x3 x4
        rw [← hzv] at x0 cA
        have kx0 := cell_rg x0
        have kx1 := cell_rg x1
        have kx2 := cell_rg x2
        have kx3 := cell_rg x3
        have kx4 := cell_rg x4
        have hd1 : decide ((i : Int) < n2) = false := decide_eq_false (by omega)
        have hd2 : decide (n2 ≤ i) = true := decide_eq_true (by omega)
        have hw1 : IntKind.i64.wrap ((i : Int) - n2) = (i : Int) - n2 := IntWalk.i64_in _ (by omega)
        clear x0 x1 x2 x3 x4 hzv hil hb' hx2
        go_wp2_with fail
        refine wp_region_quiet_below (by kernel_rfl) (by kernel_rfl) ?_
        repeat (go_big_quiet_step (with_reducible exact cA _ _))
        refine wpQuiet_nil ?_
        intro w7 hw7
        have HW := Lib.hid (hin.out.tr (chg_of_rg hw7))
        clear hw7 kx0 kx1 kx2 kx3 kx4 hd1 hd2 cA hw1
        go_wp2_with fail
        go_roundg (n2 + 12 - (i + 1))
        case measure => omega
        case rel => exact ⟨i + 1, rfl, by omega, by go_num, HW⟩
    · obtain rfl : i = n2 + 12 := by omega
      go_wp2_with fail
      go_ret
      exact ⟨rfl, hin.out⟩

set_option maxRecDepth 100000 in
set_option maxHeartbeats 4000000 in
/-- The same twigs are the same. -/
theorem SameTwigs_any (w : World) (a b : Option Addr) (n c m d' : Nat) (zs : List Tw) (hn : n = zs.length) (hm : m = zs.length) (hs : n ≤ 1099511627776) (hx : Twigs w a zs) (hy : Twigs w b zs) :
    Calls Try.prog 43 #[.slice a n c, .slice b m d'] w fun e w' => e = .returned (.bool true) ∧ Chg [] w w' := by
  obtain rfl : m = n := by omega
  have H := Lib.hid (And.intro hn (And.intro hx hy))
  clear hn hm hx hy
  go_enter Try.func43, Try.ntmps43
  go_wp2_with fail
  go_loopg [5] m (fun dd iv wr => ∃ i : Nat, dd = m - i ∧ i ≤ m ∧ iv = .int .i64 i ∧ Hid (Chg [] w wr))
  case atStart => exact ⟨0, rfl, Nat.zero_le _, rfl, Lib.hid (Chg.refl _ _)⟩
  case round =>
    obtain ⟨i, rfl, hi, rfl, hin⟩ := hrel
    obtain ⟨wq, rfl⟩ : ∃ wq, wq = wr := ⟨_, rfl⟩
    by_cases hlt : i < m
    · have hzl : i < zs.length := by rw [← H.out.1]; exact hlt
      obtain ⟨b1, o1, rfl, x0, x1, x2, x3, x4⟩ := (H.out.2.1.keep hin.out.kp) i hzl
      obtain ⟨b2, o2, rfl, y0, y1, y2, y3, y4⟩ := (H.out.2.2.keep hin.out.kp) i hzl
      obtain ⟨z, hzv⟩ : ∃ z, z = zs[i] := ⟨_, rfl⟩
      rw [← hzv] at x0 x1 x2 x3 x4 y0 y1 y2 y3 y4
      obtain ⟨zr, zl, zf, zt, zk⟩ := z
      simp only at x0 x1 x2 x3 x4 y0 y1 y2 y3 y4
      have kx0 := cell_rg x0
      have kx1 := cell_rg x1
      have kx2 := cell_rg x2
      have kx3 := cell_rg x3
      have kx4 := cell_rg x4
      have ky0 := cell_rg y0
      have ky1 := cell_rg y1
      have ky2 := cell_rg y2
      have ky3 := cell_rg y3
      have ky4 := cell_rg y4
      have hi1 : (i : Int) < m := by omega
      clear x0 x1 x2 x3 x4 y0 y1 y2 y3 y4 hzv hzl
      go_wp2_with fail
      refine wp_region_quiet_below (by kernel_rfl) (by kernel_rfl) ?_
      repeat (go_big_quiet_step (fail))
      refine wpQuiet_nil ?_
      intro w7 hw7
      have HW := Lib.hid (hin.out.tr (chg_of_rg hw7))
      clear hw7 kx0 kx1 kx2 kx3 kx4 ky0 ky1 ky2 ky3 ky4
      go_wp2_with fail
      go_roundg (m - (i + 1))
      case measure => omega
      case rel => exact ⟨i + 1, rfl, by omega, by go_num, HW⟩
    · obtain rfl : i = m := by omega
      go_wp2_with fail
      go_ret
      exact ⟨rfl, hin.out⟩

theorem row_full {w : World} {B e size n c g : Nat} {xs : List Value} (h : w.ownsRow B e size (.slice (some ⟨g, 0, none⟩) n c) n xs) {M : Nat} (hM : M ≤ c) : ∃ ys, w.ownsRow B e size (.slice (some ⟨g, 0, none⟩) M c) M ys := by
  rcases h.2 with ⟨h0, _⟩ | ⟨g', cap, cur, h0, hb, hg, hn, hm, hs, ht⟩
  · cases h0
  · cases h0
    exact ⟨cur.toList.take (M * size), by rw [List.length_take, Array.length_toList, hs]; exact Nat.min_eq_left (Nat.mul_le_mul_right _ hM), .inr ⟨g, c, cur, rfl, hb, hg, hM, hm, hs, rfl⟩⟩
set_option maxRecDepth 100000 in
set_option maxHeartbeats 4000000 in
theorem OverTwigs_some (w : World) (S b n c M : Nat) (vs : List Value) (hs : n ≤ 1000000000) (hM : M = min c (n + 12)) (hnc : n ≤ c) (hcm : c ≤ 9223372036854775807) (hr : w.ownsRow S 33 5 (.slice (some ⟨b, 0, none⟩) M c) M vs) :
    Calls Try.prog 24 #[.slice (some ⟨b, 0, none⟩) n c] w fun e w' => e = .returned (.tuple #[]) ∧ Chg [b] w w' := by
  have hMc : M ≤ c := by omega
  have hM9 : M ≤ 1000000012 := by omega
  have hmin : min (c : Int) ((n : Int) + 12) = (M : Int) := by omega
  have H := Lib.hid hr
  clear hr hM
  have hw1 : IntKind.i64.wrap ((n : Int) + 12) = (n : Int) + 12 := IntWalk.i64_in _ (by omega)
  go_enter Try.func24, Try.ntmps24
  go_wp2_with fail
  go_loopg [3] M (fun dd iv wr => ∃ i : Nat, dd = M - i ∧ i ≤ M ∧ iv = .int .i64 i ∧ Hid ((∃ zs, wr.ownsRow S 33 5 (.slice (some ⟨b, 0, none⟩) M c) M zs) ∧ Chg [b] w wr))
  case atStart => exact ⟨0, rfl, Nat.zero_le _, rfl, Lib.hid ⟨⟨_, H.out⟩, Chg.refl _ _⟩⟩
  case round =>
    obtain ⟨i, rfl, hi, rfl, hI⟩ := hrel
    obtain ⟨wq, rfl⟩ : ∃ wq, wq = wr := ⟨_, rfl⟩
    by_cases hlt : i < M
    · have hi1 : (i : Int) < M := by omega
      go_wp2_with fail
      refine (markTwig_any wq 2 i (by omega) (by omega) (by omega) (by omega)).mono ?_
      rintro e w2 ⟨rfl, hc2⟩
      obtain ⟨mz, hmz⟩ : ∃ mz, mz = markZ 2 i := ⟨_, rfl⟩
      rw [← hmz]
      obtain ⟨⟨zs, hzs⟩, hcz⟩ := hI.out
      replace hzs := hc2.row hzs (fun _ _ => by simp)
      replace hcz := hcz.tr0 hc2
      obtain ⟨-, f0, -, ⟨cu, hcu⟩, hp0⟩ := row_put hzs (i := i * 5) (by omega)
      obtain ⟨r0, g0⟩ := hp0 (.int .i64 mz)
      obtain ⟨-, -, -, -, hp1⟩ := row_put r0 (i := i * 5 + 1) (by omega)
      obtain ⟨r1, g1⟩ := hp1 (.int .i64 0)
      obtain ⟨-, -, -, -, hp2⟩ := row_put r1 (i := i * 5 + 2) (by omega)
      obtain ⟨r2, g2⟩ := hp2 (.int .i64 0)
      obtain ⟨-, -, -, -, hp3⟩ := row_put r2 (i := i * 5 + 3) (by omega)
      obtain ⟨r3, g3⟩ := hp3 (.int .i64 0)
      obtain ⟨-, -, -, -, hp4⟩ := row_put r3 (i := i * 5 + 4) (by omega)
      obtain ⟨r4, g4⟩ := hp4 (.int .i64 0)
      have hcell : ∀ q, q < 5 → ∃ u, w2.cell? ⟨b, i * 5 + q, none⟩ = some u := fun q hq => by
        rw [(row_put hzs (i := i * 5 + q) (by omega)).1]
        exact ⟨_, List.getElem?_eq_getElem (by have := hzs.1; omega)⟩
      obtain ⟨u0, q0⟩ := hcell 0 (by decide)
      obtain ⟨u1, q1⟩ := hcell 1 (by decide)
      obtain ⟨u2, q2⟩ := hcell 2 (by decide)
      obtain ⟨u3, q3⟩ := hcell 3 (by decide)
      obtain ⟨u4, q4⟩ := hcell 4 (by decide)
      rw [Nat.add_zero] at q0
      have hfz : ∀ o, w2.frozen? ⟨b, o, none⟩ = false := fun o => free_of_cells hcu o
      have e0 := hfz (i * 5)
      have e1 := hfz (i * 5 + 1)
      have e2 := hfz (i * 5 + 2)
      have e3 := hfz (i * 5 + 3)
      have e4 := hfz (i * 5 + 4)
      have HP9 := Lib.hid (And.intro r4 (((((hcz.tr g0).tr g1).tr g2).tr g3).tr g4))
      clear hzs hcz hp0 hp1 hp2 hp3 hp4 r0 r1 r2 r3 r4 g0 g1 g2 g3 g4 hc2 hmz hcell hfz hcu f0
      go_wp2_with fail
      go_roundg (M - (i + 1))
      case measure => omega
      case rel => exact ⟨i + 1, rfl, by omega, by go_num, Lib.hid ⟨⟨_, HP9.out.1⟩, HP9.out.2⟩⟩
    · obtain rfl : i = M := by omega
      go_wp2_with fail
      refine bodyPost_end (v := .tuple #[]) (by simp [results, Try.results24, go_sem]) rfl ?_
      exact ⟨rfl, hI.out.2⟩
set_option maxRecDepth 100000 in
set_option maxHeartbeats 4000000 in
theorem OverTwigs_nil (w : World) : Calls Try.prog 24 #[.slice none 0 0] w fun e w' => e = .returned (.tuple #[]) ∧ Chg [] w w' := by
  go_enter Try.func24, Try.ntmps24
  go_wp2_with fail
  go_loopg [3] 0 (fun dd iv wr => dd = 0 ∧ iv = .int .i64 0 ∧ Hid (Chg [] w wr))
  case atStart => exact ⟨rfl, rfl, Lib.hid (Chg.refl _ _)⟩
  case round =>
    obtain ⟨rfl, rfl, hI⟩ := hrel
    go_wp2_with fail
    refine bodyPost_end (v := .tuple #[]) (by simp [results, Try.results24, go_sem]) rfl ?_
    exact ⟨rfl, hI.out⟩
/-- Twigs of one's own are spoiled. -/
theorem OverTwigs_any (w : World) (S : Nat) (a : Option Addr) (n c : Nat) (ts : List Tw) (hn : n = ts.length) (hs : n ≤ 1000000000) (hr : w.ownsRow S 33 5 (.slice a n c) n (twCells ts)) :
    Calls Try.prog 24 #[.slice a n c] w fun e w' => e = .returned (.tuple #[]) ∧ Chg ((Value.slice a n c).ownBlock.toList) w w' := by
  rcases hr.2 with ⟨h0, h1⟩ | ⟨g, cap, cur, h0, hb, hg, hnc, hm, _⟩
  · simp only [Value.slice.injEq] at h0
    obtain ⟨rfl, h2, rfl⟩ := h0
    rw [h2]
    exact (OverTwigs_nil w).mono fun e w' h => ⟨h.1, h.2.any⟩
  · cases h0
    obtain ⟨ys, hy⟩ := row_full hr (M := min c (n + 12)) (Nat.min_le_left _ _)
    exact (OverTwigs_some w S g n c _ ys hs rfl hnc (by simpa only [maxLen] using hm) hy).mono fun e w' h => ⟨h.1, h.2.mono fun j hj => .inl (by simpa [Value.ownBlock] using hj)⟩
end Go.Proofs.Ytffjfkjlahdedaa

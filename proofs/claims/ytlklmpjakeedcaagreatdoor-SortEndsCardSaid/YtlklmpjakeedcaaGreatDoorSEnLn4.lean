/-
 What is lent: rules, with marks behind their end; that they are kept.
 Conditions: the lists read as data; they are not too long.
-/
import Derived.Test.YtlklmpjakeedcaaGreatDoorSEnAp0
import Derived.Test.YtlklmpjakeedcaaGreatDoorSEnWeR
import Derived.Test.YtlklmpjakeedcaaGreatDoorSEnGFresh
import Derived.Test.YtlklmpjakeedcaaGreatDoorSEnNuB
set_option linter.unusedVariables false
set_option linter.unusedSimpArgs false
set_option linter.unnecessarySimpa false
namespace Go.Proofs.YtlklmpjakeedcaaGreatDoor
open Go.RowKit Go.MapKept Go.Shelf

def marksR (m : Nat) : List Rl := (List.range m).map fun (i : Nat) => (⟨⟨#[]⟩, markZ 1 i⟩ : Rl)
theorem marksR_succ (m : Nat) : marksR (m + 1) = marksR m ++ [⟨⟨#[]⟩, markZ 1 m⟩] := by simp [marksR, List.range_succ]
theorem marksR_len (m : Nat) : (marksR m).length = m := by simp [marksR]
theorem rulesCells_app (a b : List Rl) : rulesCells (a ++ b) = rulesCells a ++ rulesCells b := by simp [rulesCells]
theorem rules_one (l : List Rl) : ∀ u ∈ rulesCells l, u.oneCell' = true := by
 intro u hu
 obtain ⟨z, _, hz⟩ := List.mem_flatMap.1 hu
 simp only [Rl.cells, List.mem_cons, List.not_mem_nil, or_false] at hz
 rcases hz with rfl | rfl <;> rfl

set_option maxRecDepth 100000 in
set_option maxHeartbeats 1000000 in
theorem markRule_any (w : World) (k i : Int) (h1 : 0 ≤ k) (h2 : k ≤ 1000000) (h3 : 0 ≤ i) (h4 : i ≤ 1099511627776) :
  Calls Tryz.prog 111 #[.int .i64 k, .int .i64 i] w fun e w' => e = .returned (.agg #[.string ⟨#[]⟩, .int .i64 (markZ k i)]) ∧ Chg [] w w' := by
 go_enter Tryz.func111, Tryz.ntmps111
 go_wp2_with fail
 refine (mark_any _ k i h1 h2 h3 h4).mono ?_
 rintro e w2 ⟨rfl, hc2⟩
 obtain ⟨mz, hmz⟩ : ∃ mz, mz = markZ k i := ⟨_, rfl⟩
 rw [← hmz]
 have hb := hc2.heap (heap_alloc_same w (.cells #[.string ⟨#[]⟩, .int .i64 0] 53)) (by simp)
 have HC := Lib.hid (And.intro (((Chg.refl [] w).alloc (.cells #[.string ⟨#[]⟩, .int .i64 0] 53)).tr hc2) hmz)
 obtain ⟨x0, x1⟩ := cells2 hb
 have f0 := free_of_cells hb 0
 have f1 := free_of_cells hb 1
 have hlt := lt_of_block hb
 clear hc2 hmz hb
 go_wp2_with fail
 refine bodyPost_ret (v := .agg #[.string ⟨#[]⟩, .int .i64 mz]) (by simp [results, Tryz.results111, go_sem, x0, x1, f0, f1, hlt]) rfl ?_
 refine ⟨by rw [HC.out.2], (HC.out.1.setCell (p := ⟨w.heap.size, 0, none⟩) (.inr (Nat.le_refl _)) _).setCell (p := ⟨w.heap.size, 1, none⟩) (.inr (Nat.le_refl _)) _⟩

/-- Rules, with marks behind their end. -/
def LentR (w : World) (rs : List Rl) (e : Ending) (w' : World) : Prop :=
 ∃ b c, e = .returned (.slice (some ⟨b, 0, none⟩) rs.length c) ∧ w'.ownsRow w.heap.size 53 2 (.slice (some ⟨b, 0, none⟩) (rs.length + 12) c) (rs.length + 12) (rulesCells (rs ++ marksR 12)) ∧ Chg [] w w'

set_option maxRecDepth 100000 in
set_option maxHeartbeats 4000000 in
theorem LentRules_any (w : World) (a : Option Addr) (n c : Nat) (zs : List Rl) (hn : n = zs.length) (hs : n ≤ 1099511627776) (hz : Rules w a zs) :
  Calls Tryz.prog 81 #[.slice a n c] w (LentR w zs) := by
 obtain ⟨i0, hi, hz0, hz1, hz2⟩ := info_parts Tryz.infoRule
 obtain ⟨ob, hmk, hob⟩ := made_row (P := Tryz.prog) (t := 28) Tryz.underlying28 hi hz0 hz1 (m := n + 12) (by rw [hz2]; omega) (by simp only [maxLen]; omega)
 rw [show ((n + 12 : Nat) : Int) = (n : Int) + 12 by omega] at hmk
 have hnone : a = none → n = 0 := fun h => by subst h; rw [hn, rules_none hz]; rfl
 have hsome : ∀ b, a = some b → ∀ j u, (rulesCells zs)[j]? = some u → (w.alloc ob).cell? (b.add j) = some u := fun b h j u hu => by
  subst h; exact (((Chg.refl [] w).alloc ob).kp).2 _ _ (rules_some hz j u hu)
 have h1 := rules_one
 have HH := Lib.hid (And.intro hn (And.intro (hob w w.heap.size (Nat.le_refl _)) (And.intro hnone (And.intro hsome (And.intro (h1 zs) (show (0 + n ≤ maxLen ∧ (0 + n) * 24 ≤ 140737488355328) by simp only [maxLen]; omega))))))
 have HO := Lib.hid h1
 have hl : (rulesCells zs).length = n * 2 := by rw [rulesCells_len, hn]
 have HL := Lib.hid hl
 clear hn hz hob hnone hsome h1 hl
 go_enter Tryz.func81, Tryz.ntmps81
 go_wp2_with (at_builtin; refine wpList_append_two rfl _ _ 28 rfl w.heap.size 53 i0 _ 2 24 Tryz.underlying28 hi hz0 hz1 hz2 rfl (by decide) (.slice (some ⟨w.heap.size, 0, none⟩) 0 (n + 12)) 0 [] rfl HH.out.2.1 a n c (rulesCells zs) rfl HL.out HH.out.2.2.1 HH.out.2.2.2.1 HH.out.2.2.2.2.1 HH.out.2.2.2.2.2.1 HH.out.2.2.2.2.2.2 (by simp) ?_; intro v' w1 hown hgrow hblk; obtain ⟨a', c', rfl⟩ := ownsRow_slice hown; have HW := Lib.hid (And.intro hown hgrow); clear hown hgrow hblk)
 go_loopg [3, 4] 12 (fun dd lv iv wr => ∃ (i : Nat) (b : Option Addr) (d : Nat), dd = 12 - i ∧ i ≤ 12 ∧ lv = .slice b (n + i) d ∧ iv = .int .i64 i ∧ Hid (wr.ownsRow w.heap.size 53 2 (.slice b (n + i) d) (n + i) (rulesCells (zs ++ marksR i)) ∧ Chg [] w wr))
 case atStart =>
  refine ⟨0, a', c', rfl, Nat.zero_le _, ?_, rfl, Lib.hid ⟨?_, ?_⟩⟩
  ·simp
  ·have := HW.out.1
   simpa [marksR] using this
  ·exact ((Chg.refl [] w).alloc ob).grown HW.out.2 (fun k hk => .inr (by simp [Value.ownBlock] at hk; omega))
 case round =>
  obtain ⟨i, b, d, rfl, hi12, rfl, rfl, hin⟩ := hrel
  obtain ⟨wq, rfl⟩ : ∃ wq, wq = wr := ⟨_, rfl⟩
  by_cases hlt : i < 12
  ·go_wp2_with fail
   refine (markRule_any wq 1 i (by omega) (by omega) (by omega) (by omega)).mono ?_
   rintro e w2 ⟨rfl, hc2⟩
   obtain ⟨mz, hmz⟩ : ∃ mz, mz = markZ 1 i := ⟨_, rfl⟩
   rw [← hmz]
   have hca := hc2.alloc (.cells #[.string ⟨#[]⟩, .int .i64 mz] 53)
   have hrow := hca.row hin.out.1 (fun _ _ => by simp)
   have hnew := cells_at (w := w2.alloc (.cells #[.string ⟨#[]⟩, .int .i64 mz] 53)) (heap_alloc_same _ _)
   have h2 : n + i + 1 ≤ maxLen ∧ (n + i + 1) * 24 ≤ 140737488355328 := by simp only [maxLen]; omega
   have hch := hin.out.2.tr hca
   have HA := Lib.hid (And.intro hrow (And.intro hnew (And.intro h2 (And.intro hch hmz))))
   have hbs := hch.size
   clear hrow hnew h2 hch hca hc2 hmz
   go_wp2_with (at_builtin; refine wpList_append_own_at _ rfl _ _ 28 rfl w.heap.size 53 i0 _ 2 24 Tryz.underlying28 hi hz0 hz1 hz2 rfl (by decide) (.slice b (n + i) d) (n + i) _ rfl HA.out.1 ⟨w2.heap.size, 0, none⟩ 1 1 [.string ⟨#[]⟩, .int .i64 mz] rfl rfl HA.out.2.1 (HO.out [⟨⟨#[]⟩, mz⟩]) HA.out.2.2.1.1 HA.out.2.2.1.2 hbs ?_; intro v' w5 hr5 hg5 hn5 hb5; obtain ⟨a5, c5, rfl⟩ := ownsRow_slice hr5; have HX := Lib.hid (And.intro hr5 hg5); clear hr5 hg5 hn5 hb5)
   go_roundg (12 - (i + 1))
   case measure => omega
   case rel =>
    refine ⟨i + 1, a5, c5, rfl, by omega, rfl, by go_num, Lib.hid ⟨?_, HA.out.2.2.2.1.grown HX.out.2 (fun j hj => .inr (row_beyond HA.out.1 hj).1)⟩⟩
    have := HX.out.1
    rw [HA.out.2.2.2.2, show [Value.string ⟨#[]⟩, Value.int .i64 (markZ 1 i)] = rulesCells [⟨⟨#[]⟩, markZ 1 i⟩] from rfl, ← rulesCells_app, List.append_assoc, ← marksR_succ] at this
    exact this
  ·obtain rfl : i = 12 := by omega
   obtain ⟨G, rfl, hd⟩ : ∃ G, b = some ⟨G, 0, none⟩ ∧ n + 12 ≤ d := by
    rcases hin.out.1.2 with ⟨h0, h1⟩ | ⟨g, cap, cur, h0, _, _, hn, _⟩
    ·omega
    ·cases h0; exact ⟨g, rfl, hn⟩
   have hdm : d ≤ 9223372036854775807 := by
    rcases hin.out.1.2 with ⟨h0, h1⟩ | ⟨g, cap, cur, h0, _, _, _, hc, _⟩
    ·omega
    ·cases h0; simp only [maxLen] at hc; exact hc
   go_wp2_with fail
   go_ret
   obtain ⟨h1, h2⟩ := hin.out
   have hn := HH.out.1
   subst hn
   exact ⟨G, d, rfl, h1, h2⟩
set_option maxRecDepth 100000 in
set_option maxHeartbeats 4000000 in
theorem KeptRules_any (w : World) (b o : Nat) (n c : Nat) (a : Option Addr) (n2 c2 : Nat) (zs : List Rl) (hn : n = zs.length) (hn2 : n2 = zs.length) (hs : n ≤ 1099511627776) (hc : n + 12 ≤ c) (hcm : c ≤ maxLen) (hz : Rules w (some ⟨b, o, none⟩) (zs ++ marksR 12)) (hl : Rules w a zs) :
  Calls Tryz.prog 88 #[.slice (some ⟨b, o, none⟩) n c, .slice a n2 c2] w fun e w' => e = .returned (.bool true) ∧ Chg [] w w' := by
 obtain rfl : n2 = n := by omega
 have hcm' : c ≤ 9223372036854775807 := by simp only [maxLen] at hcm; exact hcm
 have H := Lib.hid (And.intro hn (And.intro hz hl))
 clear hn hn2 hz hl hcm
 go_enter Tryz.func88, Tryz.ntmps88
 go_wp2_with fail
 go_loopg [6] (n2 + 12) (fun dd iv wr => ∃ i : Nat, dd = n2 + 12 - i ∧ i ≤ n2 + 12 ∧ iv = .int .i64 i ∧ Hid (Chg [] w wr))
 case atStart => exact ⟨0, rfl, Nat.zero_le _, rfl, Lib.hid (Chg.refl _ _)⟩
 case round =>
  obtain ⟨i, rfl, hi, rfl, hin⟩ := hrel
  obtain ⟨wq, rfl⟩ : ∃ wq, wq = wr := ⟨_, rfl⟩
  by_cases hlt : i < n2 + 12
  ·have hil : i < (zs ++ marksR 12).length := by rw [List.length_append, marksR_len, ← H.out.1]; exact hlt
   obtain ⟨b', o', hb', hx, hx'⟩ := (H.out.2.1.keep hin.out.kp) i hil
   obtain ⟨rfl, rfl⟩ : b = b' ∧ o = o' := by cases hb'; exact ⟨rfl, rfl⟩
   by_cases hiz : i < n2
   ·have hzl : i < zs.length := by rw [← H.out.1]; exact hiz
    obtain ⟨b2, o2, rfl, hy, hy'⟩ := (H.out.2.2.keep hin.out.kp) i hzl
    rw [List.getElem_append_left hzl] at hx hx'
    obtain ⟨z, hzv⟩ : ∃ z, z = zs[i].name := ⟨_, rfl⟩
    obtain ⟨z', hzv'⟩ : ∃ z, z = zs[i].body := ⟨_, rfl⟩
    rw [← hzv] at hx hy
    rw [← hzv'] at hx' hy'
    have kx := cell_rg hx
    have ky := cell_rg hy
    have kx' := cell_rg hx'
    have ky' := cell_rg hy'
    have hd1 : decide ((i : Int) < n2) = true := decide_eq_true (by omega)
    have hd2 : decide (n2 ≤ i) = false := decide_eq_false (by omega)
    clear hx hy hx' hy' hzv hzv' hil hzl hb'
    go_wp2_with fail
    refine wp_region_quiet_below (by kernel_rfl) (by kernel_rfl) ?_
    repeat (go_big_quiet_step (fail))
    refine wpQuiet_nil ?_
    intro w7 hw7
    have HW := Lib.hid (hin.out.tr (chg_of_rg hw7))
    clear hw7 kx ky kx' ky' hd1 hd2
    go_wp2_with fail
    go_roundg (n2 + 12 - (i + 1))
    case measure => omega
    case rel => exact ⟨i + 1, rfl, by omega, by go_num, HW⟩
   ·have hx2 : (zs ++ marksR 12)[i] = ⟨⟨#[]⟩, markZ 1 ((i : Int) - n2)⟩ := by
     have hzl : zs.length ≤ i := by rw [← H.out.1]; omega
     rw [List.getElem_append_right hzl]
     have hk : i - zs.length < 12 := by rw [← H.out.1]; omega
     simp only [marksR, List.getElem_map, List.getElem_range]
     congr 2
     have := H.out.1
     omega
    rw [hx2] at hx hx'
    have cA := calls_rg (w := wq) (fun w1 h1 => markRule_any w1 1 ((i : Int) - n2) (by omega) (by omega) (by omega) (by omega))
    obtain ⟨z, hzv⟩ : ∃ z, z = markZ 1 ((i : Int) - n2) := ⟨_, rfl⟩
    simp only at hx hx'
    rw [← hzv] at hx' cA
    have kx := cell_rg hx
    have kx' := cell_rg hx'
    have hd1 : decide ((i : Int) < n2) = false := decide_eq_false (by omega)
    have hd2 : decide (n2 ≤ i) = true := decide_eq_true (by omega)
    have hw1 : IntKind.i64.wrap ((i : Int) - n2) = (i : Int) - n2 := IntWalk.i64_in _ (by omega)
    clear hx hx' hzv hil hb' hx2
    go_wp2_with fail
    refine wp_region_quiet_below (by kernel_rfl) (by kernel_rfl) ?_
    repeat (go_big_quiet_step (with_reducible exact cA _ _))
    refine wpQuiet_nil ?_
    intro w7 hw7
    have HW := Lib.hid (hin.out.tr (chg_of_rg hw7))
    clear hw7 kx kx' hd1 hd2 cA hw1
    go_wp2_with fail
    go_roundg (n2 + 12 - (i + 1))
    case measure => omega
    case rel => exact ⟨i + 1, rfl, by omega, by go_num, HW⟩
  ·obtain rfl : i = n2 + 12 := by omega
   go_wp2_with fail
   go_ret
   exact ⟨rfl, hin.out⟩
end Go.Proofs.YtlklmpjakeedcaaGreatDoor
set_option linter.unusedVariables false
set_option linter.unusedSimpArgs false
set_option linter.unnecessarySimpa false
namespace Go.Proofs.YtlklmpjakeedcaaGreatDoor
open Go.RowKit Go.MapKept Go.Shelf

def markNd (i : Int) : Nd := { bareN 0 with r := markZ 1 i }
def marksN (m : Nat) : List Cp := (List.range m).map fun (i : Nat) => (markNd i, none, 0)
theorem marksN_succ (m : Nat) : marksN (m + 1) = marksN m ++ [(markNd m, none, 0)] := by simp [marksN, List.range_succ]
theorem marksN_len (m : Nat) : (marksN m).length = m := by simp [marksN]
theorem nodesCells_cat (L M : List Cp) : nodesCells (L ++ M) = nodesCells L ++ nodesCells M := by simp [nodesCells]

set_option maxRecDepth 100000 in
set_option maxHeartbeats 1000000 in
theorem markNode_any (w : World) (k i : Int) (h1 : 0 ≤ k) (h2 : k ≤ 1000000) (h3 : 0 ≤ i) (h4 : i ≤ 1099511627776) :
  Calls Tryz.prog 113 #[.int .i64 k, .int .i64 i] w fun e w' => e = .returned (.agg (({ bareN 0 with r := markZ k i } : Nd).cells none 0 0)) ∧ Chg [] w w' := by
 unfold Nd.cells
 simp only [bareN]
 go_enter Tryz.func113, Tryz.ntmps113
 go_wp2_with fail
 refine (mark_any _ k i h1 h2 h3 h4).mono ?_
 rintro e w2 ⟨rfl, hc2⟩
 obtain ⟨mz, hmz⟩ : ∃ mz, mz = markZ k i := ⟨_, rfl⟩
 rw [← hmz]
 have hb := hc2.heap (heap_alloc_same w (.cells #[.int .i64 0, .int .u64 0, .int .u64 0, .int .u64 0, .int .u64 0, .string ⟨#[]⟩, .int .i64 0, .int .i64 0, .slice none 0 0] 65)) (by simp)
 have HC := Lib.hid (And.intro (((Chg.refl [] w).alloc (.cells #[.int .i64 0, .int .u64 0, .int .u64 0, .int .u64 0, .int .u64 0, .string ⟨#[]⟩, .int .i64 0, .int .i64 0, .slice none 0 0] 65)).tr hc2) hmz)
 obtain ⟨x0, x1, x2, x3, x4, x5, x6, x7, x8⟩ := cells9 hb
 have f0 := free_of_cells hb 0
 have f1 := free_of_cells hb 1
 have f2 := free_of_cells hb 2
 have f3 := free_of_cells hb 3
 have f4 := free_of_cells hb 4
 have f5 := free_of_cells hb 5
 have f6 := free_of_cells hb 6
 have f7 := free_of_cells hb 7
 have f8 := free_of_cells hb 8
 clear hc2 hmz
 go_wp2_with fail
 obtain ⟨w4, e4, z, hch⟩ := nine_set hb (.int .i64 0) (.int .u64 0) (.int .u64 0) (.int .u64 0) (.int .u64 0) (.string ⟨#[]⟩) (.int .i64 mz) (.int .i64 0) (.slice none 0 0)
 rw [← e4]
 clear e4 x0 x1 x2 x3 x4 x5 x6 x7 x8 f0 f1 f2 f3 f4 f5 f6 f7 f8 hb
 obtain ⟨q0, q1, q2, q3, q4, q5, q6, q7, q8⟩ := cells9 z
 have hTl := lt_of_block z
 refine bodyPost_ret (v := .agg #[.int .i64 0, .int .u64 0, .int .u64 0, .int .u64 0, .int .u64 0, .string ⟨#[]⟩, .int .i64 mz, .int .i64 0, .slice none 0 0]) (by simp [results, Tryz.results113, go_sem, q0, q1, q2, q3, q4, q5, q6, q7, q8, hTl]) rfl ?_
 exact ⟨by rw [HC.out.2], HC.out.1.trans hch (fun j hj => .inr (by simp at hj; omega))⟩

/-- A node whose numbers are lent. -/
def LentP (B : Nat) (w : World) (p : Cp) : Prop := ∃ b, p.2.1 = some ⟨b, 0, none⟩ ∧ w.ownsRow B 3 1 (.slice (some ⟨b, 0, none⟩) (p.1.kids.length + 12) p.2.2) (p.1.kids.length + 12) ((p.1.kids ++ marksI 12).map (Value.int .i64))
theorem LentP.chg {B : Nat} {w w' : World} {S : List Nat} {p : Cp} (h : LentP B w p) (hc : Chg S w w') (hS : ∀ k ∈ S, NotRow w 3 k) : LentP B w' p := by
 obtain ⟨b, h1, h2⟩ := h
 exact ⟨b, h1, hc.rowOf h2 hS⟩
theorem LentP.below {B B' : Nat} {w : World} {p : Cp} (h : LentP B w p) (hB : B' ≤ B) : LentP B' w p := by
 obtain ⟨b, h1, h2⟩ := h
 exact ⟨b, h1, row_base h2 hB⟩
def LentNode (w : World) (x : Nd) (e : Ending) (w' : World) : Prop := ∃ b c, e = .returned (.agg (x.cells (some ⟨b, 0, none⟩) x.kids.length c)) ∧ LentP w.heap.size w' (x, some ⟨b, 0, none⟩, c) ∧ Chg [] w w'

set_option maxRecDepth 100000 in
set_option maxHeartbeats 1000000 in
theorem LentNode_any (w : World) (x : Nd) (a : Option Addr) (n c : Nat) (hn : n = x.kids.length) (hs : n ≤ 1099511627776) (hz : Ints w a x.kids) :
  Calls Tryz.prog 112 #[.agg (x.cells a n c)] w (LentNode w x) := by
 have HN := Lib.hid (And.intro hn (And.intro hs hz))
 clear hn hs hz
 unfold Nd.cells
 go_enter Tryz.func112, Tryz.ntmps112
 go_wp2_with fail
 refine (LentInts_any _ _ _ _ _ HN.out.1 HN.out.2.1 (HN.out.2.2.keep (((Chg.refl [] w).alloc _).alloc _).kp)).mono ?_
 rintro e w3 ⟨b', c', rfl, h1, h2⟩
 obtain ⟨a', ha'⟩ : ∃ a' : Option Addr, a' = some ⟨b', 0, none⟩ := ⟨_, rfl⟩
 rw [← ha'] at h1 ⊢
 have hb0 := h2.heap (heap_alloc_lt (heap_alloc_same _ _) _) (by simp)
 have hb1 := h2.heap (heap_alloc_same _ _) (by simp)
 have hc := (((Chg.refl [] w).alloc _).alloc _).tr0 h2
 have hl := h2.size
 simp only [World.size_alloc] at hb1 hl h1
 have h1 := row_base h1 (show w.heap.size ≤ w.heap.size + 1 + 1 by omega)
 have H := Lib.hid (And.intro h1 (And.intro hc (And.intro hb0 hb1)))
 have HA := Lib.hid ha'
 clear h1 h2 hc hb0 hb1 ha'
 obtain ⟨x0, x1, x2, x3, x4, x5, x6, x7, x8⟩ := cells9 H.out.2.2.1
 have f8 := free_of_cells H.out.2.2.1 8
 obtain ⟨y0, y1, y2, y3, y4, y5, y6, y7, y8⟩ := cells9 H.out.2.2.2
 have g0 := free_of_cells H.out.2.2.2 0
 have g1 := free_of_cells H.out.2.2.2 1
 have g2 := free_of_cells H.out.2.2.2 2
 have g3 := free_of_cells H.out.2.2.2 3
 have g4 := free_of_cells H.out.2.2.2 4
 have g5 := free_of_cells H.out.2.2.2 5
 have g6 := free_of_cells H.out.2.2.2 6
 have g7 := free_of_cells H.out.2.2.2 7
 have g8 := free_of_cells H.out.2.2.2 8
 go_wp2_with fail
 have z0 := heap_set_ne (c := w.heap.size) (i := 8) (u := .slice a' x.kids.length c') H.out.2.2.2 (by omega)
 obtain ⟨w4, e4, z, hch⟩ := nine_set z0 (.int .i64 x.k) (.int .u64 x.c0) (.int .u64 x.c1) (.int .u64 x.c2) (.int .u64 x.c3) (.string x.s) (.int .i64 x.r) (.int .i64 x.l) (.slice a' x.kids.length c')
 rw [← e4]
 clear e4 z0 x0 x1 x2 x3 x4 x5 x6 x7 x8 y0 y1 y2 y3 y4 y5 y6 y7 y8 f8 g0 g1 g2 g3 g4 g5 g6 g7 g8
 have hch := ((Chg.refl [w.heap.size, w.heap.size + 1] w3).setCell (p := ⟨w.heap.size, 8, none⟩) (.inl (by simp)) (.slice a' x.kids.length c')).trans hch (fun j hj => .inl (by simp at hj; simp [hj]))
 obtain ⟨q0, q1, q2, q3, q4, q5, q6, q7, q8⟩ := cells9 z
 have hTl := lt_of_block z
 refine bodyPost_ret (v := .agg #[.int .i64 x.k, .int .u64 x.c0, .int .u64 x.c1, .int .u64 x.c2, .int .u64 x.c3, .string x.s, .int .i64 x.r, .int .i64 x.l, .slice a' x.kids.length c']) (by simp [results, Tryz.results112, go_sem, q0, q1, q2, q3, q4, q5, q6, q7, q8, hTl]) rfl ?_
 have hrw := hch.rowOf H.out.1 (e := 3) (fun k hk => by
  simp only [List.mem_cons, List.not_mem_nil, or_false] at hk
  rcases hk with rfl | rfl
  ·exact NotRow.of_cells H.out.2.2.1 (by decide)
  ·exact NotRow.of_cells H.out.2.2.2 (by decide))
 rw [HA.out] at hrw
 refine ⟨b', c', by rw [HA.out]; rfl, ⟨b', rfl, hrw⟩, H.out.2.1.trans hch (fun k hk => ?_)⟩
 simp only [List.mem_cons, List.not_mem_nil, or_false] at hk
 rcases hk with rfl | rfl <;> right <;> omega

/-- Nodes, with marks behind their end, and within them. -/
structure LentNs (B : Nat) (w : World) (b2 : Option Addr) (d2 : Nat) (L : List Cp) (m : Nat) : Prop where
 nodes : w.ownsRow B 65 9 (.slice b2 (L.length + m) d2) (L.length + m) (nodesCells (L ++ marksN m))
 kids : ∀ p ∈ L, LentP B w p
theorem LentNs.chg0 {B : Nat} {w w' : World} {b2 : Option Addr} {d2 : Nat} {L : List Cp} {m : Nat} (h : LentNs B w b2 d2 L m) (hc : Chg [] w w') : LentNs B w' b2 d2 L m :=
 ⟨hc.row h.nodes (fun _ _ => by simp), fun p hp => (h.kids p hp).chg hc (by simp)⟩
theorem LentNs.below {B B' : Nat} {w : World} {b2 : Option Addr} {d2 : Nat} {L : List Cp} {m : Nat} (h : LentNs B w b2 d2 L m) (hB : B' ≤ B) : LentNs B' w b2 d2 L m :=
 ⟨row_base h.nodes hB, fun p hp => (h.kids p hp).below hB⟩
theorem LentNs.grown {B : Nat} {w w' : World} {b2 b' : Option Addr} {d2 d' : Nat} {L L' : List Cp} {m m' : Nat} (h : LentNs B w b2 d2 L m) (hL : ∀ p ∈ L', p ∈ L ∨ LentP B w p)
  (hr : w'.ownsRow B 65 9 (.slice b' (L'.length + m') d') (L'.length + m') (nodesCells (L' ++ marksN m'))) (hg : w.grownBy w' (Value.slice b2 (L.length + m) d2).ownBlock) : LentNs B w' b' d' L' m' := by
 have hc : Chg (Value.slice b2 (L.length + m) d2).ownBlock.toList w w' := (Chg.refl _ w).grown hg (fun k hk => .inl (by rw [hk]; simp))
 refine ⟨hr, fun p hp => LentP.chg ((hL p hp).elim (h.kids p) id) hc (fun k hk => ?_)⟩
 simp only [Option.mem_toList] at hk
 exact row_notrow h.nodes hk (by decide)
def LentNodesP (w : World) (ns : List Nd) (e : Ending) (w' : World) : Prop :=
 ∃ b c L, e = .returned (.slice (some ⟨b, 0, none⟩) ns.length c) ∧ L.map (·.1) = ns ∧ LentNs w.heap.size w' (some ⟨b, 0, none⟩) c L 12 ∧ Chg [] w w'

set_option maxRecDepth 100000 in
set_option maxHeartbeats 8000000 in
theorem LentNodes_any (w : World) (a : Option Addr) (n c : Nat) (ns : List Nd) (hn : n = ns.length) (hs : n ≤ 1099511627776) (hr : Nodes w a ns) (hk : ∀ x ∈ ns, x.kids.length ≤ 1099511627776) :
  Calls Tryz.prog 82 #[.slice a n c] w (LentNodesP w ns) := by
 obtain ⟨i0, hi, hz0, hz1, hz2⟩ := info_parts Tryz.infoNode
 obtain ⟨ob, hmk, hob⟩ := made_row (P := Tryz.prog) (t := 29) Tryz.underlying29 hi hz0 hz1 (m := n + 12) (by rw [hz2]; omega) (by simp only [maxLen]; omega)
 rw [show ((n + 12 : Nat) : Int) = (n : Int) + 12 by omega] at hmk
 have H := Lib.hid (And.intro hn (And.intro hr (And.intro hk (And.intro (hob w w.heap.size (Nat.le_refl _)) ((Chg.refl [] w).alloc ob)))))
 clear hn hr hk hob
 go_enter Tryz.func82, Tryz.ntmps82
 go_wp2_with fail
 go_loopg [4, 3] n (fun d iv ov wr => ∃ (k c' : Nat) (a' : Option Addr) (L : List Cp), d = n - k ∧ k ≤ n ∧ iv = .int .i64 k ∧ ov = .slice a' k c' ∧ Hid (L.length = k ∧ L.map (·.1) = ns.take k ∧ LentNs w.heap.size wr a' c' L 0 ∧ Chg [] w wr ∧ a' ≠ none))
 case atStart => exact ⟨0, _, _, [], rfl, Nat.zero_le _, rfl, rfl, Lib.hid ⟨rfl, rfl, ⟨H.out.2.2.2.1, by simp⟩, H.out.2.2.2.2, by simp⟩⟩
 case round =>
  obtain ⟨k, c', a', L, rfl, hk, rfl, rfl, hcp⟩ := hrel
  obtain ⟨wq, rfl⟩ : ∃ wq, wq = wr := ⟨_, rfl⟩
  by_cases hlt : k < n
  ·have hk' : k < ns.length := by have := H.out.1; omega
   obtain ⟨b, o, ak, nk, ck, rfl, hx⟩ := H.out.2.1.keep hcp.out.2.2.2.1.kp k hk'
   have hkl := H.out.2.2.1 _ (List.getElem_mem hk')
   obtain ⟨x, hxe⟩ : ∃ x, x = ns[k] := ⟨_, rfl⟩
   rw [← hxe] at hx hkl
   have hbk := World.block_lt_of_cell? _ _ hx.k
   simp only at hbk
   obtain ⟨h0, h1, h2, h3, h4, h5, h6, h7, h8, q1, q2, q3, q4⟩ := hx
   have hcall := LentNode_any wq x ak nk ck q1 (by omega) q4
   unfold Nd.cells at hcall
   have HR := Lib.hid (And.intro hxe (And.intro hcall hkl))
   clear q1 q2 q3 q4 hcall hkl hxe
   go_wp2_with fail
   refine HR.out.2.1.mono ?_
   rintro e w4 ⟨b4, c4, rfl, ho, hc4⟩
   have hc5 := (hc4.alloc (.cells #[.int .i64 x.k, .int .u64 x.c0, .int .u64 x.c1, .int .u64 x.c2, .int .u64 x.c3, .string x.s, .int .i64 x.r, .int .i64 x.l, .slice (some ⟨b4, 0, none⟩) x.kids.length c4] 65)).alloc (.cells #[.int .i64 x.k, .int .u64 x.c0, .int .u64 x.c1, .int .u64 x.c2, .int .u64 x.c3, .string x.s, .int .i64 x.r, .int .i64 x.l, .slice (some ⟨b4, 0, none⟩) x.kids.length c4] 65)
   have ho5 : LentP wq.heap.size ((w4.alloc (.cells #[.int .i64 x.k, .int .u64 x.c0, .int .u64 x.c1, .int .u64 x.c2, .int .u64 x.c3, .string x.s, .int .i64 x.r, .int .i64 x.l, .slice (some ⟨b4, 0, none⟩) x.kids.length c4] 65)).alloc (.cells #[.int .i64 x.k, .int .u64 x.c0, .int .u64 x.c1, .int .u64 x.c2, .int .u64 x.c3, .string x.s, .int .i64 x.r, .int .i64 x.l, .slice (some ⟨b4, 0, none⟩) x.kids.length c4] 65)) (x, some ⟨b4, 0, none⟩, c4) := ho.chg (((Chg.refl [] w4).alloc _).alloc _) (by simp)
   have hown5 := hcp.out.2.2.1.chg0 hc5
   have h1' : ∀ u ∈ (#[.int .i64 x.k, .int .u64 x.c0, .int .u64 x.c1, .int .u64 x.c2, .int .u64 x.c3, .string x.s, .int .i64 x.r, .int .i64 x.l, .slice (some ⟨b4, 0, none⟩) x.kids.length c4] : Array Value).toList, u.oneCell' = true := by simp [Value.oneCell']
   have h2' : k + 1 ≤ maxLen ∧ (k + 1) * 96 ≤ 140737488355328 := by simp only [maxLen]; omega
   have hnew := cells_at (w := (w4.alloc (.cells #[.int .i64 x.k, .int .u64 x.c0, .int .u64 x.c1, .int .u64 x.c2, .int .u64 x.c3, .string x.s, .int .i64 x.r, .int .i64 x.l, .slice (some ⟨b4, 0, none⟩) x.kids.length c4] 65)).alloc (.cells #[.int .i64 x.k, .int .u64 x.c0, .int .u64 x.c1, .int .u64 x.c2, .int .u64 x.c3, .string x.s, .int .i64 x.r, .int .i64 x.l, .slice (some ⟨b4, 0, none⟩) x.kids.length c4] 65)) (heap_alloc_same _ _)
   rw [World.size_alloc] at hnew
   have hnodes5 := hown5.nodes
   rw [hcp.out.1] at hnodes5
   have hcw := hcp.out.2.2.2.1.tr0 hc5
   have hsz := hcw.size
   have H4 := Lib.hid (And.intro ho5 (And.intro hc5 (And.intro hnodes5 (And.intro h1' (And.intro h2' (And.intro hnew (And.intro hcw (And.intro hsz hown5))))))))
   clear ho hc4 h1' h2' hnew ho5 hc5 hnodes5 hown5 hcw hsz
   unfold Nd.cells
   go_wp2_with (at_builtin; refine wpList_append_own_at _ rfl _ _ 29 rfl w.heap.size 65 i0 _ 9 96 Tryz.underlying29 hi hz0 hz1 hz2 rfl (by decide) (.slice a' k c') k _ rfl H4.out.2.2.1 ⟨w4.heap.size + 1, 0, none⟩ 1 1 (#[.int .i64 x.k, .int .u64 x.c0, .int .u64 x.c1, .int .u64 x.c2, .int .u64 x.c3, .string x.s, .int .i64 x.r, .int .i64 x.l, .slice (some ⟨b4, 0, none⟩) x.kids.length c4] : Array Value).toList rfl rfl H4.out.2.2.2.2.2.1 H4.out.2.2.2.1 H4.out.2.2.2.2.1.1 H4.out.2.2.2.2.1.2 H4.out.2.2.2.2.2.2.2.1 ?_; intro v' w6 hr1 hg1 hk1 hb1; obtain ⟨a6, c6, rfl⟩ := ownsRow_slice hr1; have HW := Lib.hid (And.intro hr1 (And.intro hg1 hk1)); clear hr1 hg1 hk1 hb1)
   go_roundg (n - (k + 1))
   case measure => omega
   case rel =>
    refine ⟨k + 1, c6, a6, L ++ [(x, some ⟨b4, 0, none⟩, c4)], rfl, by omega, by go_num, rfl, Lib.hid ⟨by simp [hcp.out.1], ?_, ?_, ?_, ?_⟩⟩
    ·rw [List.take_succ_eq_append_getElem hk', ← HR.out.1]; simp [hcp.out.2.1]
    ·refine H4.out.2.2.2.2.2.2.2.2.grown (fun p hp => ?_) ?_ (by rw [hcp.out.1]; exact HW.out.2.1)
     ·rcases List.mem_append.1 hp with hp | hp
      ·exact .inl hp
      ·simp only [List.mem_singleton] at hp
       subst hp
       exact .inr (H4.out.1.below (by have := hcp.out.2.2.2.1.size; omega))
     ·have h9 := HW.out.1
      rw [List.length_append, hcp.out.1]
      simp only [nodesCells_cat, marksN, List.range_zero, List.map_nil] at h9 ⊢
      simpa [nodesCells, Cp.cells, Nd.cells] using h9
    ·have hrow := hcp.out.2.2.1.nodes
     refine H4.out.2.2.2.2.2.2.1.grown HW.out.2.1 (fun j hj => .inr ?_)
     rw [hcp.out.1] at hrow
     exact (row_beyond hrow hj).1
    ·intro h
     subst h
     have h9 := HW.out.1.2
     rcases h9 with ⟨h0, h1⟩ | ⟨g, cap, cur, h0, _⟩
     ·omega
     ·cases h0
  ·obtain rfl : k = n := by omega
   have HL := Lib.hid hcp.out
   have hnv : ¬ ((k : Int) < k) := by omega
   clear hnv
   go_wp2_with fail
   go_loopg [3, 6] 12 (fun dd lv iv wr => ∃ (i : Nat) (b : Option Addr) (d : Nat), dd = 12 - i ∧ i ≤ 12 ∧ lv = .slice b (k + i) d ∧ iv = .int .i64 i ∧ Hid (LentNs w.heap.size wr b d L i ∧ Chg [] w wr ∧ b ≠ none))
   case atStart => exact ⟨0, _, _, rfl, Nat.zero_le _, rfl, rfl, Lib.hid ⟨HL.out.2.2.1, HL.out.2.2.2.1, HL.out.2.2.2.2⟩⟩
   case round =>
    obtain ⟨i, b, d, rfl, hi12, rfl, rfl, hin⟩ := hrel
    obtain ⟨wx, rfl⟩ : ∃ wz, wz = wr := ⟨_, rfl⟩
    by_cases hlt2 : i < 12
    ·have hmk2 := markNode_any wx 1 i (by omega) (by omega) (by omega) (by omega)
     obtain ⟨mz, hmz⟩ : ∃ mz, mz = markZ 1 i := ⟨_, rfl⟩
     rw [← hmz] at hmk2
     unfold Nd.cells at hmk2
     simp only [bareN] at hmk2
     go_wp2_with fail
     refine hmk2.mono ?_
     rintro e w2 ⟨rfl, hc2⟩
     have hca := hc2.alloc (.cells #[.int .i64 0, .int .u64 0, .int .u64 0, .int .u64 0, .int .u64 0, .string ⟨#[]⟩, .int .i64 mz, .int .i64 0, .slice none 0 0] 65)
     have hrow := hin.out.1.chg0 hca
     have hrown := hrow.nodes
     rw [HL.out.1] at hrown
     have hnew := cells_at (w := w2.alloc (.cells #[.int .i64 0, .int .u64 0, .int .u64 0, .int .u64 0, .int .u64 0, .string ⟨#[]⟩, .int .i64 mz, .int .i64 0, .slice none 0 0] 65)) (heap_alloc_same _ _)
     have h1' : ∀ u ∈ (#[.int .i64 0, .int .u64 0, .int .u64 0, .int .u64 0, .int .u64 0, .string ⟨#[]⟩, .int .i64 mz, .int .i64 0, .slice none 0 0] : Array Value).toList, u.oneCell' = true := by simp [Value.oneCell']
     have h2 : k + i + 1 ≤ maxLen ∧ (k + i + 1) * 96 ≤ 140737488355328 := by simp only [maxLen]; omega
     have hch := hin.out.2.1.tr hca
     have HA := Lib.hid (And.intro hrown (And.intro hnew (And.intro h2 (And.intro hch (And.intro hmz (And.intro h1' hrow))))))
     have hbs := hch.size
     clear hrow hrown hnew h2 hch hca hc2 hmz h1' hmk2
     go_wp2_with (at_builtin; refine wpList_append_own_at _ rfl _ _ 29 rfl w.heap.size 65 i0 _ 9 96 Tryz.underlying29 hi hz0 hz1 hz2 rfl (by decide) (.slice b (k + i) d) (k + i) _ rfl HA.out.1 ⟨w2.heap.size, 0, none⟩ 1 1 (#[.int .i64 0, .int .u64 0, .int .u64 0, .int .u64 0, .int .u64 0, .string ⟨#[]⟩, .int .i64 mz, .int .i64 0, .slice none 0 0] : Array Value).toList rfl rfl HA.out.2.1 HA.out.2.2.2.2.2.1 HA.out.2.2.1.1 HA.out.2.2.1.2 hbs ?_; intro v' w5 hr5 hg5 hn5 hb5; obtain ⟨a5, c5, rfl⟩ := ownsRow_slice hr5; have HX := Lib.hid (And.intro hr5 hg5); clear hr5 hg5 hn5 hb5)
     go_roundg (12 - (i + 1))
     case measure => omega
     case rel =>
      refine ⟨i + 1, a5, c5, rfl, by omega, rfl, by go_num, Lib.hid ⟨HA.out.2.2.2.2.2.2.grown (fun p hp => .inl hp) ?_ (by rw [HL.out.1]; exact HX.out.2), HA.out.2.2.2.1.grown HX.out.2 (fun j hj => .inr (row_beyond HA.out.1 hj).1), ?_⟩⟩
      ·have h9 := HX.out.1
       rw [HL.out.1, marksN_succ, ← List.append_assoc, nodesCells_cat (L ++ marksN i)]
       rw [HA.out.2.2.2.2.1] at h9
       exact h9
      ·intro h
       subst h
       rcases HX.out.1.2 with ⟨h0, h1⟩ | ⟨g, cap, cur, h0, _⟩
       ·omega
       ·cases h0
    ·obtain rfl : i = 12 := by omega
     have hrow := hin.out.1.nodes
     rw [HL.out.1] at hrow
     obtain ⟨G, rfl, hd, hdm⟩ : ∃ G, b = some ⟨G, 0, none⟩ ∧ k + 12 ≤ d ∧ d ≤ 9223372036854775807 := by
      rcases hrow.2 with ⟨h0, h1⟩ | ⟨g, cap, cur, h0, _, _, hn, hc, _⟩
      ·omega
      ·cases h0; simp only [maxLen] at hc; exact ⟨g, rfl, hn, hc⟩
     clear hrow
     go_wp2_with fail
     go_ret
     obtain ⟨h1, h2, _⟩ := hin.out
     have hL := HL.out.2.1
     have hn := H.out.1
     subst hn
     rw [List.take_length] at hL
     exact ⟨G, d, L, rfl, hL, h1, h2⟩
end Go.Proofs.YtlklmpjakeedcaaGreatDoor

/-
  What is lent: rules, with marks behind their end; that they are kept.
  Conditions: the lists read as data; they are not too long.
-/
import Derived.Test.YtibgfgfmljhimaaGreatRLn2
import Derived.Test.YtibgfgfmljhimaaGreatRWeR
set_option linter.unusedVariables false
set_option linter.unusedSimpArgs false
set_option linter.unnecessarySimpa false
namespace Go.Proofs.YtibgfgfmljhimaaGreat
open Go.RowKit Go.MapKept Go.Shelf

def marksR (m : Nat) : List Rl := (List.range m).map fun (i : Nat) => (⟨⟨#[]⟩, markZ 1 i⟩ : Rl)
theorem marksR_succ (m : Nat) : marksR (m + 1) = marksR m ++ [⟨⟨#[]⟩, markZ 1 m⟩] := by simp [marksR, List.range_succ]
theorem marksR_len (m : Nat) : (marksR m).length = m := by simp [marksR]
theorem rulesCells_app (a b : List Rl) : rulesCells (a ++ b) = rulesCells a ++ rulesCells b := by simp [rulesCells]
theorem rules_one (l : List Rl) : ∀ u ∈ rulesCells l, u.oneCell' = true := by
  intro u hu
  obtain ⟨z, _, hz⟩ := List.mem_flatMap.1 hu
  simp only [Rl.cells, List.mem_cons, List.not_mem_nil, or_false] at hz
  rcases hz with rfl | rfl <;> rfl

set_option maxRecDepth 100000 in
set_option maxHeartbeats 1000000 in
theorem markRule_any (w : World) (k i : Int) (h1 : 0 ≤ k) (h2 : k ≤ 1000000) (h3 : 0 ≤ i) (h4 : i ≤ 1099511627776) :
    Calls Tryz.prog 122 #[.int .i64 k, .int .i64 i] w fun e w' => e = .returned (.agg #[.string ⟨#[]⟩, .int .i64 (markZ k i)]) ∧ Chg [] w w' := by
  go_enter Tryz.func122, Tryz.ntmps122
  go_wp2_with fail
  refine (mark_any _ k i h1 h2 h3 h4).mono ?_
  rintro e w2 ⟨rfl, hc2⟩
  obtain ⟨mz, hmz⟩ : ∃ mz, mz = markZ k i := ⟨_, rfl⟩
  rw [← hmz]
  have hb := hc2.heap (heap_alloc_same w (.cells #[.string ⟨#[]⟩, .int .i64 0] 43)) (by simp)
  have HC := Lib.hid (And.intro (((Chg.refl [] w).alloc (.cells #[.string ⟨#[]⟩, .int .i64 0] 43)).tr hc2) hmz)
  obtain ⟨x0, x1⟩ := cells2 hb
  have f0 := free_of_cells hb 0
  have f1 := free_of_cells hb 1
  have hlt := lt_of_block hb
  clear hc2 hmz hb
  go_wp2_with fail
  refine bodyPost_ret (v := .agg #[.string ⟨#[]⟩, .int .i64 mz]) (by simp [results, Tryz.results122, go_sem, x0, x1, f0, f1, hlt]) rfl ?_
  refine ⟨by rw [HC.out.2], (HC.out.1.setCell (p := ⟨w.heap.size, 0, none⟩) (.inr (Nat.le_refl _)) _).setCell (p := ⟨w.heap.size, 1, none⟩) (.inr (Nat.le_refl _)) _⟩

/-- Rules, with marks behind their end. -/
def LentR (w : World) (rs : List Rl) (e : Ending) (w' : World) : Prop :=
  ∃ b c, e = .returned (.slice (some ⟨b, 0, none⟩) rs.length c) ∧ w'.ownsRow w.heap.size 43 2 (.slice (some ⟨b, 0, none⟩) (rs.length + 12) c) (rs.length + 12) (rulesCells (rs ++ marksR 12)) ∧ Chg [] w w'

set_option maxRecDepth 100000 in
set_option maxHeartbeats 4000000 in
theorem LentRules_any (w : World) (a : Option Addr) (n c : Nat) (zs : List Rl) (hn : n = zs.length) (hs : n ≤ 1099511627776) (hz : Rules w a zs) :
    Calls Tryz.prog 84 #[.slice a n c] w (LentR w zs) := by
  obtain ⟨i0, hi, hz0, hz1, hz2⟩ := info_parts Tryz.infoRule
  obtain ⟨ob, hmk, hob⟩ := made_row (P := Tryz.prog) (t := 22) Tryz.underlying22 hi hz0 hz1 (m := n + 12) (by rw [hz2]; omega) (by simp only [maxLen]; omega)
  rw [show ((n + 12 : Nat) : Int) = (n : Int) + 12 by omega] at hmk
  have hnone : a = none → n = 0 := fun h => by subst h; rw [hn, rules_none hz]; rfl
  have hsome : ∀ b, a = some b → ∀ j u, (rulesCells zs)[j]? = some u → (w.alloc ob).cell? (b.add j) = some u := fun b h j u hu => by
    subst h; exact (((Chg.refl [] w).alloc ob).kp).2 _ _ (rules_some hz j u hu)
  have h1 := rules_one
  have HH := Lib.hid (And.intro hn (And.intro (hob w w.heap.size (Nat.le_refl _)) (And.intro hnone (And.intro hsome (And.intro (h1 zs) (show (0 + n ≤ maxLen ∧ (0 + n) * 24 ≤ 140737488355328) by simp only [maxLen]; omega))))))
  have HO := Lib.hid h1
  have hl : (rulesCells zs).length = n * 2 := by rw [rulesCells_len, hn]
  have HL := Lib.hid hl
  clear hn hz hob hnone hsome h1 hl
  go_enter Tryz.func84, Tryz.ntmps84
  go_wp2_with (at_builtin; refine wpList_append_two rfl _ _ 22 rfl w.heap.size 43 i0 _ 2 24 Tryz.underlying22 hi hz0 hz1 hz2 rfl (by decide) (.slice (some ⟨w.heap.size, 0, none⟩) 0 (n + 12)) 0 [] rfl HH.out.2.1 a n c (rulesCells zs) rfl HL.out HH.out.2.2.1 HH.out.2.2.2.1 HH.out.2.2.2.2.1 HH.out.2.2.2.2.2.1 HH.out.2.2.2.2.2.2 (by simp) ?_; intro v' w1 hown hgrow hblk; obtain ⟨a', c', rfl⟩ := ownsRow_slice hown; have HW := Lib.hid (And.intro hown hgrow); clear hown hgrow hblk)
  go_loopg [3, 4] 12 (fun dd lv iv wr => ∃ (i : Nat) (b : Option Addr) (d : Nat), dd = 12 - i ∧ i ≤ 12 ∧ lv = .slice b (n + i) d ∧ iv = .int .i64 i ∧ Hid (wr.ownsRow w.heap.size 43 2 (.slice b (n + i) d) (n + i) (rulesCells (zs ++ marksR i)) ∧ Chg [] w wr))
  case atStart =>
    refine ⟨0, a', c', rfl, Nat.zero_le _, ?_, rfl, Lib.hid ⟨?_, ?_⟩⟩
    · simp
    · have := HW.out.1
      simpa [marksR] using this
    · exact ((Chg.refl [] w).alloc ob).grown HW.out.2 (fun k hk => .inr (by simp [Value.ownBlock] at hk; omega))
  case round =>
    obtain ⟨i, b, d, rfl, hi12, rfl, rfl, hin⟩ := hrel
    obtain ⟨wq, rfl⟩ : ∃ wq, wq = wr := ⟨_, rfl⟩
    by_cases hlt : i < 12
    · go_wp2_with fail
      refine (markRule_any wq 1 i (by omega) (by omega) (by omega) (by omega)).mono ?_
      rintro e w2 ⟨rfl, hc2⟩
      obtain ⟨mz, hmz⟩ : ∃ mz, mz = markZ 1 i := ⟨_, rfl⟩
      rw [← hmz]
      have hca := hc2.alloc (.cells #[.string ⟨#[]⟩, .int .i64 mz] 43)
      have hrow := hca.row hin.out.1 (fun _ _ => by simp)
      have hnew := cells_at (w := w2.alloc (.cells #[.string ⟨#[]⟩, .int .i64 mz] 43)) (heap_alloc_same _ _)
      have h2 : n + i + 1 ≤ maxLen ∧ (n + i + 1) * 24 ≤ 140737488355328 := by simp only [maxLen]; omega
      have hch := hin.out.2.tr hca
      have HA := Lib.hid (And.intro hrow (And.intro hnew (And.intro h2 (And.intro hch hmz))))
      have hbs := hch.size
      clear hrow hnew h2 hch hca hc2 hmz
      go_wp2_with (at_builtin; refine wpList_append_own_at _ rfl _ _ 22 rfl w.heap.size 43 i0 _ 2 24 Tryz.underlying22 hi hz0 hz1 hz2 rfl (by decide) (.slice b (n + i) d) (n + i) _ rfl HA.out.1 ⟨w2.heap.size, 0, none⟩ 1 1 [.string ⟨#[]⟩, .int .i64 mz] rfl rfl HA.out.2.1 (HO.out [⟨⟨#[]⟩, mz⟩]) HA.out.2.2.1.1 HA.out.2.2.1.2 hbs ?_; intro v' w5 hr5 hg5 hn5 hb5; obtain ⟨a5, c5, rfl⟩ := ownsRow_slice hr5; have HX := Lib.hid (And.intro hr5 hg5); clear hr5 hg5 hn5 hb5)
      go_roundg (12 - (i + 1))
      case measure => omega
      case rel =>
        refine ⟨i + 1, a5, c5, rfl, by omega, rfl, by go_num, Lib.hid ⟨?_, HA.out.2.2.2.1.grown HX.out.2 (fun j hj => .inr (row_beyond HA.out.1 hj).1)⟩⟩
        have := HX.out.1
        rw [HA.out.2.2.2.2, show [Value.string ⟨#[]⟩, Value.int .i64 (markZ 1 i)] = rulesCells [⟨⟨#[]⟩, markZ 1 i⟩] from rfl, ← rulesCells_app, List.append_assoc, ← marksR_succ] at this
        exact this
    · obtain rfl : i = 12 := by omega
      obtain ⟨G, rfl, hd⟩ : ∃ G, b = some ⟨G, 0, none⟩ ∧ n + 12 ≤ d := by
        rcases hin.out.1.2 with ⟨h0, h1⟩ | ⟨g, cap, cur, h0, _, _, hn, _⟩
        · omega
        · cases h0; exact ⟨g, rfl, hn⟩
      have hdm : d ≤ 9223372036854775807 := by
        rcases hin.out.1.2 with ⟨h0, h1⟩ | ⟨g, cap, cur, h0, _, _, _, hc, _⟩
        · omega
        · cases h0; simp only [maxLen] at hc; exact hc
      go_wp2_with fail
      go_ret
      obtain ⟨h1, h2⟩ := hin.out
      have hn := HH.out.1
      subst hn
      exact ⟨G, d, rfl, h1, h2⟩
set_option maxRecDepth 100000 in
set_option maxHeartbeats 4000000 in
theorem KeptRules_any (w : World) (b o : Nat) (n c : Nat) (a : Option Addr) (n2 c2 : Nat) (zs : List Rl) (hn : n = zs.length) (hn2 : n2 = zs.length) (hs : n ≤ 1099511627776) (hc : n + 12 ≤ c) (hcm : c ≤ maxLen) (hz : Rules w (some ⟨b, o, none⟩) (zs ++ marksR 12)) (hl : Rules w a zs) :
    Calls Tryz.prog 90 #[.slice (some ⟨b, o, none⟩) n c, .slice a n2 c2] w fun e w' => e = .returned (.bool true) ∧ Chg [] w w' := by
  obtain rfl : n2 = n := by omega
  have hcm' : c ≤ 9223372036854775807 := by simp only [maxLen] at hcm; exact hcm
  have H := Lib.hid (And.intro hn (And.intro hz hl))
  clear hn hn2 hz hl hcm
  go_enter Tryz.func90, Tryz.ntmps90
  go_wp2_with fail
  go_loopg [6] (n2 + 12) (fun dd iv wr => ∃ i : Nat, dd = n2 + 12 - i ∧ i ≤ n2 + 12 ∧ iv = .int .i64 i ∧ Hid (Chg [] w wr))
  case atStart => exact ⟨0, rfl, Nat.zero_le _, rfl, Lib.hid (Chg.refl _ _)⟩
  case round =>
    obtain ⟨i, rfl, hi, rfl, hin⟩ := hrel
    obtain ⟨wq, rfl⟩ : ∃ wq, wq = wr := ⟨_, rfl⟩
    by_cases hlt : i < n2 + 12
    · have hil : i < (zs ++ marksR 12).length := by rw [List.length_append, marksR_len, ← H.out.1]; exact hlt
      obtain ⟨b', o', hb', hx, hx'⟩ := (H.out.2.1.keep hin.out.kp) i hil
      obtain ⟨rfl, rfl⟩ : b = b' ∧ o = o' := by cases hb'; exact ⟨rfl, rfl⟩
      by_cases hiz : i < n2
      · have hzl : i < zs.length := by rw [← H.out.1]; exact hiz
        obtain ⟨b2, o2, rfl, hy, hy'⟩ := (H.out.2.2.keep hin.out.kp) i hzl
        rw [List.getElem_append_left hzl] at hx hx'
        obtain ⟨z, hzv⟩ : ∃ z, z = zs[i].name := ⟨_, rfl⟩
        obtain ⟨z', hzv'⟩ : ∃ z, z = zs[i].body := ⟨_, rfl⟩
        rw [← hzv] at hx hy
        rw [← hzv'] at hx' hy'
        have kx := cell_rg hx
        have ky := cell_rg hy
        have kx' := cell_rg hx'
        have ky' := cell_rg hy'
        have hd1 : decide ((i : Int) < n2) = true := decide_eq_true (by omega)
        have hd2 : decide (n2 ≤ i) = false := decide_eq_false (by omega)
        clear hx hy hx' hy' hzv hzv' hil hzl hb'
        go_wp2_with fail
        refine wp_region_quiet_below (by kernel_rfl) (by kernel_rfl) ?_
        repeat (go_big_quiet_step (fail))
        refine wpQuiet_nil ?_
        intro w7 hw7
        have HW := Lib.hid (hin.out.tr (chg_of_rg hw7))
        clear hw7 kx ky kx' ky' hd1 hd2
        go_wp2_with fail
        go_roundg (n2 + 12 - (i + 1))
        case measure => omega
        case rel => exact ⟨i + 1, rfl, by omega, by go_num, HW⟩
      · have hx2 : (zs ++ marksR 12)[i] = ⟨⟨#[]⟩, markZ 1 ((i : Int) - n2)⟩ := by
          have hzl : zs.length ≤ i := by rw [← H.out.1]; omega
          rw [List.getElem_append_right hzl]
          have hk : i - zs.length < 12 := by rw [← H.out.1]; omega
          simp only [marksR, List.getElem_map, List.getElem_range]
          congr 2
          have := H.out.1
          omega
        rw [hx2] at hx hx'
        have cA := calls_rg (w := wq) (fun w1 h1 => markRule_any w1 1 ((i : Int) - n2) (by omega) (by omega) (by omega) (by omega))
        obtain ⟨z, hzv⟩ : ∃ z, z = markZ 1 ((i : Int) - n2) := ⟨_, rfl⟩
        simp only at hx hx'
        rw [← hzv] at hx' cA
        have kx := cell_rg hx
        have kx' := cell_rg hx'
        have hd1 : decide ((i : Int) < n2) = false := decide_eq_false (by omega)
        have hd2 : decide (n2 ≤ i) = true := decide_eq_true (by omega)
        have hw1 : IntKind.i64.wrap ((i : Int) - n2) = (i : Int) - n2 := IntWalk.i64_in _ (by omega)
        clear hx hx' hzv hil hb' hx2
        go_wp2_with fail
        refine wp_region_quiet_below (by kernel_rfl) (by kernel_rfl) ?_
        repeat (go_big_quiet_step (with_reducible exact cA _ _))
        refine wpQuiet_nil ?_
        intro w7 hw7
        have HW := Lib.hid (hin.out.tr (chg_of_rg hw7))
        clear hw7 kx kx' hd1 hd2 cA hw1
        go_wp2_with fail
        go_roundg (n2 + 12 - (i + 1))
        case measure => omega
        case rel => exact ⟨i + 1, rfl, by omega, by go_num, HW⟩
    · obtain rfl : i = n2 + 12 := by omega
      go_wp2_with fail
      go_ret
      exact ⟨rfl, hin.out⟩
end Go.Proofs.YtibgfgfmljhimaaGreat

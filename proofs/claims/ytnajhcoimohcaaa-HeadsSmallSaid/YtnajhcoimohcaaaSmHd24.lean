/-
  What is lent: numbers and rules, with marks behind their ends; that they are kept.
  Conditions: the lists read as data; they are not too long.
-/
import Derived.Test.YtnajhcoimohcaaaSmGApp
import Derived.Test.YtnajhcoimohcaaaSmGIo
set_option linter.unusedVariables false
set_option linter.unusedSimpArgs false
set_option linter.unnecessarySimpa false
namespace Go.Proofs.Ytnajhcoimohcaaa
open Go.RowKit Go.MapKept Go.Shelf

def markZ (k i : Int) : Int := 1000003 * (k + 7) + i
def marksI (m : Nat) : List Int := (List.range m).map fun (i : Nat) => markZ 1 i
theorem marksI_succ (m : Nat) : marksI (m + 1) = marksI m ++ [markZ 1 m] := by simp [marksI, List.range_succ]
theorem marksI_len (m : Nat) : (marksI m).length = m := by simp [marksI]

set_option maxRecDepth 100000 in
set_option maxHeartbeats 1000000 in
theorem mark_any (w : World) (k i : Int) (h1 : 0 ≤ k) (h2 : k ≤ 1000000) (h3 : 0 ≤ i) (h4 : i ≤ 1099511627776) :
    Calls Try.prog 45 #[.int .i64 k, .int .i64 i] w fun e w' => e = .returned (.int .i64 (markZ k i)) ∧ Chg [] w w' := by
  go_enter Try.func45, Try.ntmps45
  go_wp2_with fail
  go_ret
  refine ⟨ret_int ?_, Chg.refl _ _⟩
  unfold markZ
  go_num

/-- Numbers, with marks behind their end. -/
def LentI (w : World) (zs : List Int) (e : Ending) (w' : World) : Prop :=
  ∃ b c, e = .returned (.slice (some ⟨b, 0, none⟩) zs.length c) ∧ w'.ownsRow w.heap.size 3 1 (.slice (some ⟨b, 0, none⟩) (zs.length + 12) c) (zs.length + 12) ((zs ++ marksI 12).map (Value.int .i64)) ∧ Chg [] w w'

set_option maxRecDepth 100000 in
set_option maxHeartbeats 4000000 in
theorem LentInts_any (w : World) (a : Option Addr) (n c : Nat) (zs : List Int) (hn : n = zs.length) (hs : n ≤ 1099511627776) (hz : Ints w a zs) :
    Calls Try.prog 20 #[.slice a n c] w (LentI w zs) := by
  obtain ⟨i0, hi, hz0, hz1, hz2⟩ := info_parts Try.infoInt
  obtain ⟨ob, hmk, hob⟩ := made_row (P := Try.prog) (t := 38) Try.underlying38 hi hz0 hz1 (m := n + 12) (by rw [hz2]; omega) (by simp only [maxLen]; omega)
  rw [show ((n + 12 : Nat) : Int) = (n : Int) + 12 by omega] at hmk
  have hnone : a = none → n = 0 := fun h => by subst h; rw [hn, ints_none hz]; rfl
  have hsome : ∀ b, a = some b → ∀ j u, (zs.map (Value.int .i64))[j]? = some u → (w.alloc ob).cell? (b.add j) = some u := fun b h j u hu => by
    subst h; exact (((Chg.refl [] w).alloc ob).kp).2 _ _ (ints_some hz j u hu)
  have h1 : ∀ (l : List Int), ∀ u ∈ l.map (Value.int .i64), u.oneCell' = true := fun l u hu => by
    obtain ⟨z, _, rfl⟩ := List.mem_map.1 hu
    rfl
  have HH := Lib.hid (And.intro hn (And.intro (hob w w.heap.size (Nat.le_refl _)) (And.intro hnone (And.intro hsome (And.intro (h1 zs) (show (0 + n ≤ maxLen ∧ (0 + n) * 8 ≤ 140737488355328) by simp only [maxLen]; omega))))))
  have HO := Lib.hid h1
  have hl : (zs.map (Value.int .i64)).length = n * 1 := by simp [hn]
  have HL := Lib.hid hl
  clear hn hz hob hnone hsome h1 hl
  go_enter Try.func20, Try.ntmps20
  go_wp2_with (at_builtin; refine wpList_append_two rfl _ _ 38 rfl w.heap.size 3 i0 _ 1 8 Try.underlying38 hi hz0 hz1 hz2 rfl (by decide) (.slice (some ⟨w.heap.size, 0, none⟩) 0 (n + 12)) 0 [] rfl HH.out.2.1 a n c (zs.map (Value.int .i64)) rfl HL.out HH.out.2.2.1 HH.out.2.2.2.1 HH.out.2.2.2.2.1 HH.out.2.2.2.2.2.1 HH.out.2.2.2.2.2.2 (by simp) ?_; intro v' w1 hown hgrow hblk; obtain ⟨a', c', rfl⟩ := ownsRow_slice hown; have HW := Lib.hid (And.intro hown hgrow); clear hown hgrow hblk)
  go_loopg [3, 4] 12 (fun dd lv iv wr => ∃ (i : Nat) (b : Option Addr) (d : Nat), dd = 12 - i ∧ i ≤ 12 ∧ lv = .slice b (n + i) d ∧ iv = .int .i64 i ∧ Hid (wr.ownsRow w.heap.size 3 1 (.slice b (n + i) d) (n + i) ((zs ++ marksI i).map (Value.int .i64)) ∧ Chg [] w wr))
  case atStart =>
    refine ⟨0, a', c', rfl, Nat.zero_le _, ?_, rfl, Lib.hid ⟨?_, ?_⟩⟩
    · simp
    · have := HW.out.1
      simpa [marksI] using this
    · exact ((Chg.refl [] w).alloc ob).grown HW.out.2 (fun k hk => .inr (by simp [Value.ownBlock] at hk; omega))
  case round =>
    obtain ⟨i, b, d, rfl, hi12, rfl, rfl, hin⟩ := hrel
    obtain ⟨wq, rfl⟩ : ∃ wq, wq = wr := ⟨_, rfl⟩
    by_cases hlt : i < 12
    · go_wp2_with fail
      refine (mark_any wq 1 i (by omega) (by omega) (by omega) (by omega)).mono ?_
      rintro e w2 ⟨rfl, hc2⟩
      obtain ⟨mz, hmz⟩ : ∃ mz, mz = markZ 1 i := ⟨_, rfl⟩
      rw [← hmz]
      have hca := hc2.alloc (.cells #[.int .i64 mz] 3)
      have hrow := hca.row hin.out.1 (fun _ _ => by simp)
      have hnew := cells_at (w := w2.alloc (.cells #[.int .i64 mz] 3)) (heap_alloc_same _ _)
      have h2 : n + i + 1 ≤ maxLen ∧ (n + i + 1) * 8 ≤ 140737488355328 := by simp only [maxLen]; omega
      have hch := hin.out.2.tr hca
      have HA := Lib.hid (And.intro hrow (And.intro hnew (And.intro h2 (And.intro hch hmz))))
      have hbs := hch.size
      clear hrow hnew h2 hch hca hc2 hmz
      go_wp2_with (at_builtin; refine wpList_append_own_at _ rfl _ _ 38 rfl w.heap.size 3 i0 _ 1 8 Try.underlying38 hi hz0 hz1 hz2 rfl (by decide) (.slice b (n + i) d) (n + i) _ rfl HA.out.1 ⟨w2.heap.size, 0, none⟩ 1 1 [.int .i64 mz] rfl rfl HA.out.2.1 (HO.out [mz]) HA.out.2.2.1.1 HA.out.2.2.1.2 hbs ?_; intro v' w5 hr5 hg5 hn5 hb5; obtain ⟨a5, c5, rfl⟩ := ownsRow_slice hr5; have HX := Lib.hid (And.intro hr5 hg5); clear hr5 hg5 hn5 hb5)
      go_roundg (12 - (i + 1))
      case measure => omega
      case rel =>
        refine ⟨i + 1, a5, c5, rfl, by omega, rfl, by go_num, Lib.hid ⟨?_, HA.out.2.2.2.1.grown HX.out.2 (fun j hj => .inr (row_beyond HA.out.1 hj).1)⟩⟩
        have := HX.out.1
        rw [HA.out.2.2.2.2, show [Value.int .i64 (markZ 1 i)] = [markZ 1 i].map (Value.int .i64) from rfl, ← List.map_append, List.append_assoc, ← marksI_succ] at this
        exact this
    · obtain rfl : i = 12 := by omega
      obtain ⟨G, rfl, hd⟩ : ∃ G, b = some ⟨G, 0, none⟩ ∧ n + 12 ≤ d := by
        rcases hin.out.1.2 with ⟨h0, h1⟩ | ⟨g, cap, cur, h0, _, _, hn, _⟩
        · omega
        · cases h0; exact ⟨g, rfl, hn⟩
      have hdm : d ≤ 9223372036854775807 := by
        rcases hin.out.1.2 with ⟨h0, h1⟩ | ⟨g, cap, cur, h0, _, _, _, hc, _⟩
        · omega
        · cases h0; simp only [maxLen] at hc; exact hc
      go_wp2_with fail
      go_ret
      obtain ⟨h1, h2⟩ := hin.out
      have hn := HH.out.1
      subst hn
      exact ⟨G, d, rfl, h1, h2⟩
end Go.Proofs.Ytnajhcoimohcaaa
set_option linter.unusedVariables false
set_option linter.unusedSimpArgs false
set_option linter.unnecessarySimpa false
namespace Go.Proofs.Ytnajhcoimohcaaa
open Go.RowKit Go.MapKept Go.Shelf

set_option maxRecDepth 100000 in
set_option maxHeartbeats 4000000 in
theorem KeptInts_any (w : World) (b o : Nat) (n c : Nat) (a : Option Addr) (n2 c2 : Nat) (zs : List Int) (hn : n = zs.length) (hn2 : n2 = zs.length) (hs : n ≤ 1099511627776) (hc : n + 12 ≤ c) (hcm : c ≤ maxLen) (hz : Ints w (some ⟨b, o, none⟩) (zs ++ marksI 12)) (hl : Ints w a zs) :
    Calls Try.prog 31 #[.slice (some ⟨b, o, none⟩) n c, .slice a n2 c2] w fun e w' => e = .returned (.bool true) ∧ Chg [] w w' := by
  obtain rfl : n2 = n := by omega
  have hcm' : c ≤ 9223372036854775807 := by simp only [maxLen] at hcm; exact hcm
  have H := Lib.hid (And.intro hn (And.intro hz hl))
  clear hn hn2 hz hl hcm
  go_enter Try.func31, Try.ntmps31
  go_wp2_with fail
  go_loopg [6] (n2 + 12) (fun dd iv wr => ∃ i : Nat, dd = n2 + 12 - i ∧ i ≤ n2 + 12 ∧ iv = .int .i64 i ∧ Hid (Chg [] w wr))
  case atStart => exact ⟨0, rfl, Nat.zero_le _, rfl, Lib.hid (Chg.refl _ _)⟩
  case round =>
    obtain ⟨i, rfl, hi, rfl, hin⟩ := hrel
    obtain ⟨wq, rfl⟩ : ∃ wq, wq = wr := ⟨_, rfl⟩
    by_cases hlt : i < n2 + 12
    · have hil : i < (zs ++ marksI 12).length := by rw [List.length_append, marksI_len, ← H.out.1]; exact hlt
      obtain ⟨b', o', hb', hx⟩ := (H.out.2.1.keep hin.out.kp) i hil
      obtain ⟨rfl, rfl⟩ : b = b' ∧ o = o' := by cases hb'; exact ⟨rfl, rfl⟩
      by_cases hiz : i < n2
      · have hzl : i < zs.length := by rw [← H.out.1]; exact hiz
        obtain ⟨b2, o2, rfl, hy⟩ := (H.out.2.2.keep hin.out.kp) i hzl
        rw [List.getElem_append_left hzl] at hx
        obtain ⟨z, hzv⟩ : ∃ z, z = zs[i] := ⟨_, rfl⟩
        rw [← hzv] at hx hy
        have kx := cell_rg hx
        have ky := cell_rg hy
        have hd1 : decide ((i : Int) < n2) = true := decide_eq_true (by omega)
        have hd2 : decide (n2 ≤ i) = false := decide_eq_false (by omega)
        clear hx hy hzv hil hzl hb'
        go_wp2_with fail
        refine wp_region_quiet_below (by kernel_rfl) (by kernel_rfl) ?_
        repeat (go_big_quiet_step (fail))
        refine wpQuiet_nil ?_
        intro w7 hw7
        have HW := Lib.hid (hin.out.tr (chg_of_rg hw7))
        clear hw7 kx ky hd1 hd2
        go_wp2_with fail
        go_roundg (n2 + 12 - (i + 1))
        case measure => omega
        case rel => exact ⟨i + 1, rfl, by omega, by go_num, HW⟩
      · have hx2 : (zs ++ marksI 12)[i] = markZ 1 ((i : Int) - n2) := by
          have hzl : zs.length ≤ i := by rw [← H.out.1]; omega
          rw [List.getElem_append_right hzl]
          have hk : i - zs.length < 12 := by rw [← H.out.1]; omega
          simp only [marksI, List.getElem_map, List.getElem_range]
          congr 1
          have := H.out.1
          omega
        rw [hx2] at hx
        have cA := calls_rg (w := wq) (fun w1 h1 => mark_any w1 1 ((i : Int) - n2) (by omega) (by omega) (by omega) (by omega))
        obtain ⟨z, hzv⟩ : ∃ z, z = markZ 1 ((i : Int) - n2) := ⟨_, rfl⟩
        rw [← hzv] at hx cA
        have kx := cell_rg hx
        have hd1 : decide ((i : Int) < n2) = false := decide_eq_false (by omega)
        have hd2 : decide (n2 ≤ i) = true := decide_eq_true (by omega)
        have hw1 : IntKind.i64.wrap ((i : Int) - n2) = (i : Int) - n2 := IntWalk.i64_in _ (by omega)
        clear hx hzv hil hb' hx2
        go_wp2_with fail
        refine wp_region_quiet_below (by kernel_rfl) (by kernel_rfl) ?_
        repeat (go_big_quiet_step (with_reducible exact cA _ _))
        refine wpQuiet_nil ?_
        intro w7 hw7
        have HW := Lib.hid (hin.out.tr (chg_of_rg hw7))
        clear hw7 kx hd1 hd2 cA hw1
        go_wp2_with fail
        go_roundg (n2 + 12 - (i + 1))
        case measure => omega
        case rel => exact ⟨i + 1, rfl, by omega, by go_num, HW⟩
    · obtain rfl : i = n2 + 12 := by omega
      go_wp2_with fail
      go_ret
      exact ⟨rfl, hin.out⟩
end Go.Proofs.Ytnajhcoimohcaaa
set_option linter.unusedVariables false
set_option linter.unusedSimpArgs false
set_option linter.unnecessarySimpa false
namespace Go.Proofs.Ytnajhcoimohcaaa
open Go.RowKit Go.MapKept

set_option maxRecDepth 100000 in
set_option maxHeartbeats 4000000 in
theorem OverInts_any (w : World) (S b n c : Nat) (vs : List Value) (hs : n ≤ 1000000000) (hc : n + 12 ≤ c) (hcm : c ≤ 9223372036854775807) (hr : w.ownsRow S 3 1 (.slice (some ⟨b, 0, none⟩) (n + 12) c) (n + 12) vs) :
    Calls Try.prog 32 #[.slice (some ⟨b, 0, none⟩) n c] w fun e w' => e = .returned (.tuple #[]) ∧ Chg [b] w w' := by
  have H := Lib.hid hr
  clear hr
  have hmin : min (c : Int) ((n : Int) + 12) = (n : Int) + 12 := by omega
  have hw1 : IntKind.i64.wrap ((n : Int) + 12) = (n : Int) + 12 := IntWalk.i64_in _ (by omega)
  go_enter Try.func32, Try.ntmps32
  go_wp2_with fail
  go_loopg [3] (n + 12) (fun dd iv wr => ∃ i : Nat, dd = n + 12 - i ∧ i ≤ n + 12 ∧ iv = .int .i64 i ∧ Hid ((∃ zs, wr.ownsRow S 3 1 (.slice (some ⟨b, 0, none⟩) (n + 12) c) (n + 12) zs) ∧ Chg [b] w wr))
  case atStart => exact ⟨0, rfl, Nat.zero_le _, rfl, Lib.hid ⟨⟨_, H.out⟩, Chg.refl _ _⟩⟩
  case round =>
    obtain ⟨i, rfl, hi, rfl, hI⟩ := hrel
    obtain ⟨wq, rfl⟩ : ∃ wq, wq = wr := ⟨_, rfl⟩
    by_cases hlt : i < n + 12
    · have hi1 : (i : Int) < (n : Int) + 12 := by omega
      go_wp2_with fail
      refine (mark_any wq 2 i (by omega) (by omega) (by omega) (by omega)).mono ?_
      rintro e w2 ⟨rfl, hc2⟩
      obtain ⟨mz, hmz⟩ : ∃ mz, mz = markZ 2 i := ⟨_, rfl⟩
      rw [← hmz]
      obtain ⟨⟨zs, hzs⟩, hcz⟩ := hI.out
      replace hzs := hc2.row hzs (fun _ _ => by simp)
      replace hcz := hcz.tr0 hc2
      obtain ⟨hcj, hfj, hbj, -, hput⟩ := row_put hzs (i := i) (by omega)
      obtain ⟨hp1, hp2⟩ := hput (.int .i64 mz)
      obtain ⟨v9, hv9⟩ : ∃ v, zs[i]? = some v := ⟨_, List.getElem?_eq_getElem (by have := hzs.1; omega)⟩
      rw [hv9] at hcj
      have HP9 := Lib.hid (And.intro hp1 (hcz.tr hp2))
      clear hzs hcz hput hp1 hp2 hv9 hc2 hmz
      go_wp2_with fail
      go_roundg (n + 12 - (i + 1))
      case measure => omega
      case rel => exact ⟨i + 1, rfl, by omega, by go_num, Lib.hid ⟨⟨_, HP9.out.1⟩, HP9.out.2⟩⟩
    · obtain rfl : i = n + 12 := by omega
      go_wp2_with fail
      refine bodyPost_end (v := .tuple #[]) (by simp [results, Try.results32, go_sem]) rfl ?_
      exact ⟨rfl, hI.out.2⟩
end Go.Proofs.Ytnajhcoimohcaaa

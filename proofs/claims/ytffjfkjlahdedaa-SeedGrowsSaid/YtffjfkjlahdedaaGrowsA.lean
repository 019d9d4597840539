/-
  SeedGrows answers true, and touches nothing that was there.
  Conditions: the numbers are int64s; the slice of ends reads as a row of int64s.
-/
import Derived.Test.YtffjfkjlahdedaaSeedI
import Derived.Deep.LoopGhost
namespace Go.Proofs.Ytffjfkjlahdedaa
open Go.RowKit Go.MapKept

theorem tree_new (w : World) (k : Int) : Tree (w.alloc (.cells #[.int .i64 k, .int .i64 0, .int .i64 0, .int .i64 0, .int .i64 0] 33)) (.slice (some ⟨w.heap.size, 0, none⟩) 1 1) [⟨k, 0, 0, 0, 0⟩] :=
  ⟨⟨by simp [twCells, Tw.cells], .inr ⟨w.heap.size, 1, _, rfl, Nat.zero_le _, heap_alloc_same w _, Nat.le_refl _, by decide, rfl, rfl⟩⟩, by simp⟩
theorem tree_one {w : World} {a : Option Addr} {n c : Nat} {j : Int} (h : Tree w (.slice a n c) [⟨j, 0, 0, 0, 0⟩]) : n = 1 ∧ ∃ g, a = some ⟨g, 0, none⟩ ∧ w.cell? ⟨g, 0, none⟩ = some (.int .i64 j) := by
  rcases h.1.2 with ⟨_, h0⟩ | ⟨g, cap, cur, hv, _⟩
  · simp at h0
  · simp only [Value.slice.injEq] at hv
    obtain ⟨rfl, rfl, rfl⟩ := hv
    exact ⟨rfl, g, rfl, h.1.cells rfl 0 (.int .i64 j) rfl⟩
/-- What the store holds of the pair, so many ends having been grown, the last one last. -/
def GrownTo (level mn lst : Int) (f : Found) : Prop :=
  (mn = 0 ∧ lst = 0 ∧ f = none) ∨ (1 ≤ mn ∧ mn ≤ lst + 1 ∧ lst ≤ 49 ∧ ∃ j, f = some (lst, level, [⟨j, 0, 0, 0, 0⟩]))
def FreshAt (B b : Nat) (v : Value) (m : Nat) : Prop := ∀ j ∈ own b v m, B ≤ j
/-- The state at the head of a round. -/
def AtRound (w : World) (b m : Nat) (rule place level mn lst : Int) (wr : World) : Prop :=
  ∃ v f, GrownTo level mn lst f ∧ StoreAt wr b v m [((rule, place), f)] ∧ FreshAt w.heap.size b v m ∧ Chg [] w wr

theorem atRound_next {w wr w6 : World} {b m : Nat} {v : Value} {rule place level mn lst : Int} {f : Found} {o : Obj} (hf : GrownTo level mn lst f) (hs : StoreAt w6 b v m [((rule, place), f)]) (hfr : FreshAt w.heap.size b v m) (hcw : Chg [] w wr) (hc6 : Chg (own b v m) (wr.alloc o) w6) :
    ∀ w9, Chg [] w6 w9 → AtRound w b m rule place level mn lst w9 :=
  fun w9 h9 => ⟨v, f, hf, hs.keep h9, hfr, ((hcw.alloc o).trans hc6 (fun j hj => .inr (hfr j hj))).tr h9⟩

set_option maxRecDepth 100000 in
set_option maxHeartbeats 4000000 in
theorem grows_any (w : World) (rule place level : Int) (a : Option Addr) (len cap : Nat) (hr : I64 rule) (hp : I64 place) (hl : I64 level) (hlen : len ≤ maxLen)
    (hcell : ∀ k, k < len → ∃ B O x, a = some ⟨B, O, none⟩ ∧ I64 x ∧ w.cell? ⟨B, O + k, none⟩ = some (.int .i64 x)) :
    Calls Try.prog 3 #[.int .i64 rule, .int .i64 place, .int .i64 level, .slice a len cap] w fun e w' => e = .returned (.bool true) ∧ Chg [] w w' := by
  unfold maxLen at hlen
  have HC := Lib.hid hcell
  have HI := Lib.hid (And.intro hr (And.intro hp hl))
  clear hcell hr hp
  obtain ⟨hl1, hl2⟩ := hl
  by_cases hg : 200 < len ∨ 1099511627776 < level ∨ level < -1099511627776
  · have hg2 : 200 < len ∨ (len ≤ 200 ∧ 1099511627776 < level) ∨ (len ≤ 200 ∧ level ≤ 1099511627776 ∧ level < -1099511627776) := by omega
    clear hg
    rcases hg2 with g1 | ⟨g1, g2⟩ | ⟨g1, g2, g3⟩
    all_goals
      go_enter Try.func3, Try.ntmps3
      go_wp2_with fail
      refine (awake_any _).mono ?_
      rintro e w1 ⟨rfl, hc1⟩
      have H1 := Lib.hid hc1
      clear hc1
      go_wp2
      go_ret
      exact ⟨rfl, H1.out⟩
  · have g1 : len ≤ 200 := by omega
    have g2 : level ≤ 1099511627776 := by omega
    have g3 : -1099511627776 ≤ level := by omega
    clear hg
    go_enter Try.func3, Try.ntmps3
    go_wp2_with fail
    refine (awake_any _).mono ?_
    rintro e w1 ⟨rfl, hc1⟩
    have H1 := Lib.hid hc1
    clear hc1
    go_wp2_with fail
    refine (new_any _).mono ?_
    rintro e w2 ⟨rfl, hs2, hc2⟩
    obtain ⟨b, hb⟩ : ∃ b, b = w1.heap.size + 1 := ⟨_, rfl⟩
    obtain ⟨m, hm⟩ : ∃ m, m = w1.heap.size := ⟨_, rfl⟩
    rw [← hb, ← hm] at hs2
    rw [← hb]
    have H2 := Lib.hid (And.intro hs2 (And.intro hc2 (And.intro hb hm)))
    clear hs2 hc2 hb hm
    go_wp2_with fail
    refine (begin_eq (s := []) (s' := [((rule, place), none)]) (q := (rule, place)) (x := 0) rfl rfl _ b m _ H2.out.1 HI.out.1 HI.out.2.1 (by decide)).mono ?_
    rintro e w3 ⟨v3, rfl, hs3, hc3, hk3⟩
    have H3 := Lib.hid (And.intro hs3 (And.intro hc3 hk3))
    clear hs3 hc3 hk3
    go_wp2_with fail
    refine (begin_eq (s := [((rule, place), none)]) (s' := [((rule, place), none)]) (q := (rule, place)) (x := 8) (by simp) (by simp) _ b m _ H3.out.1 HI.out.1 HI.out.2.1 (by simp)).mono ?_
    rintro e w4 ⟨v4, rfl, hs4, hc4, hk4⟩
    have H4 := Lib.hid (And.intro hs4 (And.intro hc4 hk4))
    clear hs4 hc4 hk4
    go_wp2_with fail
    go_loopg [10, 11, 12] len (fun g mnv lstv iv wr => ∃ (k : Nat) (mn lst : Int), g = len - k ∧ k ≤ len ∧ mnv = .int .i64 mn ∧ lstv = .int .i64 lst ∧ iv = .int .i64 k ∧ AtRound w b m rule place level mn lst wr)
    case atStart =>
      have hsz1 := H1.out.size
      have hsz2 := H2.out.2.1.size
      have hsz3 := H3.out.2.1.size
      obtain ⟨hb, hm⟩ := H2.out.2.2
      have F0 : FreshAt w.heap.size b (.slice none 0 0) m := by
        intro j hj
        simp only [own, List.mem_cons, Option.mem_toList] at hj
        rcases hj with rfl | rfl | hj
        · omega
        · omega
        · cases hj
      have F3 : FreshAt w.heap.size b v3 m := by
        intro j hj
        simp only [own, List.mem_cons, Option.mem_toList] at hj
        rcases hj with rfl | rfl | hj
        · omega
        · omega
        · rcases H3.out.2.2 j hj with h | h
          · cases h
          · omega
      have F4 : FreshAt w.heap.size b v4 m := by
        intro j hj
        simp only [own, List.mem_cons, Option.mem_toList] at hj
        rcases hj with rfl | rfl | hj
        · omega
        · omega
        · rcases H4.out.2.2 j hj with h | h
          · exact F3 j (by simp [own, h])
          · omega
      refine ⟨0, 0, 0, rfl, Nat.zero_le _, rfl, rfl, rfl, v4, none, .inl ⟨rfl, rfl, rfl⟩, H4.out.1, F4, ?_⟩
      exact ((H1.out.tr H2.out.2.1).trans H3.out.2.1 (fun j hj => .inr (F0 j hj))).trans H4.out.2.1 (fun j hj => .inr (F3 j hj))
    case round =>
      obtain ⟨k, mn, lst, rfl, hk, rfl, rfl, rfl, v, f, hf, hst, hfr, hcw⟩ := hrel
      have HR := Lib.hid (And.intro hf (And.intro hst (And.intro hfr hcw)))
      clear hf hst hfr hcw
      by_cases hlt : k < len
      · obtain ⟨B, O, x, rfl, hx, hxc⟩ := HC.out k hlt
        have hxc2 := HR.out.2.2.2.cell hxc (by simp)
        have HX := Lib.hid (And.intro hx hxc)
        clear hx hxc
        go_wp2_with fail
        refine (pick_any x 50 _ (by decide) (by decide) HX.out.1.1 HX.out.1.2).mono ?_
        rintro e w5 ⟨rfl, rfl⟩
        obtain ⟨en, hen⟩ : ∃ en, en = x % 50 := ⟨_, rfl⟩
        rw [← hen]
        have he1 : 0 ≤ en := by omega
        have he2 : en ≤ 49 := by omega
        have HE := Lib.hid hen
        clear hen
        go_wp2_with fail
        obtain ⟨hf, hst, hfr, hcw⟩ := HR.out
        rcases hf with ⟨rfl, rfl, rfl⟩ | ⟨hm1, hm2, hm3, j, rfl⟩
        · clear hst hfr hcw
          refine (grow_eq (s := [((rule, place), none)]) (s' := [((rule, place), some (en, level, [⟨k, 0, 0, 0, 0⟩]))]) (e := en) (l := level) (t := [⟨k, 0, 0, 0, 0⟩]) (x := 0) (rfl) (rfl) _ b m v _ _ _ (HR.out.2.1.keep ((Chg.refl _ _).alloc _)) (tree_new _ _) (by simp)).mono ?_
          rintro e w6 ⟨rfl, hs6, hc6⟩
          have HS := Lib.hid (And.intro hs6 (atRound_next (mn := 0 + 1) (.inr ⟨by omega, by omega, he2, k, rfl⟩) hs6 HR.out.2.2.1 HR.out.2.2.2 hc6))
          clear hs6 hc6
          go_wp2_with fail
          refine (Read_eq (s := [((rule, place), some (en, level, [⟨k, 0, 0, 0, 0⟩]))]) (q := (rule, place)) (k := level) (x := some (en, level, [⟨k, 0, 0, 0, 0⟩])) (y := 3) (by simp [St.read, St.get]) _ b _ _ HS.out.1 HI.out.1 HI.out.2.1).mono ?_
          rintro e w7 ⟨v7, rfl, ⟨a7, c7, rfl, ht7⟩, hc7⟩
          obtain ⟨_, g7, rfl, ht7c⟩ := tree_one ht7
          have H7 := Lib.hid hc7
          clear ht7 hc7
          go_wp2_with fail
          refine (Read_eq (s := [((rule, place), some (en, level, [⟨k, 0, 0, 0, 0⟩]))]) (q := (rule, place)) (k := level - 1) (x := none) (y := 2) (by simp [St.read, St.get]; omega) _ b _ _ (HS.out.1.keep (H7.out.alloc _)) HI.out.1 HI.out.2.1).mono ?_
          rintro e w8 ⟨v8, rfl, hv8, hc8⟩
          obtain rfl := seed_none hv8
          have x8 := hc8.heap (heap_alloc_same w7 _) List.not_mem_nil
          have t8 := hc8.cell (((Chg.refl [] w7).alloc _).cell ht7c List.not_mem_nil) List.not_mem_nil
          have H8 := Lib.hid hc8
          clear hv8 hc8 ht7c
          have X8 := Lib.hid (And.intro x8 t8)
          clear x8 t8
          go_wp2_with fail
          refine (Read_eq (s := [((rule, place), some (en, level, [⟨k, 0, 0, 0, 0⟩]))]) (q := (rule, place)) (k := level + 1) (x := some (en, level, [⟨k, 0, 0, 0, 0⟩])) (y := 3) (by simp [St.read, St.get]; omega) _ b _ _ (HS.out.1.keep ((H7.out.alloc _).tr (H8.out.alloc _))) HI.out.1 HI.out.2.1).mono ?_
          rintro e w9 ⟨v9, rfl, ⟨a9, c9, rfl, ht9⟩, hc9⟩
          have x9 := hc9.heap (heap_alloc_lt X8.out.1 _) List.not_mem_nil
          have t9 := hc9.cell (((Chg.refl [] w8).alloc _).cell X8.out.2 List.not_mem_nil) List.not_mem_nil
          have x0 := (cell_of_cells x9 0).trans (show _ = some (Value.int .i64 (en)) from rfl)
          have x1 := (cell_of_cells x9 1).trans (show _ = some (Value.int .i64 level) from rfl)
          have x2 := (cell_of_cells x9 2).trans (show _ = some (Value.slice (some ⟨g7, 0, none⟩) 1 c7) from rfl)
          have xl := lt_of_block x9
          have tl := World.block_lt_of_cell? _ _ t9
          simp only at tl
          have H9 := Lib.hid hc9
          clear ht9 hc9 x9
          go_wp2
          go_roundg (len - (k + 1))
          case measure => omega
          case rel => exact ⟨k + 1, 0 + 1, en, rfl, by omega, by go_num, rfl, by go_num, HS.out.2 _ ((((H7.out.alloc _).tr (H8.out.alloc _)).tr (H9.out.alloc _)))⟩
        · clear hst hfr hcw
          have hmn : (mn == 0) = false := by simp; omega
          have hmn2 : ¬ mn = 0 := by omega
          by_cases hen : lst < en
          · have hen' : mayGrow (some (lst, level, [⟨j, 0, 0, 0, 0⟩])) en level = true := by simp [mayGrow, hen]
            have HM := Lib.hid hen'
            clear hen' hmn2
            refine (grow_eq (s := [((rule, place), some (lst, level, [⟨j, 0, 0, 0, 0⟩]))]) (s' := [((rule, place), some (en, level, [⟨k, 0, 0, 0, 0⟩]))]) (e := en) (l := level) (t := [⟨k, 0, 0, 0, 0⟩]) (x := 0) (by simp [St.growErr, growErr, St.grow, growSt, HM.out]) (by simp [St.growErr, growErr, St.grow, growSt, HM.out]) _ b m v _ _ _ (HR.out.2.1.keep ((Chg.refl _ _).alloc _)) (tree_new _ _) (by simp)).mono ?_
            rintro e w6 ⟨rfl, hs6, hc6⟩
            have HS := Lib.hid (And.intro hs6 (atRound_next (mn := mn + 1) (.inr ⟨by omega, by omega, he2, k, rfl⟩) hs6 HR.out.2.2.1 HR.out.2.2.2 hc6))
            clear hs6 hc6
            go_wp2_with fail
            refine (Read_eq (s := [((rule, place), some (en, level, [⟨k, 0, 0, 0, 0⟩]))]) (q := (rule, place)) (k := level) (x := some (en, level, [⟨k, 0, 0, 0, 0⟩])) (y := 3) (by simp [St.read, St.get]) _ b _ _ HS.out.1 HI.out.1 HI.out.2.1).mono ?_
            rintro e w7 ⟨v7, rfl, ⟨a7, c7, rfl, ht7⟩, hc7⟩
            obtain ⟨_, g7, rfl, ht7c⟩ := tree_one ht7
            have H7 := Lib.hid hc7
            clear ht7 hc7
            go_wp2_with fail
            refine (Read_eq (s := [((rule, place), some (en, level, [⟨k, 0, 0, 0, 0⟩]))]) (q := (rule, place)) (k := level - 1) (x := none) (y := 2) (by simp [St.read, St.get]; omega) _ b _ _ (HS.out.1.keep (H7.out.alloc _)) HI.out.1 HI.out.2.1).mono ?_
            rintro e w8 ⟨v8, rfl, hv8, hc8⟩
            obtain rfl := seed_none hv8
            have x8 := hc8.heap (heap_alloc_same w7 _) List.not_mem_nil
            have t8 := hc8.cell (((Chg.refl [] w7).alloc _).cell ht7c List.not_mem_nil) List.not_mem_nil
            have H8 := Lib.hid hc8
            clear hv8 hc8 ht7c
            have X8 := Lib.hid (And.intro x8 t8)
            clear x8 t8
            go_wp2_with fail
            refine (Read_eq (s := [((rule, place), some (en, level, [⟨k, 0, 0, 0, 0⟩]))]) (q := (rule, place)) (k := level + 1) (x := some (en, level, [⟨k, 0, 0, 0, 0⟩])) (y := 3) (by simp [St.read, St.get]; omega) _ b _ _ (HS.out.1.keep ((H7.out.alloc _).tr (H8.out.alloc _))) HI.out.1 HI.out.2.1).mono ?_
            rintro e w9 ⟨v9, rfl, ⟨a9, c9, rfl, ht9⟩, hc9⟩
            have x9 := hc9.heap (heap_alloc_lt X8.out.1 _) List.not_mem_nil
            have t9 := hc9.cell (((Chg.refl [] w8).alloc _).cell X8.out.2 List.not_mem_nil) List.not_mem_nil
            have x0 := (cell_of_cells x9 0).trans (show _ = some (Value.int .i64 (en)) from rfl)
            have x1 := (cell_of_cells x9 1).trans (show _ = some (Value.int .i64 level) from rfl)
            have x2 := (cell_of_cells x9 2).trans (show _ = some (Value.slice (some ⟨g7, 0, none⟩) 1 c7) from rfl)
            have xl := lt_of_block x9
            have tl := World.block_lt_of_cell? _ _ t9
            simp only at tl
            have H9 := Lib.hid hc9
            clear ht9 hc9 x9
            go_wp2
            go_roundg (len - (k + 1))
            case measure => omega
            case rel => exact ⟨k + 1, mn + 1, en, rfl, by omega, by go_num, rfl, by go_num, HS.out.2 _ ((((H7.out.alloc _).tr (H8.out.alloc _)).tr (H9.out.alloc _)))⟩
          · have hen' : mayGrow (some (lst, level, [⟨j, 0, 0, 0, 0⟩])) en level = false := by simp [mayGrow, hen]
            have HM := Lib.hid hen'
            clear hen' hmn2
            refine (grow_eq (s := [((rule, place), some (lst, level, [⟨j, 0, 0, 0, 0⟩]))]) (s' := [((rule, place), some (lst, level, [⟨j, 0, 0, 0, 0⟩]))]) (e := en) (l := level) (t := [⟨k, 0, 0, 0, 0⟩]) (x := 2) (by simp [St.growErr, growErr, St.grow, growSt, HM.out]) (by simp [St.growErr, growErr, St.grow, growSt, HM.out]) _ b m v _ _ _ (HR.out.2.1.keep ((Chg.refl _ _).alloc _)) (tree_new _ _) (by simp)).mono ?_
            rintro e w6 ⟨rfl, hs6, hc6⟩
            have HS := Lib.hid (And.intro hs6 (atRound_next (mn := mn) (.inr ⟨hm1, hm2, hm3, j, rfl⟩) hs6 HR.out.2.2.1 HR.out.2.2.2 hc6))
            clear hs6 hc6
            go_wp2_with fail
            refine (Read_eq (s := [((rule, place), some (lst, level, [⟨j, 0, 0, 0, 0⟩]))]) (q := (rule, place)) (k := level) (x := some (lst, level, [⟨j, 0, 0, 0, 0⟩])) (y := 3) (by simp [St.read, St.get]) _ b _ _ HS.out.1 HI.out.1 HI.out.2.1).mono ?_
            rintro e w7 ⟨v7, rfl, ⟨a7, c7, rfl, ht7⟩, hc7⟩
            obtain ⟨_, g7, rfl, ht7c⟩ := tree_one ht7
            have H7 := Lib.hid hc7
            clear ht7 hc7
            go_wp2_with fail
            refine (Read_eq (s := [((rule, place), some (lst, level, [⟨j, 0, 0, 0, 0⟩]))]) (q := (rule, place)) (k := level - 1) (x := none) (y := 2) (by simp [St.read, St.get]; omega) _ b _ _ (HS.out.1.keep (H7.out.alloc _)) HI.out.1 HI.out.2.1).mono ?_
            rintro e w8 ⟨v8, rfl, hv8, hc8⟩
            obtain rfl := seed_none hv8
            have x8 := hc8.heap (heap_alloc_same w7 _) List.not_mem_nil
            have t8 := hc8.cell (((Chg.refl [] w7).alloc _).cell ht7c List.not_mem_nil) List.not_mem_nil
            have H8 := Lib.hid hc8
            clear hv8 hc8 ht7c
            have X8 := Lib.hid (And.intro x8 t8)
            clear x8 t8
            go_wp2_with fail
            refine (Read_eq (s := [((rule, place), some (lst, level, [⟨j, 0, 0, 0, 0⟩]))]) (q := (rule, place)) (k := level + 1) (x := some (lst, level, [⟨j, 0, 0, 0, 0⟩])) (y := 3) (by simp [St.read, St.get]; omega) _ b _ _ (HS.out.1.keep ((H7.out.alloc _).tr (H8.out.alloc _))) HI.out.1 HI.out.2.1).mono ?_
            rintro e w9 ⟨v9, rfl, ⟨a9, c9, rfl, ht9⟩, hc9⟩
            have x9 := hc9.heap (heap_alloc_lt X8.out.1 _) List.not_mem_nil
            have t9 := hc9.cell (((Chg.refl [] w8).alloc _).cell X8.out.2 List.not_mem_nil) List.not_mem_nil
            have x0 := (cell_of_cells x9 0).trans (show _ = some (Value.int .i64 (lst)) from rfl)
            have x1 := (cell_of_cells x9 1).trans (show _ = some (Value.int .i64 level) from rfl)
            have x2 := (cell_of_cells x9 2).trans (show _ = some (Value.slice (some ⟨g7, 0, none⟩) 1 c7) from rfl)
            have xl := lt_of_block x9
            have tl := World.block_lt_of_cell? _ _ t9
            simp only at tl
            have H9 := Lib.hid hc9
            clear ht9 hc9 x9
            go_wp2
            go_roundg (len - (k + 1))
            case measure => omega
            case rel => exact ⟨k + 1, mn, lst, rfl, by omega, by go_num, rfl, by go_num, HS.out.2 _ ((((H7.out.alloc _).tr (H8.out.alloc _)).tr (H9.out.alloc _)))⟩
      · obtain ⟨hf, hst, hfr, hcw⟩ := HR.out
        rcases hf with ⟨rfl, rfl, rfl⟩ | ⟨hm1, hm2, hm3, j, rfl⟩
        · clear hst hfr hcw
          go_wp2_with fail
          refine (grow_eq (s := [((rule, place), none)]) (s' := [((rule, place), some (60, level + 1, []))]) (e := 60) (l := level + 1) (t := []) (x := 0) rfl rfl _ b m v _ _ _ HR.out.2.1 (tree_nil _) (by simp)).mono ?_
          rintro e w6 ⟨rfl, hs6, hc6⟩
          have HS := Lib.hid (And.intro hs6 hc6)
          clear hs6 hc6
          go_wp2_with fail
          refine (Len_any _ b m v _ HS.out.1).mono ?_
          rintro e w7 ⟨rfl, rfl⟩
          go_wp2
          go_ret
          exact ⟨rfl, HR.out.2.2.2.trans HS.out.2 (fun j hj => .inr (HR.out.2.2.1 j hj))⟩
        · clear hst hfr hcw
          have hmn : 0 < mn := by omega
          go_wp2_with fail
          refine (grow_eq (s := [((rule, place), some (lst, level, [⟨j, 0, 0, 0, 0⟩]))]) (s' := [((rule, place), some (lst, level, [⟨j, 0, 0, 0, 0⟩]))]) (e := 60) (l := level + 1) (t := []) (x := 2) (by simp [St.growErr, growErr, mayGrow]; omega) (by simp [St.grow, growSt, mayGrow]; omega) _ b m v _ _ _ HR.out.2.1 (tree_nil _) (by simp)).mono ?_
          rintro e w6 ⟨rfl, hs6, hc6⟩
          have HS := Lib.hid (And.intro hs6 hc6)
          clear hs6 hc6
          go_wp2_with fail
          refine (Len_any _ b m v _ HS.out.1).mono ?_
          rintro e w7 ⟨rfl, rfl⟩
          go_wp2
          go_ret
          exact ⟨rfl, HR.out.2.2.2.trans HS.out.2 (fun j hj => .inr (HR.out.2.2.1 j hj))⟩
end Go.Proofs.Ytffjfkjlahdedaa

/-
  The chapter's example is as the statement says.
  Conditions: none.
-/
import Derived.Test.YtffjfkjlahdedaaSnsSeedH
set_option linter.unusedVariables false
set_option linter.unusedSimpArgs false
set_option linter.unnecessarySimpa false
namespace Go.Proofs.Ytffjfkjlahdedaa
open Go.RowKit Go.MapKept

def FreshAt (B b : Nat) (v : Value) (m : Nat) : Prop := ∀ j ∈ own b v m, B ≤ j
theorem seed_none {B : Nat} {w : World} {v : Value} (h : SeedAt B w v none) : v = .agg #[.int .i64 0, .int .i64 0, .slice none 0 0] := h

set_option maxRecDepth 100000 in
set_option maxHeartbeats 1600000 in
theorem awake19_any (w : World) : Calls Try.prog 7 #[] w fun e w' => e = .returned (.bool true) ∧ Chg [] w w' := by
  go_enter Try.func7, Try.ntmps7
  go_wp2_with fail
  refine (new_any (NB := 0) _ (by omega)).mono ?_
  rintro e w1 ⟨rfl, hs1, hc1⟩
  obtain ⟨b, hb⟩ : ∃ b, b = w.heap.size + 1 := ⟨_, rfl⟩
  rw [← hb] at hs1 ⊢
  have HB := Lib.hid (And.intro hb (And.intro hs1 hc1))
  clear hb hs1 hc1
  go_wp2_with fail
  refine (begin_eq (s := []) (s' := [((1, 0), none)]) (q := (1, 0)) (x := 0) rfl rfl _ b w.heap.size _ HB.out.2.1 (by decide) (by decide) (by decide)).mono ?_
  rintro e w2 ⟨v2, rfl, hs2, hc2, hk2⟩
  have H2 := Lib.hid (And.intro hs2 (And.intro hc2 hk2))
  clear hs2 hc2 hk2
  go_wp2_with fail
  refine (Read_eq (s := [((1, 0), none)]) (q := (1, 0)) (k := 0) (x := none) (y := 2) rfl _ b _ _ H2.out.1 (by decide) (by decide)).mono ?_
  rintro e w3 ⟨v3, rfl, hv3, hc3⟩
  obtain rfl := seed_none hv3
  have H3 := Lib.hid hc3
  clear hv3 hc3
  go_wp2_with fail
  refine (grow_eq (s := [((1, 0), none)]) (s' := [((1, 0), some (2, 1, []))]) (e := 2) (l := 1) (t := []) (x := 0) rfl rfl _ b _ _ _ _ _ (H2.out.1.keep (H3.out.alloc _)) (tree_nil _) (by decide)).mono ?_
  rintro e w4 ⟨rfl, hs4, hc4⟩
  have H4 := Lib.hid (And.intro hs4 hc4)
  clear hs4 hc4
  go_wp2_with fail
  refine (Read_eq (s := [((1, 0), some (2, 1, []))]) (q := (1, 0)) (k := 0) (x := none) (y := 2) rfl _ b _ _ H4.out.1 (by decide) (by decide)).mono ?_
  rintro e w5 ⟨v5, rfl, hv5, hc5⟩
  obtain rfl := seed_none hv5
  have H5 := Lib.hid hc5
  clear hv5 hc5
  go_wp2_with fail
  refine (Read_eq (s := [((1, 0), some (2, 1, []))]) (q := (1, 0)) (k := 1) (x := some (2, 1, [])) (y := 3) rfl _ b _ _ (H4.out.1.keep (H5.out.alloc _)) (by decide) (by decide)).mono ?_
  rintro e w6 ⟨v6, rfl, ⟨a6, c6, rfl, ht6⟩, hc6⟩
  have H6 := Lib.hid hc6
  clear ht6 hc6
  go_wp2_with fail
  refine (Read_eq (s := [((1, 0), some (2, 1, []))]) (q := (1, 1)) (k := 1) (x := none) (y := 1) rfl _ b _ _ (H4.out.1.keep ((H5.out.alloc _).tr (H6.out.alloc _))) (by decide) (by decide)).mono ?_
  rintro e w7 ⟨v7, rfl, hv7, hc7⟩
  obtain rfl := seed_none hv7
  have x := hc7.heap (heap_alloc_same _ _) List.not_mem_nil
  have x0 := (cell_of_cells x 0).trans (show _ = some (Value.int .i64 2) from rfl)
  have x1 := (cell_of_cells x 1).trans (show _ = some (Value.int .i64 1) from rfl)
  have xl := lt_of_block x
  have H7 := Lib.hid hc7
  clear hv7 hc7 x
  go_wp2_with fail
  refine (End_eq (s := [((1, 0), some (2, 1, []))]) (s' := []) (x := 0) rfl rfl _ b _ _ (H4.out.1.keep (((H5.out.alloc _).tr (H6.out.alloc _)).tr (H7.out.alloc _))) (by decide)).mono ?_
  rintro e w8 ⟨v8, rfl, hs8, hc8, hk8⟩
  have H8 := Lib.hid (And.intro hs8 (And.intro hc8 hk8))
  clear hs8 hc8 hk8
  go_wp2_with fail
  refine (End_eq (s := []) (s' := []) (x := 5) rfl rfl _ b _ _ H8.out.1 (by decide)).mono ?_
  rintro e w9 ⟨v9, rfl, hs9, hc9, hk9⟩
  have H9 := Lib.hid (And.intro hc9 hk9)
  clear hs9 hc9 hk9
  go_wp2
  go_ret
  refine ⟨rfl, ?_⟩
  have F2 : ∀ j ∈ own b v2 w.heap.size, w.heap.size ≤ j := by
    intro j hj
    simp only [own, List.mem_cons, Option.mem_toList] at hj
    have h0 := HB.out.1
    have h1 := HB.out.2.2.size
    rcases hj with rfl | rfl | hj
    · omega
    · omega
    · rcases H2.out.2.2 j hj with h | h
      · cases h
      · omega
  have F8 : ∀ j ∈ own b v8 w.heap.size, w.heap.size ≤ j := by
    intro j hj
    refine F2 j ?_
    simp only [own, List.mem_cons, Option.mem_toList] at hj ⊢
    rw [H8.out.2.2] at hj
    exact hj
  have F1 : ∀ j ∈ own b (.slice none 0 0) w.heap.size, w.heap.size ≤ j := by
    intro j hj
    have h0 := HB.out.1
    simp only [own, List.mem_cons, Option.mem_toList] at hj
    rcases hj with rfl | rfl | hj
    · omega
    · omega
    · cases hj
  have C2 := HB.out.2.2.trans H2.out.2.1 (fun j hj => .inr (F1 j hj))
  have C4 := (C2.tr (H3.out.alloc _)).trans H4.out.2 (fun j hj => .inr (F2 j hj))
  exact ((((C4.tr (H5.out.alloc _)).tr (H6.out.alloc _)).tr (H7.out.alloc _)).trans H8.out.2.1 (fun j hj => .inr (F2 j hj))).trans H9.out.1 (fun j hj => .inr (F8 j hj))
end Go.Proofs.Ytffjfkjlahdedaa

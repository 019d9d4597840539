/-
  The walks over package seed: Last, Live.
  Conditions: as in the texts before.
-/
import Derived.Test.YtffjfkjlahdedaaSnsSeedH
import Derived.Test.YtffjfkjlahdedaaSnsSortB
import Derived.Test.YtffjfkjlahdedaaSnsSdShelf
import Derived.Deep.LoopGhost
set_option linter.unusedVariables false
set_option linter.unusedSimpArgs false
set_option linter.unnecessarySimpa false
namespace Go.Proofs.Ytffjfkjlahdedaa
open Go.RowKit Go.MapKept

def lastPair (s : St) : Int × Int := match s.getLast? with | none => (0, 0) | some (q, _) => q
set_option maxRecDepth 100000 in
set_option maxHeartbeats 800000 in
theorem Last_any {NB : Nat} (w : World) (b m : Nat) (v : Value) (s : St) (h : StoreAt NB w b v m s) (hs : s.length ≤ 1099511627776) :
    Calls Try.prog 14 #[.pointer (some ⟨b, 0, none⟩)] w fun r w' => r = .returned (.tuple #[.int .i64 (lastPair s).1, .int .i64 (lastPair s).2, .bool (!s.isEmpty)]) ∧ Chg [] w w' := by
  have c0 := cell_of_cells h.head 0
  have c1 := cell_of_cells h.head 1
  simp at c0 c1
  rcases List.eq_nil_or_concat s with rfl | ⟨s0, x, rfl⟩
  · obtain ⟨a, c, rfl⟩ := head_empty h
    clear h
    go_enter Try.func14, Try.ntmps14
    go_wp2_with fail
    refine (made_yes _ _ _ c1).mono ?_
    rintro r w' ⟨rfl, rfl⟩
    go_wp2_with fail
    refine (last_none _ _ _ _ c0).mono ?_
    rintro r w1 ⟨rfl, hc⟩
    have HC := Lib.hid hc
    clear hc
    go_wp2_with fail
    go_region
    go_wp2
    go_ret3
    exact ⟨rfl, (HC.out.alloc _).drew⟩
  · obtain ⟨q, f⟩ := x
    rw [List.concat_eq_append] at h hs ⊢
    obtain ⟨g, cp, rfl, hn, hcm, p0, p1⟩ := pairs_last h
    have hs' : s0.length ≤ 1099511627776 := by simp at hs; omega
    have hlp : lastPair (s0 ++ [(q, f)]) = q ∧ (s0 ++ [(q, f)]).isEmpty = false := by simp [lastPair]
    rw [hlp.1, hlp.2]
    clear h hlp hs
    go_enter Try.func14, Try.ntmps14
    go_wp2_with fail
    refine (made_yes _ _ _ c1).mono ?_
    rintro r w' ⟨rfl, rfl⟩
    go_wp2_with fail
    refine (last_some _ _ _ _ _ _ _ c0 hs' p0 p1).mono ?_
    rintro r w1 ⟨rfl, hc⟩
    have HC := Lib.hid hc
    clear hc
    go_wp2_with fail
    go_region
    go_wp2
    go_ret3
    exact ⟨rfl, (HC.out.alloc _).drew⟩

/-- The rules of the pairs at a place, in the row's order. -/
def rulesAt (s : St) (place : Int) : List Int := (s.filter fun x => x.1.2 = place).map (·.1.1)
theorem rulesAt_snoc (s : St) (x : (Int × Int) × Found) (place : Int) : rulesAt (s ++ [x]) place = rulesAt s place ++ (if x.1.2 = place then [x.1.1] else []) := by
  unfold rulesAt
  rw [List.filter_append, List.map_append]
  by_cases h : x.1.2 = place <;> simp [h]

theorem pairs_at {NB : Nat} {w : World} {b m : Nat} {v : Value} {s : St} (h : StoreAt NB w b v m s) {k : Nat} (hk : k < s.length) : ∃ g c, v = .slice (some ⟨g, 0, none⟩) s.length c ∧
    w.cell? ⟨g, k * 2, none⟩ = some (.int .i64 s[k].1.1) ∧ w.cell? ⟨g, k * 2 + 1, none⟩ = some (.int .i64 s[k].1.2) := by
  have hc : ∀ j u, (pairCells s)[j]? = some u → ∀ g, v.ownBlock = some g → w.cell? ((⟨g, 0, none⟩ : Addr).add j) = some u := fun j u hu g hg => h.row.cells hg j u hu
  have hsp : pairCells s = pairCells (s.take k) ++ ([.int .i64 s[k].1.1, .int .i64 s[k].1.2] ++ pairCells (s.drop (k + 1))) := by
    have h1 : s = s.take k ++ s[k] :: s.drop (k + 1) := by rw [← List.drop_eq_getElem_cons hk, List.take_append_drop]
    refine (congrArg pairCells h1).trans ?_
    simp only [pairCells, List.flatMap_append, List.flatMap_cons, List.append_assoc]
  have hl : (pairCells (s.take k)).length = k * 2 := by rw [pairCells_length, List.length_take]; omega
  rcases h.row.2 with ⟨rfl, h0⟩ | ⟨g, cap, cur, rfl, _⟩
  · omega
  · refine ⟨g, cap, rfl, ?_, ?_⟩
    · have := hc (k * 2) (.int .i64 s[k].1.1) (by rw [hsp, List.getElem?_append_right (by omega), hl]; simp) g rfl
      simpa [Addr.add_lit] using this
    · have := hc (k * 2 + 1) (.int .i64 s[k].1.2) (by rw [hsp, List.getElem?_append_right (by omega), hl]; simp) g rfl
      simpa [Addr.add_lit] using this
theorem sort_any (w : World) (a : Option Addr) (n c : Nat) (zs : List Int) (h : w.ownsRow 0 3 1 (.slice a n c) n (zs.map (Value.int .i64))) (hn : n < 4611686018427387904) :
    Calls Try.prog 34 #[.slice a n c] w fun e w' => e = .returned (.tuple #[]) ∧ w'.ownsRow 0 3 1 (.slice a n c) n ((sorted zs).map (Value.int .i64)) ∧ Chg (Value.slice a n c).ownBlock.toList w w' := by
  have hlen : zs.length = n := by have := h.1; simpa using this
  rcases h.2 with ⟨hv, rfl⟩ | ⟨g, cap, cur, hv, _⟩
  · cases hv
    obtain rfl : zs = [] := List.eq_nil_of_length_eq_zero hlen
    refine (Try.slices_Sort_int_none none 0 w).mono ?_
    rintro e w' ⟨rfl, rfl⟩
    exact ⟨rfl, by simpa [sorted] using h, Chg.refl _ _⟩
  · simp only [Value.slice.injEq] at hv
    obtain ⟨rfl, _, rfl⟩ := hv
    subst hlen
    refine (Try.slices_Sort_int g 0 c zs w (row_holds h) (h.lt g rfl).2 hn).mono ?_
    rintro e w' ⟨rfl, k, os, hw⟩
    have := sort_row h k os hw
    exact ⟨rfl, this.1, by simpa [Value.ownBlock] using this.2⟩
def LivePost (zs : List Int) (w : World) (r : Ending) (w' : World) : Prop :=
  ∃ a c, r = .returned (.slice a zs.length c) ∧ w'.ownsRow 0 3 1 (.slice a zs.length c) zs.length (zs.map (Value.int .i64)) ∧ (∀ j, (Value.slice a zs.length c).ownBlock = some j → w.heap.size ≤ j) ∧ Chg [] w w'
/-- What the row of rules is while it is made. -/
def LiveRow (w : World) (zs : List Int) (a : Option Addr) (n c : Nat) (wr : World) : Prop :=
  n = zs.length ∧ wr.ownsRow 0 3 1 (.slice a n c) n (zs.map (Value.int .i64)) ∧ (∀ j, (Value.slice a n c).ownBlock = some j → w.heap.size ≤ j) ∧ Chg [] w wr

set_option maxRecDepth 100000 in
set_option maxHeartbeats 1600000 in
theorem Live_any {NB : Nat} (w : World) (b m : Nat) (v : Value) (s : St) (place : Int) (h : StoreAt NB w b v m s) (hs : s.length ≤ 1099511627776) :
    Calls Try.prog 15 #[.pointer (some ⟨b, 0, none⟩), .int .i64 place] w (LivePost (sorted (rulesAt s place)) w) := by
  obtain ⟨av, cv, rfl⟩ := ownsRow_slice h.row
  have c0 := cell_of_cells h.head 0
  have c1 := cell_of_cells h.head 1
  simp at c0 c1
  obtain ⟨i0, hi, hz0, hz1, hz2⟩ := info_parts Try.infoInt
  have H := Lib.hid (And.intro h hs)
  clear h
  go_enter Try.func15, Try.ntmps15
  go_wp2_with fail
  refine (made_yes _ _ _ c1).mono ?_
  rintro r w' ⟨rfl, rfl⟩
  go_wp2_with fail
  go_loopg [16, 4] s.length (fun g iv ov wr => ∃ (k n c : Nat) (a : Option Addr), g = s.length - k ∧ k ≤ s.length ∧ iv = .int .i64 k ∧ ov = .slice a n c ∧ LiveRow w (rulesAt (s.take k) place) a n c wr)
  case atStart => exact ⟨0, 0, 0, none, rfl, Nat.zero_le _, rfl, rfl, rfl, World.ownsRow_nil _ _ _ _, (by intro j hj; cases hj), Chg.refl _ _⟩
  case round =>
    obtain ⟨k, n, c, a, rfl, hk, rfl, rfl, hn, hrow, hfr, hcw⟩ := hrel
    have HR := Lib.hid (And.intro hn (And.intro hrow (And.intro hfr hcw)))
    clear hn hrow hfr hcw
    by_cases hlt : k < s.length
    · obtain ⟨g, cp, hv, p0, p1⟩ := pairs_at (H.out.1.keep HR.out.2.2.2) hlt
      simp only [Value.slice.injEq] at hv
      obtain ⟨rfl, _, rfl⟩ := hv
      have hg := World.block_lt_of_cell? _ _ p0
      simp only at hg
      have hsn : rulesAt (s.take (k + 1)) place = rulesAt (s.take k) place ++ (if s[k].1.2 = place then [s[k].1.1] else []) := by
        rw [List.take_succ_eq_append_getElem hlt, rulesAt_snoc]
      have hle : (rulesAt (s.take k) place).length ≤ k := by
        unfold rulesAt
        rw [List.length_map]
        exact Nat.le_trans (List.length_filter_le _ _) (List.length_take_le _ _)
      have HS := Lib.hid (And.intro hsn hle)
      clear hsn hle
      obtain ⟨r0, hr0⟩ : ∃ r0, r0 = s[k].1.1 := ⟨_, rfl⟩
      obtain ⟨q0, hq0⟩ : ∃ q0, q0 = s[k].1.2 := ⟨_, rfl⟩
      rw [← hr0] at p0
      rw [← hq0] at p1
      have HN := Lib.hid (And.intro hr0 hq0)
      clear hr0 hq0
      by_cases hp : q0 = place
      · have hp' : (q0 == place) = true := by simp [hp]
        have HP := Lib.hid hp
        clear hp
        have h1 : ∀ u ∈ [Value.int .i64 r0], u.oneCell' = true := by simp [Value.oneCell']
        have h2 : n + 1 ≤ maxLen ∧ (n + 1) * 8 ≤ 140737488355328 := by have := HS.out.2; have := HR.out.1; have := H.out.2; simp only [maxLen]; omega
        have hnew := cells_at (w := (wr.alloc (.cells #[.int .i64 r0, .int .i64 q0] 71)).alloc (.cells #[.int .i64 r0] 3)) (heap_alloc_same _ _)
        rw [World.size_alloc] at hnew
        have HA := Lib.hid (And.intro h1 (And.intro h2 hnew))
        clear h1 h2 hnew
        go_wp2_with (at_builtin; refine wpList_append_row rfl _ _ 22 rfl 3 i0 _ 1 8 Try.underlying22 hi hz0 hz1 hz2 rfl (by decide) (.slice a n c) n _ rfl ((HR.out.2.1.alloc _).alloc _) ⟨wr.heap.size + 1, 0, none⟩ 1 1 [.int .i64 r0] rfl rfl HA.out.2.2 HA.out.1 HA.out.2.1.1 HA.out.2.1.2 ?_; intro a' c' w1 hr1 hg1 hk1; have HW := Lib.hid (And.intro hr1 (And.intro hg1 hk1)); clear hr1 hg1 hk1)
        go_roundg (s.length - (k + 1))
        case measure => omega
        case rel =>
          obtain ⟨hr1, hg1, hk1⟩ := HW.out
          obtain ⟨hn, hrow, hfr, hcw⟩ := HR.out
          refine ⟨k + 1, n + 1, c', a', rfl, by omega, by go_num, rfl, ?_, ?_, ?_, ?_⟩
          · rw [HS.out.1, if_pos (HN.out.2.symm.trans HP.out)]; simp [hn]
          · rw [HS.out.1, if_pos (HN.out.2.symm.trans HP.out), ← HN.out.1]; simpa using hr1
          · intro j hj
            rcases hk1 with h | h
            · exact hfr j (h.symm.trans hj)
            · rw [h] at hj; cases hj; have := hcw.size; simp; omega
          · exact ((hcw.alloc _).alloc _).grown hg1 (fun j hj => .inr (hfr j hj))
      · have hp' : (q0 == place) = false := by simp [hp]
        have HP := Lib.hid hp
        clear hp
        go_wp2
        go_roundg (s.length - (k + 1))
        case measure => omega
        case rel =>
          obtain ⟨hn, hrow, hfr, hcw⟩ := HR.out
          refine ⟨k + 1, n, c, a, rfl, by omega, by go_num, rfl, ?_, ?_, hfr, hcw.alloc _⟩
          · rw [HS.out.1, if_neg (fun e => HP.out (HN.out.2.trans e))]; simpa using hn
          · rw [HS.out.1, if_neg (fun e => HP.out (HN.out.2.trans e))]; simpa using hrow.alloc _
    · obtain rfl : k = s.length := by omega
      go_wp2_with fail
      have hns : n < 4611686018427387904 := by
        have h1 := HR.out.1
        have h2 := H.out.2
        have h3 : (rulesAt (s.take s.length) place).length ≤ s.length := by
          unfold rulesAt
          rw [List.length_map]
          exact Nat.le_trans (List.length_filter_le _ _) (List.length_take_le _ _)
        omega
      refine (sort_any _ a n c _ HR.out.2.1 hns).mono ?_
      rintro r w2 ⟨rfl, hr2, hc2⟩
      have HF := Lib.hid (And.intro hr2 hc2)
      clear hr2 hc2
      go_wp2
      go_ret
      obtain ⟨hn, hrow, hfr, hcw⟩ := HR.out
      rw [List.take_length] at hn
      have hl : (sorted (rulesAt s place)).length = n := by rw [sorted_length, hn]
      refine ⟨a, c, by rw [hl]; rfl, ?_, by rw [hl]; exact hfr, hcw.trans HF.out.2 (fun j hj => .inr (hfr j (by simpa using hj)))⟩
      rw [hl]
      have := HF.out.1
      rw [List.take_length] at this
      exact this
end Go.Proofs.Ytffjfkjlahdedaa

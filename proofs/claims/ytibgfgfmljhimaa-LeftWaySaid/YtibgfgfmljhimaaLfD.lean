/-
  left.Graph: whom each rule calls at its own place.
  Conditions: the grammar reads as data, within the reach.
-/
import Derived.Test.YtibgfgfmljhimaaLfC
set_option linter.unusedVariables false
set_option linter.unusedSimpArgs false
set_option linter.unnecessarySimpa false
namespace Go.Proofs.Ytibgfgfmljhimaa
open Go.RowKit Go.MapKept Go.Shelf

/-! ### Rows of rows of numbers -/
theorem Try.infoInts : (Try.prog.info? 30).map (fun i => (i.zero, i.size, i.bytes)) = some (some (.slice none 0 0), 1, 24) := by kernel_rfl
abbrev Is := Option Addr × Nat × List Int
def Is.cell (p : Is) : Value := .slice p.1 p.2.2.length p.2.1
def Is.own (p : Is) : Option Nat := p.cell.ownBlock
structure OwnIs (B : Nat) (w : World) (a : Option Addr) (c : Nat) (VS : List Is) : Prop where
  row : w.ownsRow B 30 1 (.slice a VS.length c) VS.length (VS.map Is.cell)
  each : ∀ p ∈ VS, FreshInts B w p.1 p.2.1 p.2.2
  apart : VS.Pairwise fun p q => ∀ k, p.own = some k → q.own ≠ some k
theorem OwnIs.nil (B : Nat) (w : World) : OwnIs B w none 0 [] := ⟨World.ownsRow_nil _ _ _ _, by simp, List.Pairwise.nil⟩
theorem OwnIs.chg0 {B : Nat} {w w' : World} {a : Option Addr} {c : Nat} {VS : List Is} (h : OwnIs B w a c VS) (hc : Chg [] w w') : OwnIs B w' a c VS := ⟨hc.row h.row (fun _ _ => by simp), fun p hp => hc.row (h.each p hp) (fun _ _ => by simp), h.apart⟩
theorem OwnIs.base {B B' : Nat} {w : World} {a : Option Addr} {c : Nat} {VS : List Is} (h : OwnIs B w a c VS) (hb : B' ≤ B) : OwnIs B' w a c VS := ⟨row_base h.row hb, fun p hp => row_base (h.each p hp) hb, h.apart⟩
/-- One row more, made behind all others. -/
theorem OwnIs.snoc {B B' : Nat} {w w1 : World} {a a' : Option Addr} {c c' : Nat} {VS : List Is} {p : Is} (h : OwnIs B w a c VS) (hB : B ≤ B') (hp : FreshInts B' w p.1 p.2.1 p.2.2) (hold : ∀ q ∈ VS, ∀ k, q.own = some k → k < B')
    (hr : w1.ownsRow B 30 1 (.slice a' (VS.length + 1) c') (VS.length + 1) (VS.map Is.cell ++ [p.cell])) (hg : w.grownBy w1 (Value.slice a VS.length c).ownBlock) : OwnIs B w1 a' c' (VS ++ [p]) := by
  have hc : Chg (Value.slice a VS.length c).ownBlock.toList w w1 := (Chg.refl _ w).grown hg (fun k hk => .inl (by rw [hk]; simp))
  have hS : ∀ k ∈ (Value.slice a VS.length c).ownBlock.toList, NotRow w 3 k := by
    intro k hk
    simp only [Option.mem_toList] at hk
    exact row_notrow h.row hk (by decide)
  refine ⟨by rw [List.length_append, List.map_append]; exact hr, fun q hq => ?_, ?_⟩
  · rcases List.mem_append.1 hq with hq | hq
    · exact hc.row (h.each q hq) (fun k hk hm => hS k hm _ _ _ _ _ (h.each q hq) hk)
    · simp only [List.mem_singleton] at hq
      subst hq
      exact hc.row (row_base hp hB) (fun k hk hm => hS k hm _ _ _ _ _ hp hk)
  · rw [List.pairwise_append]
    refine ⟨h.apart, List.pairwise_singleton _ _, fun q hq r hr k hk hk2 => ?_⟩
    simp only [List.mem_singleton] at hr
    subst hr
    have h1 := hold q hq k hk
    have h2 := (row_beyond hp hk2).1
    omega
theorem OwnIs.lt {B : Nat} {w : World} {a : Option Addr} {c : Nat} {VS : List Is} (h : OwnIs B w a c VS) : ∀ q ∈ VS, ∀ k, q.own = some k → k < w.heap.size := fun q hq k hk => (row_beyond (h.each q hq) hk).2.1
/-- Reading. -/
theorem OwnIs.at {B : Nat} {w : World} {a : Option Addr} {c : Nat} {VS : List Is} (h : OwnIs B w a c VS) {i : Nat} (hi : i < VS.length) : ∃ b, a = some ⟨b, 0, none⟩ ∧ B ≤ b ∧ w.cell? ⟨b, i, none⟩ = some VS[i].cell := by
  rcases h.row.2 with ⟨h0, h1⟩ | ⟨g, cap, cur, h0, hb, hg, hn, hc, hs, ht⟩
  · omega
  · cases h0
    refine ⟨g, rfl, hb, ?_⟩
    rw [cell_of_cells hg]
    have h1 : (VS.map Is.cell)[i]? = some VS[i].cell := by simp [hi]
    rw [← ht, List.getElem?_take] at h1
    split at h1
    · simpa using h1
    · cases h1
theorem OwnIs.ints {B : Nat} {w : World} {a : Option Addr} {c : Nat} {VS : List Is} (h : OwnIs B w a c VS) {i : Nat} (hi : i < VS.length) : Ints w VS[i].1 VS[i].2.2 := (ownInts_read (h.each _ (List.getElem_mem hi)).own).1
def NewRowsI (w : World) (zss : List (List Int)) (e : Ending) (w' : World) : Prop := ∃ a c VS, e = .returned (.slice a zss.length c) ∧ VS.map (·.2.2) = zss ∧ OwnIs w.heap.size w' a c VS ∧ Chg [] w w'

set_option maxRecDepth 100000 in
set_option maxHeartbeats 8000000 in
theorem Graph_any (w : World) (a1 : Option Addr) (n1 c1 : Nat) (a2 : Option Addr) (n2 c2 : Nat) (g : Gr) (hg : GramAt w a1 n1 c1 a2 n2 c2 g) (hre : Reach g) :
    Calls Try.prog 58 #[.agg #[.slice a1 n1 c1, .slice a2 n2 c2]] w (NewRowsI w (graphG g)) := by
  obtain ⟨i0, hi0, hz0, hz1, hz2⟩ := info_parts Try.infoInts
  have H := Lib.hid (And.intro hg (And.intro hre (And.intro hg.e1 hg.e2)))
  clear hg hre
  go_enter Try.func58, Try.ntmps58
  obtain ⟨x0, x1⟩ := cells2 (heap_alloc_same w (.cells #[.slice a1 n1 c1, .slice a2 n2 c2] 25))
  go_wp2_with fail
  refine (ofLeft_any _ a1 n1 c1 a2 n2 c2 g (H.out.1.keep ((Chg.refl [] w).alloc _).kp) H.out.2.1).mono ?_
  rintro e w2 ⟨hc2, hif⟩
  have hg2 := hc2.heap (heap_alloc_same w (.cells #[.slice a1 n1 c1, .slice a2 n2 c2] 25)) (by simp)
  have hcw := ((Chg.refl [] w).alloc _).tr0 hc2
  clear x0 x1 hc2
  obtain ⟨x0, x1⟩ := cells2 hg2
  cases hr : rightB g with
  | false =>
    rw [hr] at hif
    obtain rfl : e = _ := hif
    have HC := Lib.hid (And.intro hcw hr)
    clear hcw hr hg2
    go_wp2_with fail
    go_ret
    have e0 : graphG g = [] := by simp [graphG, HC.out.2]
    rw [e0]
    exact ⟨none, 0, [], rfl, rfl, OwnIs.nil _ _, HC.out.1⟩
  | true =>
    rw [hr, if_pos rfl] at hif
    obtain ⟨B, R, hB, hR, rfl, hw⟩ := hif
    have hn32 : n1 ≤ 32 := by have := (right_sizes hr).2.1; have := H.out.2.2.1; omega
    have HC := Lib.hid (And.intro hcw (And.intro hw (And.intro hr (And.intro hg2 (And.intro hB hR)))))
    clear hcw hr hg2 hB hR hw
    go_wp2_with fail
    clear x0 x1
    go_loopg [17, 2] n1 (fun d iv ov wr => ∃ (i q : Nat) (a : Option Addr) (c : Nat), d = n1 - i ∧ i ≤ n1 ∧ iv = .int .i64 i ∧ ov = .slice a q c ∧ q = i ∧ Hid (∃ VS : List Is, VS.length = i ∧ VS.map (·.2.2) = (g.rules.take i).map (fun r => callsG g r.body) ∧ OwnIs w2.heap.size wr a c VS ∧ Chg [] w2 wr))
    case atStart => exact ⟨0, 0, none, 0, rfl, Nat.zero_le _, rfl, rfl, rfl, Lib.hid ⟨[], rfl, rfl, OwnIs.nil _ _, Chg.refl _ _⟩⟩
    case round =>
      obtain ⟨i, q, a, c, rfl, hi, rfl, rfl, hq, hin⟩ := hrel
      obtain ⟨wq, rfl⟩ : ∃ wz, wz = wr := ⟨_, rfl⟩
      have HQ := Lib.hid hq
      clear hq
      by_cases hlt : i < n1
      · have hir : i < g.rules.length := by have := H.out.2.2.1; omega
        obtain ⟨VS, v1, v2, v3, v4⟩ := hin.out
        obtain ⟨b, hb, hbn⟩ := right_body HC.out.2.2.1 hir
        obtain ⟨br, orr, rfl, hname, hbody⟩ := (H.out.1.keep (HC.out.1.tr v4).kp).rules i hir
        obtain ⟨nm, hnm⟩ : ∃ nm, nm = g.rules[i].name := ⟨_, rfl⟩
        rw [← hnm] at hname
        rw [hb] at hbody
        have HV := Lib.hid (And.intro v1 (And.intro v2 (And.intro v3 v4)))
        have HB : Hid (∃ h : i < g.rules.length, g.rules[i].body = (b : Int)) := Lib.hid ⟨hir, hb⟩
        clear v1 v2 v3 v4 hnm hb hir
        go_wp2_with fail
        obtain ⟨wA, eA⟩ : ∃ wA, wA = wq.alloc (.cells #[.string nm, .int .i64 b] 46) := ⟨_, rfl⟩
        have hcA : Chg [] wq wA := by rw [eA]; exact (Chg.refl _ _).alloc _
        rw [← eA]
        have hcall := calls_any wA B R _ n1 c1 a2 n2 c2 g (HC.out.2.1.chg (HV.out.2.2.2.tr hcA)) b hbn
        refine hcall.mono ?_
        clear hcall
        rintro e w4 ⟨al, cl, rfl, hf, hc4⟩
        obtain ⟨ll, hll⟩ : ∃ ll, ll = (callsG g b).length := ⟨_, rfl⟩
        rw [← hll]
        have hc2 : Chg [] wq w4 := hcA.tr hc4
        have hcB := hc2.alloc (.cells #[.slice al ll cl] 30)
        have hrow := hcB.row HV.out.2.2.1.row (fun _ _ => by simp)
        rw [HV.out.1] at hrow
        have hnew := cells_at (w := w4.alloc (.cells #[.slice al ll cl] 30)) (heap_alloc_same _ _)
        have h1' : ∀ u ∈ [Value.slice al ll cl], u.oneCell' = true := by simp [Value.oneCell']
        have h2' : i + 1 ≤ maxLen ∧ (i + 1) * 24 ≤ 140737488355328 := by simp only [maxLen]; omega
        have hb' : w2.heap.size ≤ (w4.alloc (.cells #[.slice al ll cl] 30)).heap.size := (HV.out.2.2.2.tr hcB).size
        have hcell : Is.cell (al, cl, callsG g b) = .slice al ll cl := by simp [Is.cell, hll]
        have H4 := Lib.hid (And.intro hrow (And.intro hnew (And.intro h1' (And.intro h2' (And.intro hb' (And.intro hf (And.intro hcB (And.intro hcell (And.intro hcA hc4)))))))))
        have hqi := HQ.out
        subst hqi
        clear hrow hnew h1' h2' hb' hf hcB hcell hc2 hc4 eA hcA hll
        go_wp2_with (at_builtin; refine wpList_append_own_at _ rfl _ _ 68 rfl w2.heap.size 30 i0 _ 1 24 Try.underlying68 hi0 hz0 hz1 hz2 rfl (by decide) (.slice a q c) q (VS.map Is.cell) rfl H4.out.1 ⟨w4.heap.size, 0, none⟩ 1 1 [.slice al ll cl] rfl rfl H4.out.2.1 H4.out.2.2.1 H4.out.2.2.2.1.1 H4.out.2.2.2.1.2 H4.out.2.2.2.2.1 ?_; intro v' w7 hr7 hg7 hn7 hb7; obtain ⟨a7, c7, rfl⟩ := ownsRow_slice hr7; have HW := Lib.hid (And.intro hr7 hg7); clear hr7 hg7 hn7 hb7)
        go_roundg (n1 - (q + 1))
        case measure => omega
        case rel =>
          obtain ⟨v1, v2, v3, v4⟩ := HV.out
          obtain ⟨hrow, hnew, h1', h2', hb', hf, hcB, hcell, hcA, hc4⟩ := H4.out
          obtain ⟨hr7, hg7⟩ := HW.out
          obtain ⟨hir, hbody⟩ := HB.out
          rw [← v1] at hg7
          have hwA : wq.heap.size ≤ wA.heap.size := hcA.size
          have hsn := (v3.chg0 hcB).snoc (B' := wA.heap.size) (p := (al, cl, callsG g b)) (Nat.le_trans v4.size hwA) (((Chg.refl [] w4).alloc (.cells #[.slice al ll cl] 30)).row hf (fun _ _ => by simp)) (fun r hr k hk => Nat.lt_of_lt_of_le (v3.lt r hr k hk) hwA) (by rw [hcell, v1]; exact hr7) hg7
          refine ⟨q + 1, q + 1, a7, c7, rfl, by omega, by go_num, rfl, rfl, Lib.hid ⟨VS ++ [(al, cl, callsG g b)], by simp [v1], ?_, hsn, (v4.tr hcB).grown hg7 (fun k hk => .inr ?_)⟩⟩
          · rw [List.map_append, v2, List.take_add_one, List.getElem?_eq_getElem hir, List.map_append]
            simp [hbody]
          · exact (row_beyond (v3.chg0 hcB).row hk).1
      · obtain rfl : i = n1 := by omega
        go_wp2_with fail
        go_ret
        obtain ⟨VS, v1, v2, v3, v4⟩ := hin.out
        have e0 : graphG g = g.rules.map (fun r => callsG g r.body) := by simp [graphG, HC.out.2.2.1]
        rw [List.take_of_length_le (by have := H.out.2.2.1; omega), ← e0] at v2
        have e1 : (graphG g).length = VS.length := by rw [← v2]; simp
        refine ⟨a, c, VS, ?_, v2, v3.base HC.out.1.size, HC.out.1.tr v4⟩
        rw [e1, v1]
        first | rfl | (rw [HQ.out]; rfl)
end Go.Proofs.Ytibgfgfmljhimaa

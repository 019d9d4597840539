/-
  The library's Reverse at numbers in a row of one's own; its IndexFunc at steps; left.Way.
  Conditions: the grammar reads as data, within the reach.
-/
import Derived.Test.YtibgfgfmljhimaaGreatLeLfF
import Derived.Test.YtibgfgfmljhimaaGreatLeGRule
set_option linter.unusedVariables false
set_option linter.unusedSimpArgs false
set_option linter.unnecessarySimpa false
namespace Go.Proofs.YtibgfgfmljhimaaGreat
open Go.RowKit Go.MapKept Go.Shelf

theorem freshInts_set {B : Nat} {w : World} {g c : Nat} {zs : List Int} (h : FreshInts B w (some ⟨g, 0, none⟩) c zs) {i : Nat} (hi : i < zs.length) (z : Int) : FreshInts B (w.setCell ⟨g, i, none⟩ (.int .i64 z)) (some ⟨g, 0, none⟩) c (zs.set i z) := by
  obtain ⟨h1, h2⟩ := h
  rcases h2 with ⟨h0, _⟩ | ⟨g', cap, cur, h0, hb, hg, hn, hc, hs, ht⟩
  · simp at h0
  · simp at h0
    obtain ⟨rfl, rfl⟩ := h0
    refine ⟨by simpa using h1, .inr ⟨g, c, cur.setIfInBounds i (.int .i64 z), by simp, hb, heap_setCell_same hg i (.int .i64 z), by simpa using hn, hc, by simpa using hs, ?_⟩⟩
    rw [Array.toList_setIfInBounds, List.length_set, List.take_set, ht, List.map_set]
theorem freshInts_at {B : Nat} {w : World} {g c : Nat} {zs : List Int} (h : FreshInts B w (some ⟨g, 0, none⟩) c zs) {i : Nat} {z : Int} (hi : zs[i]? = some z) : w.cell? ⟨g, i, none⟩ = some (.int .i64 z) ∧ w.frozen? ⟨g, i, none⟩ = false := by
  obtain ⟨h1, h2⟩ := h
  rcases h2 with ⟨h0, _⟩ | ⟨g', cap, cur, h0, hb, hg, hn, hc, hs, ht⟩
  · simp at h0
  · simp at h0
    obtain ⟨rfl, rfl⟩ := h0
    refine ⟨?_, free_of_cells hg i⟩
    rw [cell_of_cells hg]
    have h3 : (zs.map (Value.int .i64))[i]? = some (.int .i64 z) := by simp [hi]
    rw [← ht, List.getElem?_take] at h3
    split at h3
    · simpa using h3
    · cases h3
/-- After i swaps. -/
def swapL (zs : List Int) (i : Nat) : List Int := (List.range zs.length).map fun k => if k < i ∨ zs.length ≤ k + i then zs.getD (zs.length - 1 - k) 0 else zs.getD k 0
theorem swapL_len (zs : List Int) (i : Nat) : (swapL zs i).length = zs.length := by simp [swapL]
theorem swapL_zero (zs : List Int) : swapL zs 0 = zs := by
  refine List.ext_getElem (swapL_len _ _) (fun k h1 h2 => ?_)
  have h3 : k < zs.length := h2
  simp only [swapL, List.getElem_map, List.getElem_range]
  rw [if_neg (by omega), List.getD, List.getElem?_eq_getElem h3]; rfl
theorem swapL_end {zs : List Int} {i : Nat} (h : zs.length ≤ 2 * i + 1) : swapL zs i = zs.reverse := by
  refine List.ext_getElem (by simp [swapL]) (fun k h1 h2 => ?_)
  have h3 : k < zs.length := by simpa [swapL] using h1
  simp only [swapL, List.getElem_map, List.getElem_range, List.getElem_reverse]
  by_cases hc : k < i ∨ zs.length ≤ k + i
  · rw [if_pos hc, List.getD, List.getElem?_eq_getElem (by omega)]; rfl
  · rw [if_neg hc, List.getD, List.getElem?_eq_getElem h3]
    have : zs.length - 1 - k = k := by omega
    simp [this]
theorem swapL_at {zs : List Int} {i : Nat} (h : 2 * i + 1 < zs.length) : (swapL zs i)[i]? = some (zs.getD i 0) ∧ (swapL zs i)[zs.length - 1 - i]? = some (zs.getD (zs.length - 1 - i) 0) := by
  constructor
  · rw [List.getElem?_eq_getElem (by rw [swapL_len]; omega)]
    simp only [swapL, List.getElem_map, List.getElem_range]
    rw [if_neg (by omega)]
  · rw [List.getElem?_eq_getElem (by rw [swapL_len]; omega)]
    simp only [swapL, List.getElem_map, List.getElem_range]
    rw [if_neg (by omega)]
theorem swapL_step {zs : List Int} {i : Nat} (h : 2 * i + 1 < zs.length) : ((swapL zs i).set i (zs.getD (zs.length - 1 - i) 0)).set (zs.length - 1 - i) (zs.getD i 0) = swapL zs (i + 1) := by
  refine List.ext_getElem (by simp [swapL]) (fun k h1 h2 => ?_)
  have h3 : k < zs.length := by simpa [swapL] using h2
  rw [List.getElem_set, List.getElem_set]
  simp only [swapL, List.getElem_map, List.getElem_range]
  by_cases e1 : zs.length - 1 - i = k
  · rw [if_pos e1, if_pos (by omega), ← e1]
    congr 1
    omega
  · rw [if_neg e1]
    by_cases e2 : i = k
    · rw [if_pos e2, if_pos (by omega), e2]
    · rw [if_neg e2]
      by_cases hc : k < i ∨ zs.length ≤ k + i
      · rw [if_pos hc, if_pos (by omega)]
      · rw [if_neg hc, if_neg (by omega)]

set_option maxRecDepth 100000 in
set_option maxHeartbeats 2000000 in
theorem reverse_any (w : World) (B g c : Nat) (zs : List Int) (n : Nat) (hn : n = zs.length) (hl : n ≤ 1000) (h : FreshInts B w (some ⟨g, 0, none⟩) c zs) :
    Calls Tryz.prog 101 #[.slice (some ⟨g, 0, none⟩) n c] w fun e w' => (∃ v, e = .returned v) ∧ FreshInts B w' (some ⟨g, 0, none⟩) c zs.reverse ∧ Chg [g] w w' := by
  have H := Lib.hid (And.intro hn h)
  clear hn h
  go_enter Tryz.func101, Tryz.ntmps101
  go_wp2_with fail
  go_loopg [2, 3] n (fun d iv jv wr => ∃ i : Nat, d = n - i ∧ 2 * i ≤ n ∧ iv = .int .i64 i ∧ jv = .int .i64 ((n : Int) - 1 - i) ∧ Hid (FreshInts B wr (some ⟨g, 0, none⟩) c (swapL zs i) ∧ Chg [g] w wr))
  case atStart => exact ⟨0, rfl, by omega, rfl, by simp, Lib.hid ⟨by rw [swapL_zero]; exact H.out.2, Chg.refl _ _⟩⟩
  case round =>
    obtain ⟨i, rfl, hi, rfl, rfl, hin⟩ := hrel
    obtain ⟨wq, rfl⟩ : ∃ wz, wz = wr := ⟨_, rfl⟩
    by_cases hlt : 2 * i + 1 < n
    · obtain ⟨j, hj⟩ : ∃ j : Nat, (j : Int) = (n : Int) - 1 - i := ⟨n - 1 - i, by omega⟩
      rw [← hj]
      have hji : j = n - 1 - i := by omega
      have hs := swapL_at (zs := zs) (i := i) (by have := H.out.1; omega)
      rw [← H.out.1, ← hji] at hs
      obtain ⟨c1, f1⟩ := freshInts_at hin.out.1 hs.1
      obtain ⟨c2, f2⟩ := freshInts_at hin.out.1 hs.2
      have hset := freshInts_set hin.out.1 (i := i) (by rw [swapL_len, ← H.out.1]; omega) (zs.getD j 0)
      have hne : ((swapL zs i).set i (zs.getD j 0))[j]? = some (zs.getD j 0) := by
        rw [List.getElem?_set_ne (by omega)]
        exact hs.2
      obtain ⟨c3, f3⟩ := freshInts_at hset hne
      obtain ⟨x, hx⟩ : ∃ x, x = zs.getD i 0 := ⟨_, rfl⟩
      obtain ⟨y, hy⟩ : ∃ y, y = zs.getD j 0 := ⟨_, rfl⟩
      rw [← hx] at c1
      rw [← hy] at c2 c3 f3
      have hjn : j < n := by omega
      have hijn : i < j := by omega
      have HX := Lib.hid (And.intro hx (And.intro hy (And.intro hji hj)))
      clear hs hset hne hx hy hji hj
      go_wp2_with fail
      go_region
      go_wp2_with fail
      go_roundg (n - (i + 1))
      case measure => omega
      case rel =>
        obtain ⟨hx, hy, hji, hj⟩ := HX.out
        have hs1 := freshInts_set hin.out.1 (i := i) (by rw [swapL_len, ← H.out.1]; omega) y
        have hs2 := freshInts_set hs1 (i := j) (by rw [List.length_set, swapL_len, ← H.out.1]; omega) x
        have hst := swapL_step (zs := zs) (i := i) (by have := H.out.1; omega)
        rw [← H.out.1, ← hji, ← hx, ← hy] at hst
        rw [hst] at hs2
        refine ⟨i + 1, rfl, by omega, by go_num, ?_, Lib.hid ⟨(Chg.refl [] _).drew.row hs2 (fun _ _ => by simp), ((hin.out.2.setCell (p := ⟨g, i, none⟩) (.inl (by simp)) _).setCell (p := ⟨g, j, none⟩) (.inl (by simp)) _).drew⟩⟩
        congr 1
        omega
    · go_wp2_with fail
      go_end0
      have := hin.out.1
      rw [swapL_end (by have := H.out.1; omega)] at this
      exact ⟨⟨_, rfl⟩, this, hin.out.2⟩

/-! ### The first step to a rule -/
def Steps (w : World) (a : Option Addr) (ss : List Stp) : Prop :=
  ∀ i (h : i < ss.length), ∃ b o, a = some ⟨b, o, none⟩ ∧ w.cell? ⟨b, o + i * 2, none⟩ = some (.int .i64 ss[i].1) ∧ w.cell? ⟨b, o + i * 2 + 1, none⟩ = some (.int .i64 ss[i].2)
theorem Steps.keep {w w' : World} {a : Option Addr} {ss : List Stp} (h : Steps w a ss) (k : Kp w w') : Steps w' a ss := fun i hi => by
  obtain ⟨b, o, h1, h2, h3⟩ := h i hi
  exact ⟨b, o, h1, k.2 _ _ h2, k.2 _ _ h3⟩
set_option maxRecDepth 100000 in
set_option maxHeartbeats 1000000 in
theorem way1_any (w : World) (s : Stp) (bk : Nat) (k : Int) (hb : w.heap[bk]? = some (.cells #[.int .i64 k] 3 (0, 0))) :
    Calls Tryz.prog 100 #[.agg #[.int .i64 s.1, .int .i64 s.2], .pointer (some ⟨bk, 0, none⟩)] w fun e w' => e = .returned (.bool (s.1 == k)) ∧ Chg [] w w' := by
  obtain ⟨r, f⟩ := s
  have hbk := lt_of_block hb
  have c0 := cells1 hb
  go_enter Tryz.func100, Tryz.ntmps100
  go_wp2_with fail
  go_ret
  exact ⟨rfl, (Chg.refl _ _).alloc _⟩
set_option maxRecDepth 100000 in
set_option maxHeartbeats 1000000 in
theorem idxSteps_any (w : World) (a : Option Addr) (n c : Nat) (rs : List Stp) (g : Nat) (lb : Array Value) (p : Stp → Bool) (hn : n = rs.length) (hs : n ≤ 9223372036854775807) (hr : Steps w a rs)
    (hp : ∀ i (h : i < rs.length) w1, Chg [] w w1 → Calls Tryz.prog g (#[.agg #[.int .i64 rs[i].1, .int .i64 rs[i].2]] ++ lb) w1 fun e w2 => e = .returned (.bool (p rs[i])) ∧ Chg [] w1 w2)
    (eg : ∀ args w, (callFunc g args).run Tryz.prog w = .ok (.enter g args) w) :
    Calls Tryz.prog 99 #[.slice a n c, .func (.func g) #[] lb] w fun e w' => e = .returned (.int .i64 (idxI rs p)) ∧ Chg [] w w' := by
  have H := Lib.hid (And.intro hn (And.intro hr hp))
  clear hn hr hp
  go_enter Tryz.func99, Tryz.ntmps99
  go_wp2_with fail
  go_loopg [8] n (fun d iv wr => ∃ k : Nat, d = n - k ∧ k ≤ n ∧ iv = .int .i64 k ∧ Chg [] w wr ∧ Hid (∀ j (h : j < rs.length), j < k → p rs[j] = false))
  case atStart => exact ⟨0, rfl, Nat.zero_le _, rfl, Chg.refl _ _, Lib.hid (fun j _ h => by omega)⟩
  case round =>
    obtain ⟨k, rfl, hk, rfl, hcw, hb⟩ := hrel
    have HC := Lib.hid hcw
    clear hcw
    by_cases hlt : k < n
    · have hk' : k < rs.length := by have := H.out.1; omega
      obtain ⟨b, o, rfl, h1, h2⟩ := (H.out.2.1.keep HC.out.kp) k hk'
      have hcall := H.out.2.2 k hk'
      have hbk := World.block_lt_of_cell? _ _ h1
      simp only at hbk
      obtain ⟨r, hr⟩ : ∃ r, r = rs[k] := ⟨_, rfl⟩
      rw [← hr] at hcall h1 h2
      obtain ⟨nm, bd⟩ := r
      have HR := Lib.hid (And.intro hr hcall)
      clear hcall hr
      dsimp only at h1 h2
      go_wp2_with fail
      refine (HR.out.2 _ HC.out).mono ?_
      rintro e w1 ⟨rfl, hc1⟩
      have H1 := Lib.hid hc1
      clear hc1
      cases hp : p ⟨nm, bd⟩
      · go_wp2
        go_roundg (n - (k + 1))
        case measure => omega
        case rel =>
          refine ⟨k + 1, rfl, by omega, by go_num, HC.out.tr H1.out, Lib.hid fun j h hj => ?_⟩
          by_cases e : j = k
          · subst e; rw [← HR.out.1]; exact hp
          · exact hb.out j h (by omega)
      · go_wp2
        go_ret
        refine ⟨ret_int ?_, HC.out.tr H1.out⟩
        have hk' : k < rs.length := by have := H.out.1; omega
        have hf := findIdx_at hk' (by rw [← HR.out.1]; exact hp) (fun j hj => hb.out j (by omega) hj)
        unfold idxI
        rw [hf, if_pos hk']
    · obtain rfl : k = n := by omega
      go_wp2
      go_ret
      refine ⟨ret_int ?_, HC.out⟩
      have hf := findIdx_none (p := p) (l := rs) (fun j hj => hb.out j hj (by have := H.out.1; omega))
      unfold idxI
      rw [hf, if_neg (by omega)]
end Go.Proofs.YtibgfgfmljhimaaGreat
set_option linter.unusedVariables false
set_option linter.unusedSimpArgs false
set_option linter.unnecessarySimpa false
namespace Go.Proofs.YtibgfgfmljhimaaGreat
open Go.RowKit Go.MapKept Go.Shelf

/-! ### Back from a step -/
def BackOk (ss : List Stp) : Prop := ∀ k (h : k < ss.length), -1 ≤ ss[k].2 ∧ ss[k].2 < k
def backF (ss : List Stp) : Nat → Int → List Int
  | 0, _ => []
  | f + 1, a => if a < 0 then [] else match ss[a.toNat]? with | none => [] | some s => s.1 :: backF ss f s.2
def backL (ss : List Stp) (a : Int) : List Int := backF ss (ss.length + 1) a
theorem backF_fuel {ss : List Stp} (hb : BackOk ss) : ∀ (d : Nat) (a : Int) (f g : Nat), a + 1 ≤ d → a + 1 ≤ f → a + 1 ≤ g → backF ss f a = backF ss g a := by
  intro d
  induction d with
  | zero =>
    intro a f g h1 h2 h3
    have key : ∀ f, backF ss f a = [] := fun f => by
      cases f with
      | zero => rfl
      | succ f => rw [backF, if_pos (by omega)]
    rw [key, key]
  | succ d ih =>
    intro a f g h1 h2 h3
    by_cases ha : a < 0
    · have key : ∀ f, backF ss f a = [] := fun f => by
        cases f with
        | zero => rfl
        | succ f => rw [backF, if_pos ha]
      rw [key, key]
    · cases f with
      | zero => omega
      | succ f =>
        cases g with
        | zero => omega
        | succ g =>
          rw [backF, backF, if_neg ha, if_neg ha]
          cases hs : ss[a.toNat]? with
          | none => rfl
          | some s =>
            obtain ⟨hl, he⟩ := List.getElem?_eq_some_iff.1 hs
            have := hb _ hl
            rw [he] at this
            show s.1 :: backF ss f s.2 = s.1 :: backF ss g s.2
            rw [ih s.2 f g (by omega) (by omega) (by omega)]
theorem backL_at {ss : List Stp} (hb : BackOk ss) {k : Nat} (h : k < ss.length) : backL ss k = ss[k].1 :: backL ss ss[k].2 := by
  have := hb k h
  unfold backL
  rw [backF, if_neg (by omega), Int.toNat_natCast, List.getElem?_eq_getElem h]
  show ss[k].1 :: backF ss ss.length ss[k].2 = _
  rw [backF_fuel hb ss.length ss[k].2 ss.length (ss.length + 1) (by omega) (by omega) (by omega)]
theorem backL_neg {ss : List Stp} {a : Int} (h : a < 0) : backL ss a = [] := by
  unfold backL
  rw [backF, if_pos h]
theorem backL_len {ss : List Stp} (hb : BackOk ss) : ∀ (d : Nat) (a : Int), a + 1 ≤ d → a < ss.length → (backL ss a).length ≤ d := by
  intro d
  induction d with
  | zero => intro a h1 h2; rw [backL_neg (by omega)]; simp
  | succ d ih =>
    intro a h1 h2
    by_cases ha : a < 0
    · rw [backL_neg ha]; simp
    · obtain ⟨k, rfl⟩ : ∃ k : Nat, a = k := ⟨a.toNat, by omega⟩
      have hk : k < ss.length := by omega
      have := hb k hk
      rw [backL_at hb hk]
      have := ih ss[k].2 (by omega) (by omega)
      simp only [List.length_cons]
      omega
theorem on1_back {fr z : Int} {st : Bst} (h : BackOk st.2) (h1 : -1 ≤ fr) (h2 : fr < st.2.length) : BackOk (on1 fr z st).2 ∧ st.2.length ≤ (on1 fr z st).2.length := by
  unfold on1
  split
  · exact ⟨h, Nat.le_refl _⟩
  · refine ⟨fun k hk => ?_, by simp⟩
    simp only at hk ⊢
    by_cases hl : k < st.2.length
    · rw [List.getElem_append_left hl]; exact h k hl
    · have e : k = st.2.length := by simp at hk; omega
      subst e
      rw [List.getElem_append_right (Nat.le_refl _)]
      simp only [Nat.sub_self, List.getElem_cons_zero]
      exact ⟨h1, h2⟩
theorem onL_back {fr : Int} (h1 : -1 ≤ fr) : ∀ (zs : List Int) {st : Bst}, BackOk st.2 → fr < st.2.length → BackOk (onL fr zs st).2 := by
  intro zs
  induction zs with
  | nil => intro st h _; exact h
  | cons z zs ih =>
    intro st h h2
    obtain ⟨h3, h4⟩ := on1_back (z := z) h h1 h2
    exact ih h3 (by omega)
theorem walkF_back {G : List (List Int)} : ∀ (f k : Nat) {st : Bst}, BackOk st.2 → BackOk (walkF G f k st).2 := by
  intro f
  induction f with
  | zero => intro k st h; exact h
  | succ f ih =>
    intro k st h
    simp only [walkF]
    split
    · exact h
    · rename_i s hs
      have hk := (List.getElem?_eq_some_iff.1 hs).1
      exact ih _ (onL_back (by omega) _ h (by omega))
theorem walkL_back (G : List (List Int)) (i : Nat) : BackOk (walkL G i).2 := walkF_back _ _ (onL_back (by omega) _ (fun k h => by simp [start0] at h) (by simp [start0]))
def wayAt (ss : List Stp) (i k : Int) : List Int := if idxI ss (fun s => s.1 == k) < 0 then [] else (backL ss (idxI ss (fun s => s.1 == k)) ++ [i]).reverse
def wayL (g : Gr) (i k : Int) : List Int := if inR g i then wayAt (walkL (graphG g) i.toNat).2 i k else []
theorem idxI_lt {α : Type} (l : List α) (p : α → Bool) : -1 ≤ idxI l p ∧ idxI l p < l.length := by
  unfold idxI
  split <;> omega

set_option maxRecDepth 100000 in
set_option maxHeartbeats 8000000 in
theorem Way_any (w : World) (a1 : Option Addr) (n1 c1 : Nat) (a2 : Option Addr) (n2 c2 : Nat) (g : Gr) (hg : GramAt w a1 n1 c1 a2 n2 c2 g) (hre : Reach g) (i k : Int) :
    Calls Tryz.prog 57 #[.agg #[.slice a1 n1 c1, .slice a2 n2 c2], .int .i64 i, .int .i64 k] w (ClonedInts w (wayL g i k)) := by
  obtain ⟨A, hA⟩ : ∃ A, A = wayL g i k := ⟨_, rfl⟩
  rw [← hA]
  obtain ⟨i0, hi0, hz0, hz1, hz2⟩ := info_parts Tryz.infoInt
  have H := Lib.hid (And.intro hg hre)
  clear hg hre
  go_enter Tryz.func57, Tryz.ntmps57
  have hb0 := heap_alloc_lt (heap_alloc_same w (.cells #[.slice a1 n1 c1, .slice a2 n2 c2] 25)) (.cells #[.int .i64 k] 3)
  have hb1 := heap_alloc_same (w.alloc (.cells #[.slice a1 n1 c1, .slice a2 n2 c2] 25)) (.cells #[.int .i64 k] 3)
  rw [World.size_alloc] at hb1
  have hcA : Chg [] w ((w.alloc (.cells #[.slice a1 n1 c1, .slice a2 n2 c2] 25)).alloc (.cells #[.int .i64 k] 3)) := ((Chg.refl [] w).alloc _).alloc _
  obtain ⟨x0, x1⟩ := cells2 hb0
  have HA := Lib.hid (And.intro hb1 hcA)
  clear hb0 hb1 hcA
  go_wp2_with fail
  refine (walked_any _ a1 n1 c1 a2 n2 c2 g (H.out.1.keep HA.out.2.kp) H.out.2 i).mono ?_
  rintro e w2 ⟨hc2, hif⟩
  have hcw := HA.out.2.tr0 hc2
  have hbk := hc2.heap HA.out.1 (by simp)
  have hl2 := hc2.size
  simp only [World.size_alloc] at hl2
  clear x0 x1 hc2
  by_cases hin : 0 ≤ i ∧ i < g.rules.length ∧ rightB g = true
  · rw [if_pos hin] at hif
    obtain ⟨B, ga, gn, gc, VS, sa, sl, sc, hB, rfl, hW, -⟩ := hif
    have e0 : A = wayAt (walkL (graphG g) i.toNat).2 i k := by rw [hA, wayL, if_pos (show inR g i from hin)]
    obtain ⟨st, hst⟩ : ∃ st, st = walkL (graphG g) i.toNat := ⟨_, rfl⟩
    have hback : BackOk st.2 := by rw [hst]; exact walkL_back _ _
    have hsl32 : st.2.length ≤ 32 := by
      rw [hst]
      have h := (walkL_ok (graph_ok hin.2.2) i.toNat).few_steps
      have := (graph_ok hin.2.2).few
      omega
    rw [← hst] at e0 hW
    have hi32 : -1000 ≤ i ∧ i ≤ 1000 := by have := (right_sizes hin.2.2).2.1; omega
    clear hA hst
    have hsteps : Steps w2 sa st.2 := fun j hj => by
      obtain ⟨b, e1, e2, e3⟩ := hW.step hj
      exact ⟨b, 0, e1, by rw [Nat.zero_add]; exact e2, by rw [Nat.zero_add]; exact e3⟩
    have x33 := walk_s hW.box hW.len
    have hslen := hW.sl
    have hidx := idxSteps_any w2 sa sl sc st.2 100 #[.pointer (some ⟨w.heap.size + 1, 0, none⟩)] (fun s => s.1 == k) hslen (by omega) hsteps
      (fun j hj w1 h1 => way1_any w1 st.2[j] (w.heap.size + 1) k (h1.heap hbk (by simp))) (enters_of Tryz.func100 (by kernel_rfl) rfl)
    obtain ⟨ix, hix⟩ : ∃ ix, ix = idxI st.2 (fun s => s.1 == k) := ⟨_, rfl⟩
    have hixl := idxI_lt st.2 (fun s => s.1 == k)
    have hway : wayAt st.2 i k = if ix < 0 then [] else (backL st.2 ix ++ [i]).reverse := by rw [hix]; rfl
    rw [← hix] at hidx hixl
    have HA1 := Lib.hid (e0.trans hway)
    have H2 := Lib.hid (And.intro hcw (And.intro hsteps (And.intro hback (And.intro hW hslen))))
    clear hin hW hB hcw hsteps hback hbk hix hway hslen e0
    go_wp2_with fail
    refine hidx.mono ?_
    clear hidx
    rintro e w3 ⟨rfl, hc3⟩
    have H3 := Lib.hid (And.intro hc3 (And.intro (H2.out.1.tr hc3) (hc3.heap H2.out.2.2.2.1.box (by simp))))
    have hl3 := hc3.size
    clear x33 hc3
    have hA := HA1.out
    by_cases hneg : ix < 0
    · rw [if_pos hneg] at hA
      subst hA
      go_wp2_with fail
      go_ret
      exact ⟨none, 0, rfl, World.ownsRow_nil _ _ _ _, H3.out.2.1⟩
    · rw [if_neg hneg] at hA
      clear HA1
      have HI := Lib.hid hixl
      have HA2 := Lib.hid hA
      clear hixl hA
      have hnn : (0 : Int) ≤ ix := by omega
      clear hneg
      go_wp2_with fail
      go_loopg [9, 10] (ix + 1).toNat (fun d iv ov wr => ∃ (at_ : Int) (a : Option Addr) (c q : Nat), d = (at_ + 1).toNat ∧ (-1 ≤ at_ ∧ at_ < st.2.length) ∧ iv = .int .i64 at_ ∧ ov = .slice a q c ∧ q ≤ 40 ∧ Hid (∃ L, q = L.length ∧ L ++ backL st.2 at_ = backL st.2 ix ∧ FreshInts w3.heap.size wr a c L ∧ Chg [] w3 wr))
      case atStart => exact ⟨ix, none, 0, 0, rfl, HI.out, rfl, rfl, by omega, Lib.hid ⟨[], rfl, rfl, World.ownsRow_nil _ _ _ _, Chg.refl _ _⟩⟩
      case round =>
        obtain ⟨at_, a, c, q, rfl, hat, rfl, rfl, hq40, hin⟩ := hrel
        obtain ⟨wq, rfl⟩ : ∃ wz, wz = wr := ⟨_, rfl⟩
        obtain ⟨L, l1, l2, l3, l4⟩ := hin.out
        by_cases hpos : 0 ≤ at_
        · obtain ⟨p, rfl⟩ : ∃ p : Nat, at_ = p := ⟨at_.toNat, by omega⟩
          have hps : p < st.2.length := by omega
          obtain ⟨bs, os, rfl, s1, s2⟩ := (H2.out.2.1.keep H3.out.1.kp) p hps
          have hbsl : bs < w3.heap.size := World.block_lt_of_cell? _ _ s1
          replace s1 := l4.cell s1 (by simp)
          replace s2 := l4.cell s2 (by simp)
          have hBl := lt_of_block H3.out.2.2
          obtain ⟨z, hz⟩ : ∃ z, z = st.2[p].1 := ⟨_, rfl⟩
          obtain ⟨f, hf⟩ : ∃ f, f = st.2[p].2 := ⟨_, rfl⟩
          have hbp := H2.out.2.2.1 p hps
          have hba := backL_at H2.out.2.2.1 hps
          have hbl := backL_len H2.out.2.2.1 33 ix (by have := HI.out; omega) HI.out.2
          rw [← hz, ← hf] at hba
          rw [← hz] at s1
          rw [← hf] at s2 hbp
          have hll : L.length + 1 ≤ 33 := by
            have := congrArg List.length l2
            rw [hba] at this
            simp at this
            omega
          have x33 := walk_s (l4.heap H3.out.2.2 (by simp)) H2.out.2.2.2.1.len
          have hsl := H2.out.2.2.2.2
          have hpl : p < sl := by omega
          have x33' := ((Chg.refl [] wq).alloc (.cells #[.int .i64 z] 3)).cell x33 (by simp)
          have hcA := (Chg.refl [] wq).alloc (.cells #[.int .i64 z] 3)
          have hrow := hcA.row l3 (fun _ _ => by simp)
          rw [← l1] at hrow
          have hnew := cells_at (w := wq.alloc (.cells #[.int .i64 z] 3)) (heap_alloc_same _ _)
          have h1' : ∀ u ∈ [Value.int .i64 z], u.oneCell' = true := by simp [Value.oneCell']
          have h2' : q + 1 ≤ maxLen ∧ (q + 1) * 8 ≤ 140737488355328 := by simp only [maxLen]; omega
          have H4 := Lib.hid (And.intro hrow (And.intro hnew (And.intro h1' (And.intro h2' (And.intro (l4.tr hcA).size (And.intro (l4.tr hcA) (And.intro hba (And.intro hll (And.intro l1 (And.intro l2 l3))))))))))
          have HB := Lib.hid (And.intro (l4.heap H3.out.2.2 (by simp)) s2)
          clear hrow hnew h1' h2' hcA hba hll l1 l2 l3 l4 hz hf hbl hsl hps hpos
          go_wp2_with (at_builtin; refine wpList_append_own_at _ rfl _ _ 48 rfl w3.heap.size 3 i0 _ 1 8 Tryz.underlying48 hi0 hz0 hz1 hz2 rfl (by decide) (.slice a q c) q (L.map (Value.int .i64)) rfl H4.out.1 ⟨wq.heap.size, 0, none⟩ 1 1 [.int .i64 z] rfl rfl H4.out.2.1 H4.out.2.2.1 H4.out.2.2.2.1.1 H4.out.2.2.2.1.2 H4.out.2.2.2.2.1 ?_; intro v' w5 hr5 hg5 hn5 hb5; obtain ⟨a5, c5, rfl⟩ := ownsRow_slice hr5; have hc5 : Chg (Value.slice a q c).ownBlock.toList wq w5 := ((Chg.refl _ wq).alloc _).grown hg5 (fun k hk => .inl (by rw [hk]; simp)); have y33 := walk_s (hc5.heap HB.out.1 (fun hm => by simp only [Option.mem_toList] at hm; have := (row_beyond H4.out.1 hm).1; omega)) H2.out.2.2.2.1.len; have y2 := hc5.cell HB.out.2 (fun hm => by simp only [Option.mem_toList] at hm; have := (row_beyond H4.out.1 hm).1; omega); have HW := Lib.hid (And.intro hr5 (And.intro hg5 hc5)); clear hr5 hg5 hn5 hb5 hc5)
          go_roundg ((f + 1).toNat)
          case measure => omega
          case rel =>
            obtain ⟨hrow, hnew, h1', h2', hsz, hch, hba, hll, l1, l2, l3⟩ := H4.out
            refine ⟨f, a5, c5, q + 1, rfl, ⟨hbp.1, by omega⟩, rfl, rfl, by omega, Lib.hid ⟨L ++ [z], by simp [l1], ?_, ?_, hch.grown HW.out.2.1 (fun j hj => .inr (row_beyond hrow hj).1)⟩⟩
            · rw [← l2, hba, List.append_assoc]; rfl
            · rw [FreshInts, List.length_append, ← l1, List.map_append]
              exact HW.out.1
        · have HL := Lib.hid (And.intro l1 (And.intro l2 (And.intro l3 l4)))
          obtain rfl : at_ = -1 := by omega
          have hq33 : L.length ≤ 33 := by
            have hbl := backL_len H2.out.2.2.1 33 ix (by have := HI.out; omega) HI.out.2
            have := congrArg List.length l2
            simp at this
            omega
          have hcA := (Chg.refl [] wq).alloc (.cells #[.int .i64 i] 3)
          have hrow := hcA.row l3 (fun _ _ => by simp)
          rw [← l1] at hrow
          have hnew := cells_at (w := wq.alloc (.cells #[.int .i64 i] 3)) (heap_alloc_same _ _)
          have h1' : ∀ u ∈ [Value.int .i64 i], u.oneCell' = true := by simp [Value.oneCell']
          have h2' : q + 1 ≤ maxLen ∧ (q + 1) * 8 ≤ 140737488355328 := by simp only [maxLen]; omega
          have H4 := Lib.hid (And.intro hrow (And.intro hnew (And.intro h1' (And.intro h2' (And.intro (l4.tr hcA).size (And.intro (l4.tr hcA) hq33))))))
          clear hrow hnew h1' h2' hcA hq33 l1 l2 l3 l4
          go_wp2_with (at_builtin; refine wpList_append_own_at _ rfl _ _ 48 rfl w3.heap.size 3 i0 _ 1 8 Tryz.underlying48 hi0 hz0 hz1 hz2 rfl (by decide) (.slice a q c) q (L.map (Value.int .i64)) rfl H4.out.1 ⟨wq.heap.size, 0, none⟩ 1 1 [.int .i64 i] rfl rfl H4.out.2.1 H4.out.2.2.1 H4.out.2.2.2.1.1 H4.out.2.2.2.1.2 H4.out.2.2.2.2.1 ?_; intro v' w5 hr5 hg5 hn5 hb5; obtain ⟨a5, c5, rfl⟩ := ownsRow_slice hr5; have HW := Lib.hid (And.intro hr5 hg5); clear hr5 hg5 hn5 hb5)
          have hfr : FreshInts w3.heap.size w5 a5 c5 (L ++ [i]) := by
            have := HW.out.1
            rw [FreshInts, List.length_append, ← HL.out.1, List.map_append]
            exact this
          have hsome : ∃ gb, a5 = some ⟨gb, 0, none⟩ ∧ w3.heap.size ≤ gb := by
            rcases HW.out.1.2 with ⟨h0, h1⟩ | ⟨gb, cap, cur, h0, hb, _⟩
            · omega
            · cases h0
              exact ⟨gb, rfl, hb⟩
          obtain ⟨gb, rfl, hgb⟩ := hsome
          have hc5 : Chg [] w3 w5 := H4.out.2.2.2.2.2.1.grown HW.out.2 (fun j hj => .inr (row_beyond H4.out.1 hj).1)
          have hrev := reverse_any w5 w3.heap.size gb c5 (L ++ [i]) (q + 1) (by rw [List.length_append, ← HL.out.1]; rfl) (by have := HL.out.1; have := H4.out.2.2.2.2.2.2; omega) hfr
          have H5 := Lib.hid (And.intro hc5 hgb)
          clear hfr hc5 hgb
          refine hrev.mono ?_
          clear hrev
          rintro e w6 ⟨⟨v, rfl⟩, hf6, hc6⟩
          have hA2 := HA2.out
          have hl2 := HL.out.2.1
          rw [backL_neg (by omega), List.append_nil] at hl2
          rw [← hl2] at hA2
          rw [← hA2] at hf6
          have hql : q + 1 = A.length := by rw [hA2, List.length_reverse, List.length_append, ← HL.out.1]; rfl
          have hc36 : Chg [] w3 w6 := H5.out.1.trans hc6 (fun j hj => .inr (by simp at hj; have := H5.out.2; omega))
          have H6 := Lib.hid (And.intro (row_base hf6 H3.out.2.1.size) (And.intro (H3.out.2.1.tr hc36) hql))
          clear hf6 hc6 hc36 hA2 hl2 hql
          go_wp2_with fail
          go_ret
          exact ⟨some ⟨gb, 0, none⟩, c5, by rw [← H6.out.2.2]; rfl, H6.out.1, H6.out.2.1⟩
  · rw [if_neg hin] at hif
    subst hif
    have e0 : A = [] := by rw [hA, wayL, if_neg (show ¬ inR g i from hin)]
    clear hA
    subst e0
    have H2 := Lib.hid hcw
    clear hin hcw
    go_wp2_with fail
    go_ret
    exact ⟨none, 0, rfl, World.ownsRow_nil _ _ _ _, H2.out⟩
end Go.Proofs.YtibgfgfmljhimaaGreat

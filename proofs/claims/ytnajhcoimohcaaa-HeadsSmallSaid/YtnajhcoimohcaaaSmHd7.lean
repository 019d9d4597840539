/-
  Package heads: an activation entered.
  Conditions: none.
-/
import Derived.Test.YtnajhcoimohcaaaSmHd6
set_option linter.unusedVariables false
set_option linter.unusedSimpArgs false
set_option linter.unnecessarySimpa false
namespace Go.Proofs.Ytnajhcoimohcaaa
open Go.RowKit Go.MapKept

theorem Try.infoFrame : (Try.prog.info? 83).map (fun i => (i.zero, i.size, i.bytes)) = some (some (.agg #[.int .i64 0, .int .i64 0, .map none, .map none, .bool false]), 5, 40) := by kernel_rfl
theorem mapsOf_append (l m : List Fr) : mapsOf (l ++ m) = mapsOf l ++ mapsOf m := by simp [mapsOf]
theorem frCells_append (l m : List Fr) : frCells (l ++ m) = frCells l ++ frCells m := by simp [frCells]
theorem StackAt.mapLt {w : World} {B : Nat} {a : Option Addr} {c : Nat} {l : List Fr} (h : StackAt w B a c l) {b : Nat} (hb : b ∈ mapsOf l) : b < w.heap.size := by
  obtain ⟨es, cl, h1⟩ := h.isMap hb
  exact lt_of_block h1
theorem StackAt.fpLt {w : World} {B : Nat} {a : Option Addr} {c : Nat} {l : List Fr} (h : StackAt w B a c l) {x : Nat} (hx : x ∈ fpS B a c l) : x < w.heap.size := by
  simp only [fpS, List.mem_cons, List.mem_append, Option.mem_toList] at hx
  rcases hx with rfl | hx | hx
  · exact lt_of_block h.top
  · exact (row_beyond h.row hx).2.1
  · exact h.mapLt hx
theorem StackAt.topNeRow {w : World} {B : Nat} {a : Option Addr} {c : Nat} {l : List Fr} (h : StackAt w B a c l) : (Value.slice a l.length c).ownBlock ≠ some B := fun he => by
  obtain ⟨_, _, cur, hcur⟩ := row_beyond h.row he
  rw [h.top] at hcur
  simp at hcur
/-- An activation more, its sets new. -/
theorem StackAt.push {w2 wA w5 : World} {B : Nat} {a : Option Addr} {c : Nat} {l : List Fr} (h : StackAt w2 B a c l) (hA : Chg [] w2 wA) (y : Fr) (hs1 : SetIs wA y.bt y.f.tch) (hs2 : SetIs wA y.bi y.f.inv) (hb1 : w2.heap.size ≤ y.bt) (hb2 : w2.heap.size ≤ y.bi) (hne : y.bt ≠ y.bi) (hw : I64 y.f.rule ∧ I64 y.f.place)
    {a5 : Option Addr} {c5 : Nat} (hrow : w5.ownsRow 0 83 5 (.slice a5 (l.length + 1) c5) (l.length + 1) (frCells l ++ y.cells)) (hg : wA.grownBy w5 (Value.slice a l.length c).ownBlock)
    (hor : (∃ g cap, (Value.slice a l.length c) = .slice (some ⟨g, 0, none⟩) l.length cap ∧ (Value.slice a5 (l.length + 1) c5) = .slice (some ⟨g, 0, none⟩) (l.length + 1) cap) ∨ Chg [] wA w5 ∧ ((Value.slice a5 (l.length + 1) c5) = (Value.slice a l.length c) ∨ (Value.slice a5 (l.length + 1) c5).ownBlock = none ∨ (Value.slice a5 (l.length + 1) c5).ownBlock = some wA.heap.size)) :
    StackAt (w5.setCell ⟨B, 1, none⟩ (.slice a5 (l.length + 1) c5)) B a5 c5 (l ++ [y]) ∧ Chg (fpS B a c l) w2 (w5.setCell ⟨B, 1, none⟩ (.slice a5 (l.length + 1) c5)) ∧ ∀ x ∈ fpS B a5 c5 (l ++ [y]), x ∈ fpS B a c l ∨ w2.heap.size ≤ x := by
  have hA' := h.chg0 hA
  have hcG : Chg (Value.slice a l.length c).ownBlock.toList wA w5 := (Chg.refl _ wA).grown hg (fun k hk => .inl (by rw [hk]; simp))
  have hB5 := grown_heap hg hA'.top h.topNeRow
  have hset := heap_setCell_same hB5 1 (.slice a5 (l.length + 1) c5)
  have hcS := (Chg.refl [B] w5).setCell (p := ⟨B, 1, none⟩) (.inl (by simp)) (.slice a5 (l.length + 1) c5)
  have hblk : ∀ x, (Value.slice a5 (l.length + 1) c5).ownBlock = some x → (Value.slice a l.length c).ownBlock = some x ∨ wA.heap.size ≤ x := fun x hx => by
    rcases hor with ⟨g, cap, e1, e2⟩ | ⟨_, e | e | e⟩
    · rw [e2] at hx; rw [e1]; exact .inl hx
    · rw [e] at hx; exact .inl hx
    · rw [e] at hx; cases hx
    · rw [e] at hx; cases hx; exact .inr (Nat.le_refl _)
  have setK : ∀ {b : Nat} {T : List Int}, SetIs wA b T → SetIs (w5.setCell ⟨B, 1, none⟩ (.slice a5 (l.length + 1) c5)) b T := fun {b T} hs => by
    obtain ⟨es, cl, hbm⟩ := hs.map.block
    have h5 : SetIs w5 b T := hs.chg hcG (fun hm => by
      obtain ⟨_, _, cur, hcur⟩ := row_beyond hA'.row (by simpa using hm)
      rw [hbm] at hcur
      cases hcur)
    refine h5.chg hcS (fun hm => ?_)
    simp only [List.mem_singleton] at hm
    obtain ⟨es5, cl5, hb5⟩ := h5.map.block
    rw [hm, hB5] at hb5
    cases hb5
  refine ⟨⟨?_, ?_, fun x hx => ?_, ?_, fun x hx => ?_⟩, ?_, fun x hx => ?_⟩
  · simpa using hset
  · rw [List.length_append, frCells_append]
    have e : frCells [y] = y.cells := by simp [frCells]
    rw [e]
    exact hcS.rowOf hrow (fun k hk => by simp only [List.mem_singleton] at hk; subst hk; exact .of_cells hB5 (by decide))
  · rcases List.mem_append.1 hx with hx | hx
    · exact ⟨setK (hA'.sets x hx).1, setK (hA'.sets x hx).2⟩
    · simp only [List.mem_singleton] at hx
      subst hx
      exact ⟨setK hs1, setK hs2⟩
  · rw [mapsOf_append]
    refine List.nodup_append.2 ⟨h.apart, by simp [mapsOf, hne], fun x hx z hz e => ?_⟩
    have := h.mapLt hx
    simp [mapsOf] at hz
    rcases hz with rfl | rfl <;> omega
  · rcases List.mem_append.1 hx with hx | hx
    · exact h.wf x hx
    · simp only [List.mem_singleton] at hx
      subst hx
      exact hw
  · refine ((hA.any (S := fpS B a c l)).grown hg (fun k hk => .inl (by simp [fpS, hk]))).setCell (p := ⟨B, 1, none⟩) (.inl (by simp [fpS])) _
  · simp only [fpS, List.mem_cons, List.mem_append, Option.mem_toList, List.length_append, List.length_singleton, mapsOf_append] at hx ⊢
    have hsz := hA.size
    rcases hx with rfl | hx | hx | hx
    · exact .inl (.inl rfl)
    · rcases hblk x hx with h1 | h1
      · exact .inl (.inr (.inl h1))
      · exact .inr (by omega)
    · exact .inl (.inr (.inr hx))
    · simp [mapsOf] at hx
      rcases hx with rfl | rfl
      · exact .inr hb1
      · exact .inr hb2

set_option maxRecDepth 100000 in
set_option maxHeartbeats 4000000 in
theorem enterS_any (w : World) (B : Nat) (a : Option Addr) (c : Nat) (l : List Fr) (h : StackAt w B a c l) (hl : l.length ≤ 1000000) (r p : Int) (hr : I64 r) (hp : I64 p) :
    Calls Try.prog 21 #[.pointer (some ⟨B, 0, none⟩), .int .i64 r, .int .i64 p] w (OpP w B a c l (enterS (fms l) r p)) := by
  obtain ⟨i0, hi0, hz0, hz1, hz2⟩ := info_parts Try.infoFrame
  obtain ⟨x0, x1⟩ := cells2 h.top
  have h1 := isS_any w B true x0
  have H := Lib.hid (And.intro h (And.intro hr hp))
  clear h hr hp x0 x1
  go_enter Try.func21, Try.ntmps21
  go_wp2_with fail
  refine h1.mono ?_
  clear h1
  rintro e w1 ⟨rfl, hc1⟩
  have H1 := Lib.hid (And.intro (H.out.1.chg0 hc1) hc1)
  have hat := atS_any w1 B a c l H1.out.1 r p
  obtain ⟨k, hk⟩ : ∃ k, k = atI (fms l) r p := ⟨_, rfl⟩
  rw [← hk] at hat
  have HK := Lib.hid hk
  clear hc1 hk
  go_wp2_with fail
  refine hat.mono ?_
  clear hat
  rintro e w2 ⟨rfl, hc2⟩
  have H2 := Lib.hid (And.intro (H1.out.1.chg0 hc2) (H1.out.2.tr hc2))
  clear hc2
  by_cases hk0 : 0 ≤ k
  · go_wp2_with fail
    go_ret
    refine ⟨a, c, l, ?_, H2.out.1, ?_, H2.out.2.any, fun x hx => .inl hx⟩
    · simp [enterS, ← HK.out, hk0]
    · simp [enterS, ← HK.out, hk0]
  · have hlow := lowS_any w2 B a c l H2.out.1 p
    obtain ⟨lw, hlw⟩ : ∃ lw, lw = lowB (fms l) p := ⟨_, rfl⟩
    rw [← hlw] at hlow
    have HW := Lib.hid hlw
    clear hlw
    go_wp2_with fail
    refine hlow.mono ?_
    clear hlow
    rintro e w3 ⟨rfl, hc3⟩
    have H3 := Lib.hid (And.intro (H2.out.1.chg0 hc3) (H2.out.2.tr hc3))
    clear hc3
    cases lw with
    | true =>
      go_wp2_with fail
      go_ret
      refine ⟨a, c, l, ?_, H3.out.1, ?_, H3.out.2.any, fun x hx => .inl hx⟩
      · simp [enterS, ← HK.out, show ¬ 0 ≤ k by omega, ← HW.out]
      · simp [enterS, ← HK.out, show ¬ 0 ≤ k by omega, ← HW.out]
    | false =>
      obtain ⟨n, hn⟩ : ∃ n, n = l.length := ⟨_, rfl⟩
      obtain ⟨x0, x1⟩ := cells2 H3.out.1.top
      have hBl := lt_of_block H3.out.1.top
      have hcA := (((Chg.refl [] w3).alloc (.map #[] 0)).alloc (.map #[] 0)).alloc (.cells #[.int .i64 r, .int .i64 p, .map (some w3.heap.size), .map (some (w3.heap.size + 1)), .bool false] 83)
      have hs1 : SetIs (((w3.alloc (.map #[] 0)).alloc (.map #[] 0)).alloc (.cells #[.int .i64 r, .int .i64 p, .map (some w3.heap.size), .map (some (w3.heap.size + 1)), .bool false] 83)) w3.heap.size [] := (SetIs.made w3).chg0 (((Chg.refl [] _).alloc _).alloc _)
      have hs2 : SetIs (((w3.alloc (.map #[] 0)).alloc (.map #[] 0)).alloc (.cells #[.int .i64 r, .int .i64 p, .map (some w3.heap.size), .map (some (w3.heap.size + 1)), .bool false] 83)) (w3.heap.size + 1) [] := by
        have h0 := (SetIs.made (w3.alloc (.map #[] 0))).chg0 ((Chg.refl [] _).alloc (.cells #[.int .i64 r, .int .i64 p, .map (some w3.heap.size), .map (some (w3.heap.size + 1)), .bool false] 83))
        rw [World.size_alloc] at h0
        exact h0
      have hnew := cells_at (w := ((w3.alloc (.map #[] 0)).alloc (.map #[] 0)).alloc (.cells #[.int .i64 r, .int .i64 p, .map (some w3.heap.size), .map (some (w3.heap.size + 1)), .bool false] 83)) (heap_alloc_same _ _)
      rw [World.size_alloc, World.size_alloc] at hnew
      have hrow := (H3.out.1.chg0 hcA).row
      have hone : ∀ u ∈ ([.int .i64 r, .int .i64 p, .map (some w3.heap.size), .map (some (w3.heap.size + 1)), .bool false] : List Value), u.oneCell' = true := by simp [Value.oneCell']
      rw [← hn] at hrow hl x1
      have h2' : n + 1 ≤ maxLen ∧ (n + 1) * 40 ≤ 140737488355328 := by simp only [maxLen]; omega
      have HA := Lib.hid (And.intro hrow (And.intro hnew (And.intro hone (And.intro h2' (And.intro hcA (And.intro hs1 (And.intro hs2 hn)))))))
      clear hrow hnew hone h2' hcA hs1 hs2 x0 hn
      have hmm := @run_makeMap Try.prog
      go_wp2_with (at_builtin; refine wpList_append_two rfl _ _ 76 rfl 0 83 i0 _ 5 40 Try.underlying76 hi0 hz0 hz1 hz2 rfl (by decide) (.slice a n c) n (frCells l) rfl HA.out.1 (some ⟨w3.heap.size + 2, 0, none⟩) 1 1 [.int .i64 r, .int .i64 p, .map (some w3.heap.size), .map (some (w3.heap.size + 1)), .bool false] rfl rfl (fun h => by cases h) (fun b hb => by cases hb; exact HA.out.2.1) HA.out.2.2.1 HA.out.2.2.2.1.1 HA.out.2.2.2.1.2 (Nat.zero_le _) ?_; intro v' w5 hr5 hg5 hor5; obtain ⟨a5, c5, rfl⟩ := ownsRow_slice hr5; have hB5 := grown_heap hg5 ((H3.out.1.chg0 HA.out.2.2.2.2.1).top) (by have := (H3.out.1).topNeRow; rw [← HA.out.2.2.2.2.2.2.2] at this; exact this); have q2 : w5.cell? ⟨B, 1, none⟩ = some (.slice a n c) := (by have := cell_of_cells hB5 1; rw [HA.out.2.2.2.2.2.2.2]; exact this); have f2 := free_of_cells hB5 1; have HX := Lib.hid (And.intro hr5 (And.intro hg5 hor5)); clear hr5 hg5 hor5 hB5)
      have hpush := (H3.out.1).push HA.out.2.2.2.2.1 ⟨⟨r, p, [], [], false⟩, w3.heap.size, w3.heap.size + 1⟩ HA.out.2.2.2.2.2.1 HA.out.2.2.2.2.2.2.1 (Nat.le_refl _) (by simp) (by simp) ⟨H.out.2.1, H.out.2.2⟩ (w5 := w5) (a5 := a5) (c5 := c5) (by rw [← HA.out.2.2.2.2.2.2.2]; exact HX.out.1) (by rw [← HA.out.2.2.2.2.2.2.2]; exact HX.out.2.1) (by rw [← HA.out.2.2.2.2.2.2.2]; exact HX.out.2.2)
      rw [← HA.out.2.2.2.2.2.2.2] at hpush
      obtain ⟨w6, e6⟩ : ∃ w6, w6 = w5.setCell ⟨B, 1, none⟩ (.slice a5 (n + 1) c5) := ⟨_, rfl⟩
      rw [← e6] at hpush
      have hca := (Chg.refl [] w6).alloc (.cells #[.int .i64 r] 3)
      have hnew := heap_alloc_same w6 (.cells #[.int .i64 r] 3)
      have ht := touchS_any (w6.alloc (.cells #[.int .i64 r] 3)) B a5 c5 _ (hpush.1.chg0 hca) p (some ⟨w6.heap.size, 0, none⟩) 1 1 [r] rfl (by decide) (by decide) (fun i hi => ⟨w6.heap.size, 0, rfl, by
        have : i = 0 := by simpa using hi
        subst this
        exact cell_of_cells hnew 0⟩) (fun z hz => by simp only [List.mem_singleton] at hz; subst hz; exact H.out.2.1)
      have hs6 : w6.heap.size = w5.heap.size := by rw [e6]; simp [World.setCell]
      have HP := Lib.hid (And.intro hpush (And.intro hca (And.intro e6 hs6)))
      rw [hs6] at ht
      have HT := Lib.hid ht
      clear hpush hca hnew ht q2 f2 e6 hs6 x1 hBl
      rw [← HP.out.2.2.1]
      refine HT.out.mono ?_
      rintro e w7 ⟨rfl, hs7, hc7⟩
      have H7 := Lib.hid (And.intro hs7 hc7)
      clear hs7 hc7
      go_wp2_with fail
      go_ret
      have hE : enterS (fms l) r p = (touchS (fms l ++ [⟨r, p, [], [], false⟩]) p [r], 0) := by
        unfold enterS
        rw [← HK.out, if_neg (by omega), ← HW.out]
        rfl
      rw [hE]
      have hsz3 := H3.out.2.size
      refine ⟨a5, c5, _, by simp, H7.out.1, ?_, (H3.out.2.any.tr HP.out.1.2.1).trans (HP.out.2.1.any.tr H7.out.2) ?_, ?_⟩
      · rw [fms_touch]; simp [fms]
      · intro j hj
        rw [mapsOf_append] at hj
        rcases List.mem_append.1 hj with hj | hj
        · exact .inl (fpS_maps hj)
        · refine .inr ?_
          simp [mapsOf] at hj
          rcases hj with rfl | rfl <;> omega
      · intro x hx
        rw [fpS_touch] at hx
        rcases HP.out.1.2.2 x hx with h1 | h1
        · exact .inl h1
        · exact .inr (by omega)
end Go.Proofs.Ytnajhcoimohcaaa

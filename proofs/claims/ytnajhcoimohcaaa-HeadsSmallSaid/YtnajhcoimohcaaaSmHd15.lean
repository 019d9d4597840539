/-
  The document's heads: rules are used at a place; an activation is entered.
  Conditions: none.
-/
import Derived.Test.YtnajhcoimohcaaaSmHd14
import Derived.Test.YtnajhcoimohcaaaSmHd7
set_option linter.unusedVariables false
set_option linter.unusedSimpArgs false
set_option linter.unnecessarySimpa false
namespace Go.Proofs.Ytnajhcoimohcaaa
open Go.RowKit Go.MapKept

theorem touchS_nilR (s : List Fm) (p : Int) : touchS s p [] = s := by
  unfold touchS
  have : touchF p [] = id := by funext f; unfold touchF; split <;> rfl
  rw [this, List.map_id]
theorem touchS_snoc (s : List Fm) (p : Int) (xs : List Int) (z : Int) : touchS (touchS s p xs) p [z] = touchS s p (xs ++ [z]) := by
  unfold touchS
  rw [List.map_map]
  congr 1
  funext f
  simp only [Function.comp]
  by_cases h : f.place = p
  · simp only [touchF, h, if_true, addL_snoc]
    rfl
  · simp only [touchF, h, if_false]
theorem touchS_size {s : List Fm} {p : Int} {xs : List Int} {n : Nat} (h : ∀ f ∈ s, f.tch.length + xs.length ≤ n) : ∀ f ∈ touchS s p xs, f.tch.length ≤ n := fun f hf => by
  obtain ⟨f0, h0, rfl⟩ := List.mem_map.1 hf
  have := h f0 h0
  unfold touchF
  split
  · have := addL_len (l := f0.tch) (xs := xs)
    show (addL f0.tch xs).length ≤ n
    omega
  · omega
/-- What the document's stack may change. -/
def OpR (NB : Nat) (w : World) (B : Nat) (a : Option Addr) (c : Nat) (l : List Rf) (res : List Fm × Int) (e : Ending) (w' : World) : Prop :=
  ∃ a' c' l', e = .returned (.int .i64 res.2) ∧ RefAt NB w' B a' c' l' ∧ rfs l' = res.1 ∧ Chg (B :: fpR a c l.length) w w' ∧ ∀ x ∈ fpR a' c' l'.length, x ∈ fpR a c l.length ∨ w.heap.size ≤ x

set_option maxRecDepth 100000 in
set_option maxHeartbeats 4000000 in
theorem useR_any {NB : Nat} (w : World) (B : Nat) (a : Option Addr) (c : Nat) (l : List Rf) (h : RefAt NB w B a c l) (p : Int) (ax : Option Addr) (m cx : Nat) (xs : List Int) (hm : m = xs.length) (hcx : m ≤ cx) (hcm : cx ≤ 9223372036854775807) (hx : Ints w ax xs) (hne : ∀ ad, ax = some ad → xs ≠ [] → ad.block ∉ fpR a c l.length) (hsz : ∀ f ∈ rfs l, f.tch.length + xs.length ≤ 1000000) :
    Calls Try.prog 26 #[.pointer (some ⟨B, 0, none⟩), .int .i64 p, .slice ax m cx] w (OpR NB w B a c l (useS (rfs l) p xs)) := by
  have h1 := lowR_any w B a c l h p
  obtain ⟨lw, hlw⟩ : ∃ lw, lw = lowB (rfs l) p := ⟨_, rfl⟩
  rw [← hlw] at h1
  have HH := Lib.hid (And.intro h (And.intro hm (And.intro hx (And.intro hne (And.intro hsz hlw)))))
  clear h hm hx hne hsz hlw
  go_enter Try.func26, Try.ntmps26
  go_wp2_with fail
  refine h1.mono ?_
  clear h1
  rintro e w1 ⟨rfl, hc1⟩
  have H1 := Lib.hid (And.intro (HH.out.1.chg0 hc1) hc1)
  clear hc1
  cases lw with
  | true =>
    go_wp2_with fail
    go_ret
    exact ⟨a, c, l, by simp [useS, ← HH.out.2.2.2.2.2], H1.out.1, by simp [useS, ← HH.out.2.2.2.2.2], H1.out.2.any, fun x hx => .inl hx⟩
  | false =>
    go_wp2_with fail
    go_loopg [7] m (fun dd iv wr => ∃ j : Nat, dd = m - j ∧ j ≤ m ∧ iv = .int .i64 j ∧ Hid (∃ l', l'.length = l.length ∧ RefAt NB wr B a c l' ∧ rfs l' = touchS (rfs l) p (xs.take j) ∧ Chg (fpR a c l.length) w wr))
    case atStart => exact ⟨0, rfl, Nat.zero_le _, rfl, Lib.hid ⟨l, rfl, H1.out.1, by rw [List.take_zero, touchS_nilR], H1.out.2.any⟩⟩
    case round =>
      obtain ⟨j, rfl, hj, rfl, hJ⟩ := hrel
      obtain ⟨wq, rfl⟩ : ∃ wq, wq = wr := ⟨_, rfl⟩
      by_cases hjl : j < m
      · have hjL : j < xs.length := by have := HH.out.2.1; omega
        obtain ⟨l', hl', hr', hf', hc'⟩ := hJ.out
        obtain ⟨g, o, eg, y0⟩ := HH.out.2.2.1 j hjL
        have hng := HH.out.2.2.2.1 _ eg (List.ne_nil_of_length_pos (by omega))
        subst eg
        replace y0 := hc'.cell y0 hng
        obtain ⟨z, hz⟩ : ∃ z, z = xs[j] := ⟨_, rfl⟩
        rw [← hz] at y0
        have hsz' : ∀ f ∈ rfs l', f.tch.length ≤ 1000000 := by
          rw [hf']
          refine touchS_size (fun f hf => ?_)
          have := HH.out.2.2.2.2.1 f hf
          rw [List.length_take]
          omega
        have ht := touchR_any wq B a c l' hr' hsz' z p
        rw [hf', touchS_snoc, hz, ← List.take_succ_eq_append_getElem hjL] at ht
        rw [← hz] at ht
        have HT := Lib.hid (And.intro ht (And.intro hl' hc'))
        have hj1 : (j : Int) < m := by omega
        clear hl' hr' hf' hc' hng hz hsz' ht hjL
        go_wp2_with fail
        refine HT.out.1.mono ?_
        rintro e w3 ⟨rfl, l3, hl3, hr3, hf3, hc3⟩
        have H3 := Lib.hid (And.intro hl3 (And.intro hr3 (And.intro hf3 hc3)))
        clear hl3 hr3 hf3 hc3 y0
        go_wp2_with fail
        go_roundg (m - (j + 1))
        case measure => omega
        case rel => exact ⟨j + 1, rfl, by omega, by go_num, Lib.hid ⟨l3, by rw [H3.out.1, HT.out.2.1], H3.out.2.1, H3.out.2.2.1, HT.out.2.2.tr (by have := H3.out.2.2.2; rwa [HT.out.2.1] at this)⟩⟩
      · obtain rfl : j = m := by omega
        go_wp2_with fail
        go_ret
        obtain ⟨l', hl', hr', hf', hc'⟩ := hJ.out
        refine ⟨a, c, l', by simp [useS, ← HH.out.2.2.2.2.2], hr', ?_, hc'.mono (fun x hx => .inl (by simp [hx])), fun x hx => .inl (by rwa [hl'] at hx)⟩
        rw [hf', List.take_of_length_le (by rw [← HH.out.2.1]; exact Nat.le_refl _)]
        simp [useS, ← HH.out.2.2.2.2.2]

theorem Try.infoRFrame : (Try.prog.info? 69).map (fun i => (i.zero, i.size, i.bytes)) = some (some (.agg #[.int .i64 0, .int .i64 0, .slice none 0 0, .slice none 0 0, .bool false]), 5, 72) := by kernel_rfl
theorem rfCells_append (l m : List Rf) : rfCells (l ++ m) = rfCells l ++ rfCells m := by simp [rfCells]
/-- An activation more. -/
theorem RefAt.push {NB : Nat} {w wA w5 : World} {B : Nat} {a : Option Addr} {c : Nat} {l : List Rf} (h : RefAt NB w B a c l) (hA : Chg [] w wA) (r p : Int) {a5 : Option Addr} {c5 : Nat}
    (hrow : w5.ownsRow 0 69 5 (.slice a5 (l.length + 1) c5) (l.length + 1) (rfCells l ++ (⟨⟨r, p, [], [], false⟩, none, 0, none, 0⟩ : Rf).cells)) (hg : wA.grownBy w5 (Value.slice a l.length c).ownBlock) (hk : (Value.slice a5 (l.length + 1) c5).ownBlock = (Value.slice a l.length c).ownBlock ∨ (Value.slice a5 (l.length + 1) c5).ownBlock = some wA.heap.size) :
    RefAt NB (w5.setCell ⟨B, 0, none⟩ (.slice a5 (l.length + 1) c5)) B a5 c5 (l ++ [⟨⟨r, p, [], [], false⟩, none, 0, none, 0⟩]) ∧ Chg (B :: fpR a c l.length) w (w5.setCell ⟨B, 0, none⟩ (.slice a5 (l.length + 1) c5)) ∧ ∀ x ∈ fpR a5 c5 (l.length + 1), x ∈ fpR a c l.length ∨ w.heap.size ≤ x := by
  have hA' := h.chg0 hA
  have hcG : Chg (Value.slice a l.length c).ownBlock.toList wA w5 := (Chg.refl _ wA).grown hg (fun k hk => .inl (by rw [hk]; simp))
  have hB5 : w5.heap[B]? = _ := grown_heap hg hA'.top (fun he => by
    obtain ⟨_, _, cur, hcur⟩ := row_beyond hA'.row he
    rw [hA'.top] at hcur
    simp at hcur)
  have hset := heap_setCell_same hB5 0 (.slice a5 (l.length + 1) c5)
  have hcS := (Chg.refl [B] w5).setCell (p := ⟨B, 0, none⟩) (.inl (by simp)) (.slice a5 (l.length + 1) c5)
  have keep : ∀ {b k : _} {z : List Int}, DocI NB wA b k z → DocI NB (w5.setCell ⟨B, 0, none⟩ (.slice a5 (l.length + 1) c5)) b k z := fun {b k z} hz => by
    refine ⟨hcS.rowOf (hcG.rowOf hz.1 (fun j hj => ?_)) (fun j hj => ?_), hz.2⟩
    · obtain ⟨_, _, cur, hcur⟩ := row_beyond hA'.row (by simpa using hj)
      exact .of_cells hcur (by decide)
    · simp only [List.mem_singleton] at hj
      subst hj
      exact .of_cells hB5 (by decide)
  refine ⟨⟨?_, ?_, fun x hx => ?_, Nat.lt_of_lt_of_le hA'.ban (Nat.le_trans hcG.size hcS.size)⟩, ?_, fun x hx => ?_⟩
  · simpa using hset
  · rw [List.length_append, rfCells_append]
    have e : rfCells [(⟨⟨r, p, [], [], false⟩, none, 0, none, 0⟩ : Rf)] = (⟨⟨r, p, [], [], false⟩, none, 0, none, 0⟩ : Rf).cells := by simp [rfCells]
    rw [e]
    exact hcS.rowOf hrow (fun k hk => by simp only [List.mem_singleton] at hk; subst hk; exact .of_cells hB5 (by decide))
  · rcases List.mem_append.1 hx with hx | hx
    · exact ⟨keep (hA'.rows x hx).1, keep (hA'.rows x hx).2⟩
    · simp only [List.mem_singleton] at hx
      subst hx
      exact ⟨⟨World.ownsRow_nil _ _ _ _, fun _ h => by cases h⟩, ⟨World.ownsRow_nil _ _ _ _, fun _ h => by cases h⟩⟩
  · refine ((hA.any (S := B :: fpR a c l.length)).grown hg (fun k hk => .inl (by simp [fpR, hk]))).setCell (p := ⟨B, 0, none⟩) (.inl (by simp)) _
  · simp only [fpR, Option.mem_toList] at hx ⊢
    have hsz := hA.size
    rcases hk with e | e
    · rw [e] at hx; exact .inl hx
    · rw [e] at hx; cases hx; exact .inr (by omega)

set_option maxRecDepth 100000 in
set_option maxHeartbeats 4000000 in
theorem enterR_any {NB : Nat} (w : World) (B : Nat) (a : Option Addr) (c : Nat) (l : List Rf) (h : RefAt NB w B a c l) (hl : l.length ≤ 1000000) (hsz : ∀ f ∈ rfs l, f.tch.length ≤ 1000000) (r p : Int) :
    Calls Try.prog 22 #[.pointer (some ⟨B, 0, none⟩), .int .i64 r, .int .i64 p] w (OpR NB w B a c l (enterS (rfs l) r p)) := by
  obtain ⟨i0, hi0, hz0, hz1, hz2⟩ := info_parts Try.infoRFrame
  have hat := atR_any w B a c l h r p
  obtain ⟨k, hk⟩ : ∃ k, k = atI (rfs l) r p := ⟨_, rfl⟩
  rw [← hk] at hat
  have HH := Lib.hid (And.intro h (And.intro hsz hk))
  clear h hsz hk
  go_enter Try.func22, Try.ntmps22
  go_wp2_with fail
  refine hat.mono ?_
  clear hat
  rintro e w2 ⟨rfl, hc2⟩
  have H2 := Lib.hid (And.intro (HH.out.1.chg0 hc2) hc2)
  clear hc2
  by_cases hk0 : 0 ≤ k
  · go_wp2_with fail
    go_ret
    exact ⟨a, c, l, by simp [enterS, ← HH.out.2.2, hk0], H2.out.1, by simp [enterS, ← HH.out.2.2, hk0], H2.out.2.any, fun x hx => .inl hx⟩
  · have hlow := lowR_any w2 B a c l H2.out.1 p
    obtain ⟨lw, hlw⟩ : ∃ lw, lw = lowB (rfs l) p := ⟨_, rfl⟩
    rw [← hlw] at hlow
    have HW := Lib.hid hlw
    clear hlw
    go_wp2_with fail
    refine hlow.mono ?_
    clear hlow
    rintro e w3 ⟨rfl, hc3⟩
    have H3 := Lib.hid (And.intro (H2.out.1.chg0 hc3) (H2.out.2.tr hc3))
    clear hc3
    cases lw with
    | true =>
      go_wp2_with fail
      go_ret
      exact ⟨a, c, l, by simp [enterS, ← HH.out.2.2, show ¬ 0 ≤ k by omega, ← HW.out], H3.out.1, by simp [enterS, ← HH.out.2.2, show ¬ 0 ≤ k by omega, ← HW.out], H3.out.2.any, fun x hx => .inl hx⟩
    | false =>
      obtain ⟨n, hn⟩ : ∃ n, n = l.length := ⟨_, rfl⟩
      have x0 := cells1 H3.out.1.top
      rw [← hn] at hl x0
      have hcA := (Chg.refl [] w3).alloc (.cells #[.int .i64 r, .int .i64 p, .slice none 0 0, .slice none 0 0, .bool false] 69)
      have hbn := heap_alloc_same w3 (.cells #[.int .i64 r, .int .i64 p, .slice none 0 0, .slice none 0 0, .bool false] 69)
      have hone : ∀ u ∈ ([.int .i64 r, .int .i64 p, .slice none 0 0, .slice none 0 0, .bool false] : List Value), u.oneCell' = true := by simp [Value.oneCell']
      have h2' : n + 1 ≤ maxLen ∧ (n + 1) * 72 ≤ 140737488355328 := by simp only [maxLen]; omega
      have hrow := (H3.out.1.chg0 hcA).row
      rw [← hn] at hrow
      have hneB : (Value.slice a n c).ownBlock ≠ some B := ownsRow_ne hrow (H3.out.1.chg0 hcA).top (by decide)
      have HA := Lib.hid (And.intro hcA (And.intro (cells_at hbn) (And.intro hone (And.intro h2' (And.intro hrow (And.intro hneB hn))))))
      have hBl := lt_of_block H3.out.1.top
      clear hcA hbn hone h2' hrow hneB hn
      go_wp2_with (at_builtin; refine wpList_append_row rfl _ _ 51 rfl 69 i0 _ 5 72 Try.underlying51 hi0 hz0 hz1 hz2 rfl (by decide) (.slice a n c) n (rfCells l) rfl HA.out.2.2.2.2.1 ⟨w3.heap.size, 0, none⟩ 1 1 [.int .i64 r, .int .i64 p, .slice none 0 0, .slice none 0 0, .bool false] rfl rfl HA.out.2.1 HA.out.2.2.1 HA.out.2.2.2.1.1 HA.out.2.2.2.1.2 ?_; intro a5 c5 w5 hr5 hg5 hk5; have hB5 := grown_heap hg5 (H3.out.1.chg0 HA.out.1).top HA.out.2.2.2.2.2.1; have q5 := cell_of_cells hB5 0; have f5 := free_of_cells hB5 0; simp only [List.getElem?_toArray, List.getElem?_cons_zero] at q5; have HX := Lib.hid (And.intro hr5 (And.intro hg5 hk5)); clear hr5 hg5 hk5 hB5)
      have hpush := H3.out.1.push HA.out.1 r p (w5 := w5) (a5 := a5) (c5 := c5) (by rw [← HA.out.2.2.2.2.2.2]; exact HX.out.1) (by rw [← HA.out.2.2.2.2.2.2]; exact HX.out.2.1) (by rw [← HA.out.2.2.2.2.2.2]; exact HX.out.2.2)
      rw [← HA.out.2.2.2.2.2.2] at hpush
      obtain ⟨w6, e6⟩ : ∃ w6, w6 = w5.setCell ⟨B, 0, none⟩ (.slice a5 (n + 1) c5) := ⟨_, rfl⟩
      rw [← e6] at hpush ⊢
      have hsz6 : ∀ f ∈ rfs (l ++ [(⟨⟨r, p, [], [], false⟩, none, 0, none, 0⟩ : Rf)]), f.tch.length ≤ 1000000 := fun f hf => by
        simp only [rfs, List.map_append, List.map_cons, List.map_nil, List.mem_append, List.mem_singleton] at hf
        rcases hf with hf | rfl
        · exact HH.out.2.1 f hf
        · simp
      have ht := touchR_any w6 B a5 c5 _ hpush.1 hsz6 r p
      have HT := Lib.hid (And.intro ht hpush)
      clear hpush hsz6 ht e6 q5 f5 x0
      refine HT.out.1.mono ?_
      rintro e w7 ⟨rfl, l7, hl7, hr7, hf7, hc7⟩
      have H7 := Lib.hid (And.intro hl7 (And.intro hr7 (And.intro hf7 hc7)))
      clear hl7 hr7 hf7 hc7
      go_wp2_with fail
      go_ret
      have hE : enterS (rfs l) r p = (touchS (rfs l ++ [⟨r, p, [], [], false⟩]) p [r], 0) := by
        unfold enterS
        rw [← HH.out.2.2, if_neg (by omega), ← HW.out]
        rfl
      rw [hE]
      have hlen7 : (l ++ [(⟨⟨r, p, [], [], false⟩, none, 0, none, 0⟩ : Rf)]).length = n + 1 := by rw [List.length_append, ← HA.out.2.2.2.2.2.2]; rfl
      have hsz3 := H3.out.2.size
      refine ⟨a5, c5, l7, rfl, H7.out.2.1, ?_, ?_, fun x hx => ?_⟩
      · rw [H7.out.2.2.1]; simp [rfs]
      · have h3 := HT.out.2.2.1
        rw [HA.out.2.2.2.2.2.2] at h3
        refine (H3.out.2.any.tr h3).trans H7.out.2.2.2 (fun j hj => ?_)
        rw [hlen7] at hj
        rcases HT.out.2.2.2 j hj with h | h
        · exact .inl (by rw [HA.out.2.2.2.2.2.2] at h; simp [h])
        · exact .inr (by omega)
      · rw [H7.out.1, hlen7] at hx
        rcases HT.out.2.2.2 x hx with h | h
        · exact .inl (by rw [HA.out.2.2.2.2.2.2] at h; exact h)
        · exact .inr (by omega)
end Go.Proofs.Ytnajhcoimohcaaa

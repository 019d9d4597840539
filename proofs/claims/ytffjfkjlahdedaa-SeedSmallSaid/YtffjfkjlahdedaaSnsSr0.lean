/-
  The document's store (seedlingref19): its row of pairs; where a pair is.
  Conditions: none.
-/
import Derived.Test.YtffjfkjlahdedaaSnsSeedJ
import Derived.Test.YtffjfkjlahdedaaSnsTw1
set_option linter.unusedVariables false
set_option linter.unusedSimpArgs false
set_option linter.unnecessarySimpa false
namespace Go.Proofs.Ytffjfkjlahdedaa
open Go.RowKit Go.MapKept

structure Rs where
  q : Int × Int
  f : Found
  a : Option Addr
  c : Nat
def Found.has (f : Found) : Bool := f.isSome
def Found.e (f : Found) : Int := match f with | none => 0 | some x => x.1
def Found.l (f : Found) : Int := match f with | none => 0 | some x => x.2.1
def Found.t (f : Found) : List Tw := match f with | none => [] | some x => x.2.2
def Rs.cells (z : Rs) : List Value := [.int .i64 z.q.1, .int .i64 z.q.2, .bool (Found.has z.f), .int .i64 (Found.e z.f), .int .i64 (Found.l z.f), .slice z.a (Found.t z.f).length z.c]
def rsCells (l : List Rs) : List Value := l.flatMap Rs.cells
theorem rsCells_len (l : List Rs) : (rsCells l).length = l.length * 6 := flat_len Rs.cells 6 (fun _ => rfl) l
theorem rsCells_append (l m : List Rs) : rsCells (l ++ m) = rsCells l ++ rsCells m := by simp [rsCells]
def Rs.x (z : Rs) : (Int × Int) × Found := (z.q, z.f)
def rss (l : List Rs) : St := l.map Rs.x
theorem rss_len (l : List Rs) : (rss l).length = l.length := by simp [rss]
theorem rss_get (l : List Rs) {i : Nat} (h : i < l.length) : (rss l)[i]'(by rw [rss_len]; exact h) = l[i].x := by simp [rss]
/-- The document's store: its cell, its row, its trees. -/
structure RefS (NB : Nat) (w : World) (B : Nat) (a : Option Addr) (c : Nat) (l : List Rs) : Prop where
  top : w.heap[B]? = some (.cells #[.slice a l.length c] 52 (0, 0))
  row : w.ownsRow 0 56 6 (.slice a l.length c) l.length (rsCells l)
  trees : ∀ z ∈ l, TreeN NB w (.slice z.a (Found.t z.f).length z.c) (Found.t z.f)
  ban : NB < w.heap.size
theorem TreeN.chg {NB : Nat} {w w' : World} {S : List Nat} {v : Value} {t : List Tw} (h : TreeN NB w v t) (hc : Chg S w w') (hS : ∀ k ∈ S, NotRow w 33 k) : TreeN NB w' v t := ⟨⟨hc.rowOf h.1.1 hS, h.1.2⟩, h.2⟩
theorem RefS.chg0 {NB : Nat} {w w' : World} {B : Nat} {a : Option Addr} {c : Nat} {l : List Rs} (h : RefS NB w B a c l) (hc : Chg [] w w') : RefS NB w' B a c l :=
  ⟨hc.heap h.top (by simp), hc.row h.row (fun _ _ => by simp), fun z hz => (h.trees z hz).chg hc (by simp), Nat.lt_of_lt_of_le h.ban hc.size⟩
theorem RefS.at {NB : Nat} {w : World} {B : Nat} {a : Option Addr} {c : Nat} {l : List Rs} (h : RefS NB w B a c l) {i : Nat} (hi : i < l.length) :
    ∃ G, a = some ⟨G, 0, none⟩ ∧ l.length ≤ c ∧ c ≤ 9223372036854775807 ∧ w.cell? ⟨G, i * 6, none⟩ = some (.int .i64 l[i].q.1) ∧ w.cell? ⟨G, i * 6 + 1, none⟩ = some (.int .i64 l[i].q.2) ∧ w.cell? ⟨G, i * 6 + 2, none⟩ = some (.bool (Found.has l[i].f)) ∧ w.cell? ⟨G, i * 6 + 3, none⟩ = some (.int .i64 (Found.e l[i].f)) ∧ w.cell? ⟨G, i * 6 + 4, none⟩ = some (.int .i64 (Found.l l[i].f)) ∧ w.cell? ⟨G, i * 6 + 5, none⟩ = some (.slice l[i].a (Found.t l[i].f).length l[i].c) ∧ (∀ o, w.frozen? ⟨G, o, none⟩ = false) ∧ G < w.heap.size ∧ ∃ cur, w.heap[G]? = some (.cells cur 56 (0, 0)) := by
  obtain ⟨G, rfl, hn, hm, hl, hcur⟩ : ∃ G, a = some ⟨G, 0, none⟩ ∧ l.length ≤ c ∧ c ≤ maxLen ∧ G < w.heap.size ∧ ∃ cur, w.heap[G]? = some (.cells cur 56 (0, 0)) := by
    rcases h.row.2 with ⟨h0, h1⟩ | ⟨g, cap, cur, h0, hb, hg, hn, hc, _⟩
    · omega
    · cases h0; exact ⟨g, rfl, hn, hc, lt_of_block hg, cur, hg⟩
  have key : ∀ r, r < 6 → w.cell? ⟨G, i * 6 + r, none⟩ = l[i].cells[r]? := fun r hr => by
    rw [(row_put h.row (i := i * 6 + r) (by omega)).1]
    have h1 := flat_get Rs.cells 6 (fun _ => rfl) l i r hr
    rw [List.getElem?_eq_getElem hi, Option.bind_some] at h1
    exact h1
  obtain ⟨cur, hcur⟩ := hcur
  exact ⟨G, rfl, hn, by simp only [maxLen] at hm; exact hm, key 0 (by decide), key 1 (by decide), key 2 (by decide), key 3 (by decide), key 4 (by decide), key 5 (by decide), fun o => free_of_cells hcur o, hl, cur, hcur⟩

/-! ### Where a pair is -/
def atQ : St → Int × Int → Int
  | [], _ => -1
  | x :: s, q => if x.1 = q then 0 else if atQ s q < 0 then -1 else atQ s q + 1
theorem atQ_none {q : Int × Int} : ∀ {s : St}, (∀ x ∈ s, ¬ x.1 = q) → atQ s q = -1 := by
  intro s
  induction s with
  | nil => intro _; rfl
  | cons x s ih =>
    intro h
    unfold atQ
    rw [if_neg (h x (by simp)), ih (fun y hy => h y (by simp [hy]))]
    rfl
theorem atQ_some {q : Int × Int} : ∀ {s : St} {k : Nat} (hk : k < s.length), s[k].1 = q → (∀ j (h : j < k), ¬ (s[j]'(by omega)).1 = q) → atQ s q = k := by
  intro s
  induction s with
  | nil => intro k hk; cases hk
  | cons x s ih =>
    intro k hk h1 h2
    cases k with
    | zero => unfold atQ; rw [if_pos (show x.1 = q from h1)]; rfl
    | succ k =>
      have h0 : ¬ x.1 = q := h2 0 (by omega)
      have := ih (k := k) (by simpa using hk) h1 (fun j hj => h2 (j + 1) (by omega))
      unfold atQ
      rw [if_neg h0, this, if_neg (by omega)]
      omega
theorem atQ_cases (s : St) (q : Int × Int) : (atQ s q = -1 ∧ q ∉ s.map (·.1) ∧ s.get q = none) ∨ ∃ k, ∃ h : k < s.length, atQ s q = k ∧ s[k].1 = q ∧ q ∈ s.map (·.1) ∧ s.get q = some s[k].2 := by
  induction s with
  | nil => exact .inl ⟨rfl, by simp, rfl⟩
  | cons x s ih =>
    by_cases h : x.1 = q
    · exact .inr ⟨0, by simp, by unfold atQ; rw [if_pos h]; rfl, h, by simp [h], by simp [St.get, h]⟩
    · rcases ih with ⟨h1, h2, h3⟩ | ⟨k, hk, h1, h2, h3, h4⟩
      · refine .inl ⟨by unfold atQ; rw [if_neg h, h1]; rfl, ?_, ?_⟩
        · simp only [List.map_cons, List.mem_cons, not_or]; exact ⟨fun e => h e.symm, h2⟩
        · unfold St.get at h3 ⊢; rw [List.find?_cons_of_neg (by simpa using h)]; exact h3
      · refine .inr ⟨k + 1, by simpa using hk, by unfold atQ; rw [if_neg h, h1, if_neg (by omega)]; omega, h2, by simp only [List.map_cons, List.mem_cons]; exact .inr h3, ?_⟩
        unfold St.get at h4 ⊢; rw [List.find?_cons_of_neg (by simpa using h)]; exact h4

set_option maxRecDepth 100000 in
set_option maxHeartbeats 4000000 in
theorem atS_any {NB : Nat} (w : World) (B : Nat) (a : Option Addr) (c : Nat) (l : List Rs) (h : RefS NB w B a c l) (q : Int × Int) :
    Calls Try.prog 37 #[.pointer (some ⟨B, 0, none⟩), .int .i64 q.1, .int .i64 q.2] w fun e w' => e = .returned (.int .i64 (atQ (rss l) q)) ∧ Chg [] w w' := by
  obtain ⟨r, p⟩ := q
  obtain ⟨n, hn⟩ : ∃ n, n = l.length := ⟨_, rfl⟩
  have x0 := cells1 h.top
  rw [← hn] at x0
  have H := Lib.hid (And.intro h hn)
  clear h hn
  go_enter Try.func37, Try.ntmps37
  go_wp2_with fail
  clear x0
  go_loopg [7] n (fun dd iv wr => ∃ i : Nat, dd = n - i ∧ i ≤ n ∧ iv = .int .i64 i ∧ Hid ((∀ j (h : j < l.length), j < i → ¬ l[j].q = (r, p)) ∧ Chg [] w wr))
  case atStart => exact ⟨0, rfl, Nat.zero_le _, rfl, Lib.hid ⟨fun j h hj => by omega, Chg.refl _ _⟩⟩
  case round =>
    obtain ⟨i, rfl, hi, rfl, hin⟩ := hrel
    obtain ⟨wq, rfl⟩ : ∃ wq, wq = wr := ⟨_, rfl⟩
    have hq := H.out.1.chg0 hin.out.2
    have x0 := cells1 hq.top
    rw [← H.out.2] at x0
    by_cases hil : i < n
    · have hiL : i < l.length := by have := H.out.2; omega
      obtain ⟨G, rfl, hc1, hc2, z0, z1, -, -, -, -, -, -, -⟩ := hq.at hiL
      rw [← H.out.2] at hc1
      obtain ⟨x, hx⟩ : ∃ x, x = l[i].q := ⟨_, rfl⟩
      rw [← hx] at z0 z1
      have HX : Hid (∃ h : i < l.length, x = l[i].q) := Lib.hid ⟨hiL, hx⟩
      obtain ⟨rule, place⟩ := x
      simp only at z0 z1
      have hi1 : (i : Int) < n := by omega
      clear hq hx hiL
      by_cases h1 : rule = r
      · by_cases h2 : place = p
        · go_wp2_with fail
          go_ret
          obtain ⟨hiL, e9⟩ := HX.out
          have e : atQ (rss l) (r, p) = i := atQ_some (by rw [rss_len]; exact hiL) (by rw [rss_get l hiL]; show l[i].q = _; rw [← e9, h1, h2]) (fun j hj => by rw [rss_get l (by omega)]; exact hin.out.1 j (by omega) hj)
          rw [e]
          exact ⟨by simp, hin.out.2⟩
        · go_wp2_with fail
          go_roundg (n - (i + 1))
          case measure => omega
          case rel =>
            refine ⟨i + 1, rfl, by omega, by go_num, Lib.hid ⟨fun j h hj => ?_, hin.out.2⟩⟩
            by_cases e : j = i
            · subst e
              obtain ⟨_, e9⟩ := HX.out
              rw [← e9]; intro h; simp only [Prod.mk.injEq] at h; exact h2 h.2
            · exact hin.out.1 j h (by omega)
      · go_wp2_with fail
        go_roundg (n - (i + 1))
        case measure => omega
        case rel =>
          refine ⟨i + 1, rfl, by omega, by go_num, Lib.hid ⟨fun j h hj => ?_, hin.out.2⟩⟩
          by_cases e : j = i
          · subst e
            obtain ⟨_, e9⟩ := HX.out
            rw [← e9]; intro h; simp only [Prod.mk.injEq] at h; exact h1 h.1
          · exact hin.out.1 j h (by omega)
    · obtain rfl : i = n := by omega
      clear hq
      go_wp2_with fail
      go_ret
      have e : atQ (rss l) (r, p) = -1 := atQ_none (fun f hf => by
        obtain ⟨j, hj, rfl⟩ := List.mem_iff_getElem.1 hf
        rw [rss_len] at hj
        rw [rss_get l hj]
        exact hin.out.1 j hj (by have := H.out.2; omega))
      rw [e]
      exact ⟨by simp, hin.out.2⟩

/-! ### Changes of it -/
def fpA (a : Option Addr) (c : Nat) (n : Nat) : List Nat := (Value.slice a n c).ownBlock.toList
def OpS (NB : Nat) (w : World) (B : Nat) (a : Option Addr) (c : Nat) (l : List Rs) (s' : St) (no : Int) (e : Ending) (w' : World) : Prop :=
  ∃ a' c' l', e = .returned (.int .i64 no) ∧ RefS NB w' B a' c' l' ∧ rss l' = s' ∧ Chg (B :: fpA a c l.length) w w' ∧ ∀ x ∈ fpA a' c' l'.length, x ∈ fpA a c l.length ∨ w.heap.size ≤ x
theorem RefS.notTwig {NB : Nat} {w : World} {B : Nat} {a : Option Addr} {c : Nat} {l : List Rs} (h : RefS NB w B a c l) : ∀ k ∈ B :: fpA a c l.length, NotRow w 33 k := by
  intro k hk
  simp only [List.mem_cons, fpA, Option.mem_toList] at hk
  rcases hk with rfl | hk
  · exact .of_cells h.top (by decide)
  · obtain ⟨_, _, cur, hcur⟩ := row_beyond h.row hk
    exact .of_cells hcur (by decide)
/-- A pair more. -/
theorem RefS.push {NB : Nat} {w wA w5 : World} {B : Nat} {a : Option Addr} {c : Nat} {l : List Rs} (h : RefS NB w B a c l) (hA : Chg [] w wA) (q : Int × Int) {a5 : Option Addr} {c5 : Nat}
    (hrow : w5.ownsRow 0 56 6 (.slice a5 (l.length + 1) c5) (l.length + 1) (rsCells l ++ (⟨q, none, none, 0⟩ : Rs).cells)) (hg : wA.grownBy w5 (Value.slice a l.length c).ownBlock) (hk : (Value.slice a5 (l.length + 1) c5).ownBlock = (Value.slice a l.length c).ownBlock ∨ (Value.slice a5 (l.length + 1) c5).ownBlock = some wA.heap.size) :
    RefS NB (w5.setCell ⟨B, 0, none⟩ (.slice a5 (l.length + 1) c5)) B a5 c5 (l ++ [⟨q, none, none, 0⟩]) ∧ Chg (B :: fpA a c l.length) w (w5.setCell ⟨B, 0, none⟩ (.slice a5 (l.length + 1) c5)) ∧ ∀ x ∈ fpA a5 c5 (l.length + 1), x ∈ fpA a c l.length ∨ w.heap.size ≤ x := by
  have hA' := h.chg0 hA
  have hcG : Chg (Value.slice a l.length c).ownBlock.toList wA w5 := (Chg.refl _ wA).grown hg (fun k hk => .inl (by rw [hk]; simp))
  have hB5 : w5.heap[B]? = _ := grown_heap hg hA'.top (fun he => by
    obtain ⟨_, _, cur, hcur⟩ := row_beyond hA'.row he
    rw [hA'.top] at hcur
    simp at hcur)
  have hset := heap_setCell_same hB5 0 (.slice a5 (l.length + 1) c5)
  have hcS := (Chg.refl [B] w5).setCell (p := ⟨B, 0, none⟩) (.inl (by simp)) (.slice a5 (l.length + 1) c5)
  refine ⟨⟨?_, ?_, fun x hx => ?_, Nat.lt_of_lt_of_le hA'.ban (Nat.le_trans hcG.size hcS.size)⟩, ?_, fun x hx => ?_⟩
  · simpa using hset
  · rw [List.length_append, rsCells_append]
    have e : rsCells [(⟨q, none, none, 0⟩ : Rs)] = (⟨q, none, none, 0⟩ : Rs).cells := by simp [rsCells]
    rw [e]
    exact hcS.rowOf hrow (fun k hk => by simp only [List.mem_singleton] at hk; subst hk; exact .of_cells hB5 (by decide))
  · rcases List.mem_append.1 hx with hx | hx
    · refine ((hA'.trees x hx).chg hcG (fun k hk => ?_)).chg hcS (fun k hk => ?_)
      · obtain ⟨_, _, cur, hcur⟩ := row_beyond hA'.row (by simpa using hk)
        exact .of_cells hcur (by decide)
      · simp only [List.mem_singleton] at hk
        subst hk
        exact .of_cells hB5 (by decide)
    · simp only [List.mem_singleton] at hx
      subst hx
      exact ⟨tree_nil _, by simp [Value.ownBlock, Found.t]⟩
  · refine ((hA.any (S := B :: fpA a c l.length)).grown hg (fun k hk => .inl (by simp [fpA, hk]))).setCell (p := ⟨B, 0, none⟩) (.inl (by simp)) _
  · simp only [fpA, Option.mem_toList] at hx ⊢
    have hsz := hA.size
    rcases hk with e | e
    · rw [e] at hx; exact .inl hx
    · rw [e] at hx; cases hx; exact .inr (by omega)

theorem Try.infoPairR : (Try.prog.info? 56).map (fun i => (i.zero, i.size, i.bytes)) = some (some (.agg #[.int .i64 0, .int .i64 0, .bool false, .int .i64 0, .int .i64 0, .slice none 0 0]), 6, 64) := by kernel_rfl

set_option maxRecDepth 100000 in
set_option maxHeartbeats 4000000 in
theorem beginR_any {NB : Nat} (w : World) (B : Nat) (a : Option Addr) (c : Nat) (l : List Rs) (h : RefS NB w B a c l) (hl : l.length ≤ 1000000) (q : Int × Int) :
    Calls Try.prog 19 #[.pointer (some ⟨B, 0, none⟩), .int .i64 q.1, .int .i64 q.2] w (OpS NB w B a c l (if q ∈ (rss l).map (·.1) then rss l else rss l ++ [(q, none)]) (if q ∈ (rss l).map (·.1) then 8 else 0)) := by
  obtain ⟨i0, hi0, hz0, hz1, hz2⟩ := info_parts Try.infoPairR
  have hat := atS_any w B a c l h q
  rcases atQ_cases (rss l) q with ⟨h0, hm, -⟩ | ⟨k, hk, h0, -, hm, -⟩
  · rw [h0] at hat
    rw [if_neg hm, if_neg hm]
    obtain ⟨n, hn⟩ : ∃ n, n = l.length := ⟨_, rfl⟩
    have HH := Lib.hid (And.intro h hn)
    rw [← hn] at hl
    clear h hm hn h0
    obtain ⟨r, p⟩ := q
    simp only at hat ⊢
    go_enter Try.func19, Try.ntmps19
    go_wp2_with fail
    refine hat.mono ?_
    clear hat
    rintro e w3 ⟨rfl, hc3⟩
    have H3 := Lib.hid (And.intro (HH.out.1.chg0 hc3) hc3)
    clear hc3
    have x0 := cells1 H3.out.1.top
    rw [← HH.out.2] at x0
    have hcA := (Chg.refl [] w3).alloc (.cells #[.int .i64 r, .int .i64 p, .bool false, .int .i64 0, .int .i64 0, .slice none 0 0] 56)
    have hbn := heap_alloc_same w3 (.cells #[.int .i64 r, .int .i64 p, .bool false, .int .i64 0, .int .i64 0, .slice none 0 0] 56)
    have hone : ∀ u ∈ ([.int .i64 r, .int .i64 p, .bool false, .int .i64 0, .int .i64 0, .slice none 0 0] : List Value), u.oneCell' = true := by simp [Value.oneCell']
    have h2' : n + 1 ≤ maxLen ∧ (n + 1) * 64 ≤ 140737488355328 := by simp only [maxLen]; omega
    have hrow := (H3.out.1.chg0 hcA).row
    rw [← HH.out.2] at hrow
    have hneB : (Value.slice a n c).ownBlock ≠ some B := ownsRow_ne hrow (H3.out.1.chg0 hcA).top (by decide)
    have HA := Lib.hid (And.intro hcA (And.intro (cells_at hbn) (And.intro hone (And.intro h2' (And.intro hrow hneB)))))
    have hBl := lt_of_block H3.out.1.top
    clear hcA hbn hone h2' hrow hneB
    go_wp2_with (at_builtin; refine wpList_append_row rfl _ _ 50 rfl 56 i0 _ 6 64 Try.underlying50 hi0 hz0 hz1 hz2 rfl (by decide) (.slice a n c) n (rsCells l) rfl HA.out.2.2.2.2.1 ⟨w3.heap.size, 0, none⟩ 1 1 [.int .i64 r, .int .i64 p, .bool false, .int .i64 0, .int .i64 0, .slice none 0 0] rfl rfl HA.out.2.1 HA.out.2.2.1 HA.out.2.2.2.1.1 HA.out.2.2.2.1.2 ?_; intro a5 c5 w5 hr5 hg5 hk5; have hB5 := grown_heap hg5 (H3.out.1.chg0 HA.out.1).top HA.out.2.2.2.2.2; have q5 := cell_of_cells hB5 0; have f5 := free_of_cells hB5 0; simp only [List.getElem?_toArray, List.getElem?_cons_zero] at q5; have HX := Lib.hid (And.intro hr5 (And.intro hg5 hk5)); clear hr5 hg5 hk5 hB5)
    go_ret
    have hpush := H3.out.1.push HA.out.1 (r, p) (w5 := w5) (a5 := a5) (c5 := c5) (by rw [← HH.out.2]; exact HX.out.1) (by rw [← HH.out.2]; exact HX.out.2.1) (by rw [← HH.out.2]; exact HX.out.2.2)
    rw [← HH.out.2] at hpush
    have hs3 := H3.out.2.size
    refine ⟨a5, c5, _, rfl, hpush.1, by simp [rss, Rs.x], ?_, fun x hx => ?_⟩
    · rw [← HH.out.2]; exact H3.out.2.any.tr hpush.2.1
    · rw [← HH.out.2]
      rw [List.length_append, ← HH.out.2] at hx
      rcases hpush.2.2 x hx with h | h
      · exact .inl h
      · exact .inr (by omega)
  · rw [h0] at hat
    rw [if_pos hm, if_pos hm]
    have HH := Lib.hid h
    clear h hm h0
    obtain ⟨r, p⟩ := q
    simp only at hat ⊢
    have hk9 : (0 : Int) ≤ k := by omega
    go_enter Try.func19, Try.ntmps19
    go_wp2_with fail
    refine hat.mono ?_
    clear hat
    rintro e w3 ⟨rfl, hc3⟩
    have H3 := Lib.hid hc3
    clear hc3
    go_wp2_with fail
    go_ret
    exact ⟨a, c, l, rfl, HH.out.chg0 H3.out, rfl, H3.out.any, fun x hx => .inl hx⟩
end Go.Proofs.Ytffjfkjlahdedaa

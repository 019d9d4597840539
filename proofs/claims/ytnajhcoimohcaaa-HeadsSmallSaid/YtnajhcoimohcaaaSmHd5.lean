/-
  Package heads: rules used at a place; what is involved, free, tainted.
  Conditions: none.
-/
import Derived.Test.YtnajhcoimohcaaaSmHd4
set_option linter.unusedVariables false
set_option linter.unusedSimpArgs false
set_option linter.unnecessarySimpa false
namespace Go.Proofs.Ytnajhcoimohcaaa
open Go.RowKit Go.MapKept

/-- What a deed leaves: the stack as it is told, an error's number; only the stack's own memory is written. -/
def OpP (w : World) (B : Nat) (a : Option Addr) (c : Nat) (l : List Fr) (res : List Fm × Int) (e : Ending) (w' : World) : Prop :=
  ∃ a' c' l', e = .returned (.int .i64 res.2) ∧ StackAt w' B a' c' l' ∧ fms l' = res.1 ∧ Chg (fpS B a c l) w w' ∧ ∀ x ∈ fpS B a' c' l', x ∈ fpS B a c l ∨ w.heap.size ≤ x
theorem fpS_maps {B : Nat} {a : Option Addr} {c : Nat} {l : List Fr} {x : Nat} (h : x ∈ mapsOf l) : x ∈ fpS B a c l := by simp [fpS, h]
theorem mapsOf_map (p : Int) (xs : List Int) (l : List Fr) : mapsOf (l.map (touchR p xs)) = mapsOf l := by
  unfold mapsOf
  rw [List.flatMap_map]
  rfl
theorem fpS_touch (B : Nat) (a : Option Addr) (c : Nat) (p : Int) (xs : List Int) (l : List Fr) : fpS B a c (l.map (touchR p xs)) = fpS B a c l := by
  unfold fpS
  rw [mapsOf_map, List.length_map]

set_option maxRecDepth 100000 in
set_option maxHeartbeats 4000000 in
theorem useS_any (w : World) (B : Nat) (a : Option Addr) (c : Nat) (l : List Fr) (h : StackAt w B a c l) (p : Int) (ax : Option Addr) (m cx : Nat) (xs : List Int) (hm : m = xs.length) (hcx : m ≤ cx) (hcm : cx ≤ 9223372036854775807) (hx : Ints w ax xs) (hwf : ∀ z ∈ xs, I64 z) :
    Calls Try.prog 25 #[.pointer (some ⟨B, 0, none⟩), .int .i64 p, .slice ax m cx] w (OpP w B a c l (useS (fms l) p xs)) := by
  obtain ⟨x0, x1⟩ := cells2 h.top
  have h1 := isS_any w B true x0
  have H := Lib.hid (And.intro h (And.intro hm (And.intro hx hwf)))
  clear h hm hx hwf x0 x1
  go_enter Try.func25, Try.ntmps25
  go_wp2_with fail
  refine h1.mono ?_
  clear h1
  rintro e w1 ⟨rfl, hc1⟩
  have H1 := Lib.hid (And.intro (H.out.1.chg0 hc1) hc1)
  clear hc1
  have hlow := lowS_any w1 B a c l H1.out.1 p
  obtain ⟨lw, hlw⟩ : ∃ lw, lw = lowB (fms l) p := ⟨_, rfl⟩
  rw [← hlw] at hlow
  have HW := Lib.hid hlw
  clear hlw
  go_wp2_with fail
  refine hlow.mono ?_
  clear hlow
  rintro e w2 ⟨rfl, hc2⟩
  have H2 := Lib.hid (And.intro (H1.out.1.chg0 hc2) (H1.out.2.tr hc2))
  clear hc2
  cases lw with
  | true =>
    go_wp2_with fail
    go_ret
    refine ⟨a, c, l, ?_, H2.out.1, ?_, H2.out.2.any, fun x hx => .inl hx⟩
    · simp [useS, ← HW.out]
    · simp [useS, ← HW.out]
  | false =>
    have ht := touchS_any w2 B a c l H2.out.1 p ax m cx xs H.out.2.1 hcx hcm (H.out.2.2.1.keep H2.out.2.kp) H.out.2.2.2
    go_wp2_with fail
    refine ht.mono ?_
    clear ht
    rintro e w3 ⟨rfl, hs3, hc3⟩
    have H3 := Lib.hid (And.intro hs3 (H2.out.2.any.tr (hc3.mono (T := fpS B a c l) (fun j hj => .inl (fpS_maps hj)))))
    clear hs3 hc3
    go_wp2_with fail
    go_ret
    refine ⟨a, c, _, ?_, H3.out.1, ?_, H3.out.2, fun x hx => .inl (by rwa [fpS_touch] at hx)⟩
    · simp [useS, ← HW.out]
    · rw [fms_touch]; simp [useS, ← HW.out]

theorem invL_at {l : List Fr} {r p : Int} {k : Nat} (hk : k < l.length) (h : atI (fms l) r p = k) : invL (fms l) r p = l[k].f.inv := by
  unfold invL
  rw [h, if_neg (by omega)]
  simp [fms, hk]

set_option maxRecDepth 100000 in
set_option maxHeartbeats 4000000 in
theorem involvedS_any (w : World) (B : Nat) (a : Option Addr) (c : Nat) (l : List Fr) (h : StackAt w B a c l) (hsz : ∀ x ∈ l, x.f.inv.length ≤ 1000000) (r p : Int) :
    Calls Try.prog 11 #[.pointer (some ⟨B, 0, none⟩), .int .i64 r, .int .i64 p] w fun e w' => ∃ a' n' c', e = .returned (.slice a' n' c') ∧ n' = (invL (fms l) r p).length ∧ FreshInts w.heap.size w' a' c' (invL (fms l) r p) ∧ Chg [] w w' := by
  obtain ⟨x0, x1⟩ := cells2 h.top
  have h1 := isS_any w B true x0
  have H := Lib.hid (And.intro h hsz)
  clear h hsz x0 x1
  go_enter Try.func11, Try.ntmps11
  go_wp2_with fail
  refine h1.mono ?_
  clear h1
  rintro e w1 ⟨rfl, hc1⟩
  have H1 := Lib.hid (And.intro (H.out.1.chg0 hc1) hc1)
  clear hc1
  have hat := atS_any w1 B a c l H1.out.1 r p
  rcases atI_cases (fms l) r p with ⟨h0, -⟩ | ⟨k, hk, h0, -, -⟩
  · rw [h0] at hat
    have HA := Lib.hid h0
    clear h0
    go_wp2_with fail
    refine hat.mono ?_
    clear hat
    rintro e w2 ⟨rfl, hc2⟩
    have H2 := Lib.hid (H1.out.2.tr hc2)
    clear hc2
    go_wp2_with fail
    go_ret
    have e9 : invL (fms l) r p = [] := by unfold invL; rw [HA.out]; rfl
    rw [e9]
    exact ⟨none, 0, 0, rfl, rfl, World.ownsRow_nil _ _ _ _, H2.out⟩
  · rw [h0] at hat
    rw [fms_len] at hk
    have HA := Lib.hid h0
    clear h0
    go_wp2_with fail
    refine hat.mono ?_
    clear hat
    rintro e w2 ⟨rfl, hc2⟩
    have hs2 := H1.out.1.chg0 hc2
    obtain ⟨y0, y1⟩ := cells2 hs2.top
    obtain ⟨G, rfl, hcc1, hcc2, -, -, -, z3, -, -, hG, -⟩ := hs2.at hk
    have hri := rising_any w2 l[k].bi l[k].f.inv (hs2.sets _ (List.getElem_mem hk)).2 (H.out.2 _ (List.getElem_mem hk))
    obtain ⟨n, hn⟩ : ∃ n, n = l.length := ⟨_, rfl⟩
    rw [← hn] at y1 hk hcc1
    obtain ⟨bi, hbi⟩ : ∃ b, b = (l[k]'(by omega)).bi := ⟨_, rfl⟩
    rw [← hbi] at z3 hri
    have HR := Lib.hid (And.intro hri (And.intro (H1.out.2.tr hc2) hn))
    have hk1 : (k : Int) < n := by omega
    clear hc2 hs2 hri hn hbi
    go_wp2_with fail
    refine HR.out.1.mono ?_
    rintro e w3 ⟨a3, c3, rfl, hf3, hc3⟩
    have H3 := Lib.hid (And.intro hf3 (HR.out.2.1.tr hc3))
    have hw2 := HR.out.2.1.size
    clear hf3 hc3 y0 y1 z3
    go_wp2_with fail
    go_ret
    rw [invL_at (by rw [← HR.out.2.2]; exact hk) HA.out]
    exact ⟨a3, _, c3, rfl, rfl, row_base H3.out.1 hw2, H3.out.2⟩

/-! ### Free -/
def fstI (P : Int → Bool) : List Int → Int
  | [] => -1
  | x :: l => if P x then 0 else if fstI P l < 0 then -1 else fstI P l + 1
theorem fstI_none {P : Int → Bool} : ∀ {l : List Int}, (∀ x ∈ l, P x = false) → fstI P l = -1 := by
  intro l
  induction l with
  | nil => intro _; rfl
  | cons x l ih =>
    intro h
    unfold fstI
    rw [h x (by simp), ih (fun y hy => h y (by simp [hy]))]
    rfl
theorem fstI_some {P : Int → Bool} : ∀ {l : List Int} {k : Nat} (hk : k < l.length), P l[k] = true → (∀ j (h : j < k), P (l[j]'(by omega)) = false) → fstI P l = k := by
  intro l
  induction l with
  | nil => intro k hk; cases hk
  | cons x l ih =>
    intro k hk h1 h2
    cases k with
    | zero => unfold fstI; rw [show P x = true from h1]; rfl
    | succ k =>
      have h0 : P x = false := h2 0 (by omega)
      have := ih (k := k) (by simpa using hk) h1 (fun j hj => h2 (j + 1) (by omega))
      unfold fstI
      rw [h0, this]
      simp only [Bool.false_eq_true, if_false]
      rw [if_neg (by omega)]
      omega
theorem fstI_any (P : Int → Bool) (l : List Int) : decide (0 ≤ fstI P l) = l.any P := by
  induction l with
  | nil => rfl
  | cons x l ih =>
    unfold fstI
    rw [List.any_cons, ← ih]
    cases P x with
    | true => rfl
    | false =>
      simp only [Bool.false_eq_true, if_false, Bool.false_or]
      split
      · rename_i h; rw [decide_eq_false (by omega), decide_eq_false (by omega)]
      · rename_i h; rw [decide_eq_true (by omega), decide_eq_true (by omega)]
def standsB (s : List Fm) (p : Int) (r : Int) : Bool := decide (0 ≤ atI s r p)
theorem freeB_eq (s : List Fm) (p : Int) (xs : List Int) : freeB s p xs = !(xs.any (standsB s p)) := by
  unfold freeB standsB
  induction xs with
  | nil => rfl
  | cons x xs ih =>
    rw [List.all_cons, List.any_cons, ih, Bool.not_or]
    congr 1
    by_cases h : 0 ≤ atI s x p
    · rw [decide_eq_true h, decide_eq_false (by omega)]; rfl
    · rw [decide_eq_false h, decide_eq_true (by omega)]; rfl

set_option maxRecDepth 100000 in
set_option maxHeartbeats 2000000 in
theorem free1_any (w : World) (B : Nat) (a : Option Addr) (c : Nat) (l : List Fr) (h : StackAt w B a c l) (r p : Int) (b1 b2 : Nat) (h1 : w.cell? ⟨b1, 0, none⟩ = some (.pointer (some ⟨B, 0, none⟩))) (h2 : w.cell? ⟨b2, 0, none⟩ = some (.int .i64 p)) :
    Calls Try.prog 44 #[.int .i64 r, .pointer (some ⟨b1, 0, none⟩), .pointer (some ⟨b2, 0, none⟩)] w fun e w' => e = .returned (.bool (standsB (fms l) p r)) ∧ Chg [] w w' := by
  have hat := atS_any w B a c l h r p
  obtain ⟨k, hk⟩ : ∃ k, k = atI (fms l) r p := ⟨_, rfl⟩
  unfold standsB
  rw [← hk] at hat ⊢
  clear h hk
  go_enter Try.func44, Try.ntmps44
  go_wp2_with fail
  refine hat.mono ?_
  clear hat
  rintro e w2 ⟨rfl, hc⟩
  by_cases hz : 0 ≤ k
  · go_wp2_with fail
    go_ret
    exact ⟨ret_bool (by simp [hz]), hc⟩
  · go_wp2_with fail
    go_ret
    exact ⟨ret_bool (by simp [hz]), hc⟩
end Go.Proofs.Ytnajhcoimohcaaa

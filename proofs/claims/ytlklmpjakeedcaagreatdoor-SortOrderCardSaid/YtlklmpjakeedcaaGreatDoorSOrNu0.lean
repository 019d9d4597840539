/-
  What may match nothing, as plain data: by kinds, by rounds; what the rounds end in.
  Conditions: none.
-/
import Derived.Test.YtlklmpjakeedcaaGreatDoorSOrPlain
set_option linter.unusedVariables false
set_option linter.unusedSimpArgs false
namespace Go.Proofs.YtlklmpjakeedcaaGreatDoor

/-! ### 1. A node, by its kids and a rule's answer -/
/-- The kinds that always may. -/
def easyK (k : Int) : Bool := decide (k = 1 ∨ k = 8 ∨ k = 10 ∨ k = 11 ∨ k = 12)
def kindMay (x : Nd) (C F : Int → Bool) : Bool :=
  if easyK x.k then true else if x.k = 6 ∨ x.k = 9 then x.kids.all F else if x.k = 7 then x.kids.any F else if x.k = 5 then C x.r else false
def mayF (ns : List Nd) (C : Int → Bool) : Nat → Int → Bool
  | 0, _ => false
  | f + 1, n => if n < 0 then false else match ns[n.toNat]? with | none => false | some x => kindMay x C (mayF ns C f)
/-- May a node match nothing, where rules answer C? -/
def mayN (ns : List Nd) (C : Int → Bool) (n : Int) : Bool := mayF ns C ns.length n
/-- Each kid stands behind its node. -/
def Falls (ns : List Nd) : Prop := ∀ n (h : n < ns.length), ∀ k ∈ ns[n].kids, (n : Int) < k ∧ k < ns.length

theorem kindMay_congr {x : Nd} {C D F G : Int → Bool} (hC : C x.r = D x.r) (hF : ∀ k ∈ x.kids, F k = G k) : kindMay x C F = kindMay x D G := by
  have h1 : x.kids.all F = x.kids.all G := by
    rw [Bool.eq_iff_iff, List.all_eq_true, List.all_eq_true]
    exact ⟨fun h k hk => (hF k hk) ▸ h k hk, fun h k hk => (hF k hk).symm ▸ h k hk⟩
  have h2 : x.kids.any F = x.kids.any G := by
    rw [Bool.eq_iff_iff, List.any_eq_true, List.any_eq_true]
    exact ⟨fun ⟨k, hk, h⟩ => ⟨k, hk, (hF k hk) ▸ h⟩, fun ⟨k, hk, h⟩ => ⟨k, hk, (hF k hk).symm ▸ h⟩⟩
  simp only [kindMay, h1, h2, hC]
theorem kindMay_mono {x : Nd} {C D F G : Int → Bool} (hC : C x.r = true → D x.r = true) (hF : ∀ k ∈ x.kids, F k = true → G k = true) (h : kindMay x C F = true) : kindMay x D G = true := by
  simp only [kindMay] at h ⊢
  split
  · rfl
  · rename_i h0
    rw [if_neg h0] at h
    split
    · rename_i h1
      rw [if_pos h1, List.all_eq_true] at h
      rw [List.all_eq_true]
      exact fun k hk => hF k hk (h k hk)
    · rename_i h1
      rw [if_neg h1] at h
      split
      · rename_i h2
        rw [if_pos h2, List.any_eq_true] at h
        rw [List.any_eq_true]
        obtain ⟨k, hk, h⟩ := h
        exact ⟨k, hk, hF k hk h⟩
      · rename_i h2
        rw [if_neg h2] at h
        split
        · rename_i h3
          rw [if_pos h3] at h
          exact hC h
        · rename_i h3
          rw [if_neg h3] at h
          cases h
/-- Fuel enough is enough. -/
theorem mayF_fuel {ns : List Nd} (hf : Falls ns) (C : Int → Bool) : ∀ (d : Nat) (n : Nat) (f g : Nat), ns.length - n ≤ d → ns.length - n ≤ f → ns.length - n ≤ g → mayF ns C f n = mayF ns C g n := by
  intro d
  induction d with
  | zero =>
    intro n f g hd h1 h2
    have hn : ns[n]? = none := List.getElem?_eq_none (by omega)
    have key : ∀ f, mayF ns C f n = false := fun f => by
      cases f with
      | zero => rfl
      | succ f => simp [mayF, hn]
    rw [key, key]
  | succ d ih =>
    intro n f g hd h1 h2
    by_cases hn : n < ns.length
    · cases f with
      | zero => omega
      | succ f =>
        cases g with
        | zero => omega
        | succ g =>
          have hx : ns[n]? = some ns[n] := List.getElem?_eq_getElem hn
          simp only [mayF, Int.toNat_natCast, hx]
          split
          · rfl
          · refine kindMay_congr rfl (fun k hk => ?_)
            obtain ⟨k1, k2⟩ := hf n hn k hk
            obtain ⟨j, rfl⟩ : ∃ j : Nat, k = j := ⟨k.toNat, by omega⟩
            exact ih j f g (by omega) (by omega) (by omega)
    · have hn : ns[n]? = none := List.getElem?_eq_none (by omega)
      have key : ∀ f, mayF ns C f n = false := fun f => by
        cases f with
        | zero => rfl
        | succ f => simp [mayF, hn]
      rw [key, key]
/-- THE ONE EQUATION of a node. -/
theorem mayN_eq {ns : List Nd} (hf : Falls ns) (C : Int → Bool) {n : Nat} (hn : n < ns.length) : mayN ns C n = kindMay ns[n] C (mayN ns C) := by
  unfold mayN
  rw [mayF_fuel hf C ns.length n ns.length (ns.length + 1) (by omega) (by omega) (by omega)]
  have hx : ns[n]? = some ns[n] := List.getElem?_eq_getElem hn
  simp only [mayF, Int.toNat_natCast, hx, if_neg (show ¬ ((n : Int) < 0) by omega)]
/-- Whatever meets the equation at each node is it. -/
theorem mayN_uniq {ns : List Nd} (hf : Falls ns) (C M : Int → Bool) (h : ∀ n (hn : n < ns.length), M n = kindMay ns[n] C M) : ∀ n, n < ns.length → M n = mayN ns C n := by
  have key : ∀ d n, ns.length - n ≤ d → n < ns.length → M n = mayN ns C n := by
    intro d
    induction d with
    | zero => intro n _ _; omega
    | succ d ih =>
      intro n hd hn
      rw [h n hn, mayN_eq hf C hn]
      refine kindMay_congr rfl (fun k hk => ?_)
      obtain ⟨k1, k2⟩ := hf n hn k hk
      obtain ⟨j, rfl⟩ : ∃ j : Nat, k = j := ⟨k.toNat, by omega⟩
      exact ih j (by omega) (by omega)
  exact fun n hn => key _ n (Nat.le_refl _) hn
theorem mayF_congr {ns : List Nd} {C D : Int → Bool} (h : ∀ r, C r = D r) : C = D := funext h
theorem mayF_mono {ns : List Nd} {C D : Int → Bool} (h : ∀ r, C r = true → D r = true) : ∀ (f : Nat) (n : Int), mayF ns C f n = true → mayF ns D f n = true := by
  intro f
  induction f with
  | zero => intro n h0; cases h0
  | succ f ih =>
    intro n h0
    simp only [mayF] at h0 ⊢
    split
    · rename_i hn; rw [if_pos hn] at h0; cases h0
    · rename_i hn
      rw [if_neg hn] at h0
      split at h0
      · cases h0
      · exact kindMay_mono (h _) (fun k _ => ih k) h0
theorem mayN_mono {ns : List Nd} {C D : Int → Bool} (h : ∀ r, C r = true → D r = true) {n : Int} (h0 : mayN ns C n = true) : mayN ns D n = true := mayF_mono h _ _ h0

/-! ### 2. Ranks, by rounds -/
/-- A rule's rank when so many rounds are over; 0: it is not in. -/
def rk (g : Gr) : Nat → Nat → Nat
  | 0, _ => 0
  | j + 1, i => if rk g j i = 0 then (match g.rules[i]? with | none => 0 | some r => if mayN g.nodes (fun q => decide (0 ≤ q) && decide (0 < rk g j q.toNat)) r.body then j + 1 else 0) else rk g j i
/-- What a call may, when so many rounds are over. -/
def callsR (g : Gr) (j : Nat) (q : Int) : Bool := decide (0 ≤ q) && decide (0 < rk g j q.toNat)
def mayR (g : Gr) (j : Nat) (n : Int) : Bool := mayN g.nodes (callsR g j) n
theorem rk_succ (g : Gr) (j i : Nat) : rk g (j + 1) i = if rk g j i = 0 then (match g.rules[i]? with | none => 0 | some r => if mayR g j r.body then j + 1 else 0) else rk g j i := rfl
theorem rk_step (g : Gr) (j : Nat) {i : Nat} (hi : i < g.rules.length) : rk g (j + 1) i = if rk g j i = 0 ∧ mayR g j g.rules[i].body = true then j + 1 else rk g j i := by
  rw [rk_succ, List.getElem?_eq_getElem hi]
  by_cases h : rk g j i = 0
  · by_cases hm : mayR g j g.rules[i].body = true
    · simp [h, hm]
    · simp [h, hm]
  · simp [h]
theorem rk_out (g : Gr) (j : Nat) {i : Nat} (hi : g.rules.length ≤ i) : rk g j i = 0 := by
  induction j with
  | zero => rfl
  | succ j ih => rw [rk_succ, List.getElem?_eq_none hi, ih]; rfl
theorem rk_le (g : Gr) (j i : Nat) : rk g j i ≤ j := by
  induction j with
  | zero => exact Nat.le_refl _
  | succ j ih =>
    rw [rk_succ]
    split
    · split
      · exact Nat.zero_le _
      · split
        · exact Nat.le_refl _
        · exact Nat.zero_le _
    · exact Nat.le_succ_of_le ih
theorem rk_keep {g : Gr} {j i : Nat} (h : 0 < rk g j i) {m : Nat} (hm : j ≤ m) : rk g m i = rk g j i := by
  induction hm with
  | refl => rfl
  | step _ ih => rw [rk_succ, ih, if_neg (by omega)]
/-- Ranks are the rounds: what was known earlier. -/
theorem rk_at {g : Gr} {m i : Nat} {j : Nat} (hj : j ≤ m) : rk g j i = if rk g m i ≤ j then rk g m i else 0 := by
  induction m with
  | zero =>
    obtain rfl : j = 0 := by omega
    simp [rk]
  | succ m ih =>
    by_cases hjm : j = m + 1
    · subst hjm
      rw [if_pos (rk_le _ _ _)]
    · have h := ih (by omega)
      by_cases h0 : rk g m i = 0
      · have h1 := rk_step g m (i := i)
        by_cases hi : i < g.rules.length
        · have h1 := h1 hi
          rw [h0] at h h1
          simp only [Nat.zero_le, if_true] at h
          rw [h, h1]
          split
          · rw [if_neg (by omega)]
          · rfl
        · rw [rk_out g _ (by omega), rk_out g _ (by omega)]; rfl
      · rw [rk_keep (j := m) (by omega) (Nat.le_succ m)]
        exact h
theorem callsR_mono (g : Gr) {j m : Nat} (h : j ≤ m) (q : Int) (hq : callsR g j q = true) : callsR g m q = true := by
  simp only [callsR, Bool.and_eq_true, decide_eq_true_eq] at hq ⊢
  exact ⟨hq.1, by rw [rk_keep hq.2 h]; exact hq.2⟩
theorem mayR_mono (g : Gr) {j m : Nat} (h : j ≤ m) {n : Int} (hn : mayR g j n = true) : mayR g m n = true := mayN_mono (callsR_mono g h) hn
/-- A rule has come in just in the round behind the one that lets its body. -/
theorem rk_pos {g : Gr} {m i : Nat} (hi : i < g.rules.length) (h : 0 < rk g m i) : ∃ j, rk g m i = j + 1 ∧ j < m ∧ mayR g j g.rules[i].body = true ∧ rk g j i = 0 := by
  induction m with
  | zero => simp [rk] at h
  | succ m ih =>
    by_cases h0 : rk g m i = 0
    · have h1 := rk_step g m hi
      by_cases hm : mayR g m g.rules[i].body = true
      · rw [if_pos ⟨h0, hm⟩] at h1
        exact ⟨m, h1, by omega, hm, h0⟩
      · rw [if_neg (fun q => hm q.2)] at h1
        omega
    · rw [rk_keep (j := m) (by omega) (Nat.le_succ m)]
      obtain ⟨j, a, b, c⟩ := ih (by omega)
      exact ⟨j, a, by omega, c⟩
/-- A round that lets nobody in is the end. -/
def Still (g : Gr) (j : Nat) : Prop := ∀ i (hi : i < g.rules.length), rk g j i = 0 → mayR g j g.rules[i].body = false
theorem still_rk {g : Gr} {j : Nat} (h : Still g j) : ∀ m, j ≤ m → ∀ i, rk g m i = rk g j i := by
  intro m hm
  induction hm with
  | refl => exact fun _ => rfl
  | @step m hm ih =>
    intro i
    have hc : callsR g m = callsR g j := funext fun q => by simp only [callsR, ih]
    by_cases hi : i < g.rules.length
    · rw [rk_step g m hi, ih i]
      split
      · rename_i hq
        have h1 := h i hi hq.1
        rw [mayR, hc] at hq
        rw [mayR] at h1
        rw [h1] at hq
        cases hq.2
      · rfl
    · rw [rk_out g _ (by omega), rk_out g _ (by omega)]
theorem still_may {g : Gr} {j : Nat} (h : Still g j) {m : Nat} (hm : j ≤ m) : mayR g m = mayR g j := by
  have hc : callsR g m = callsR g j := funext fun q => by simp only [callsR, still_rk h m hm]
  funext n
  rw [mayR, mayR, hc]
theorem still_up {g : Gr} {j : Nat} (h : Still g j) {m : Nat} (hm : j ≤ m) : Still g m := fun i hi h0 => by
  rw [still_may h hm]
  exact h i hi (by rw [← still_rk h m hm i]; exact h0)
/-- How many are in. -/
def insR (g : Gr) (j : Nat) : Nat := ((List.range g.rules.length).filter fun i => decide (0 < rk g j i)).length
theorem filter_more {α : Type} {p q : α → Bool} : ∀ {l : List α}, (∀ x ∈ l, p x = true → q x = true) → (l.filter p).length ≤ (l.filter q).length ∧ ((∃ x ∈ l, q x = true ∧ p x = false) → (l.filter p).length < (l.filter q).length) := by
  intro l
  induction l with
  | nil => intro _; exact ⟨Nat.le_refl _, fun ⟨x, hx, _⟩ => by cases hx⟩
  | cons y l ih =>
    intro h
    obtain ⟨i1, i2⟩ := ih (fun x hx => h x (List.mem_cons_of_mem _ hx))
    have hy := h y (List.mem_cons_self ..)
    cases hp : p y with
    | true =>
      rw [List.filter_cons_of_pos hp, List.filter_cons_of_pos (hy hp)]
      refine ⟨by simpa using i1, fun ⟨x, hx, hq, hn⟩ => ?_⟩
      rcases List.mem_cons.1 hx with rfl | hx
      · rw [hp] at hn; cases hn
      · simpa using i2 ⟨x, hx, hq, hn⟩
    | false =>
      rw [List.filter_cons_of_neg (by simp [hp])]
      cases hq : q y with
      | true =>
        rw [List.filter_cons_of_pos hq]
        exact ⟨by simp; omega, fun _ => by simp; omega⟩
      | false =>
        rw [List.filter_cons_of_neg (by simp [hq])]
        refine ⟨i1, fun ⟨x, hx, hq2, hn⟩ => ?_⟩
        rcases List.mem_cons.1 hx with rfl | hx
        · rw [hq] at hq2; cases hq2
        · exact i2 ⟨x, hx, hq2, hn⟩
theorem ins_step (g : Gr) (j : Nat) : Still g j ∨ insR g j < insR g (j + 1) := by
  by_cases h : Still g j
  · exact .inl h
  · refine .inr ((filter_more (fun i hi h0 => ?_)).2 ?_)
    · simp only [decide_eq_true_eq] at h0 ⊢
      rw [rk_keep h0 (Nat.le_succ j)]; exact h0
    · simp only [Still, Classical.not_forall, Bool.not_eq_false] at h
      obtain ⟨i, hi, h0, hm⟩ := h
      refine ⟨i, List.mem_range.2 hi, ?_, ?_⟩
      · rw [rk_step g j hi, if_pos ⟨h0, hm⟩]; simp
      · simp [h0]
theorem ins_le (g : Gr) (j : Nat) : insR g j ≤ g.rules.length := by
  have := List.length_filter_le (fun i => decide (0 < rk g j i)) (List.range g.rules.length)
  simpa [insR] using this
theorem still_or (g : Gr) : ∀ j, Still g j ∨ j ≤ insR g j := by
  intro j
  induction j with
  | zero => exact .inr (Nat.zero_le _)
  | succ j ih =>
    rcases ih with h | h
    · exact .inl (still_up h (Nat.le_succ j))
    · rcases ins_step g j with h1 | h1
      · exact .inl (still_up h1 (Nat.le_succ j))
      · exact .inr (by omega)
/-- As many rounds as rules are enough. -/
theorem still_end (g : Gr) : Still g g.rules.length := by
  rcases still_or g g.rules.length with h | h
  · exact h
  · rcases ins_step g g.rules.length with h1 | h1
    · exact h1
    · have := ins_le g (g.rules.length + 1); omega
/-- While a round lets some in, there have been fewer rounds than rules. -/
theorem round_lt {g : Gr} {j : Nat} (h : ¬ Still g j) : j < g.rules.length := by
  by_cases hj : j < g.rules.length
  · exact hj
  · exact absurd (still_up (still_end g) (by omega)) h
/-- THE ANSWERS. -/
def rankG (g : Gr) (i : Nat) : Nat := rk g g.rules.length i
def mayG (g : Gr) (n : Int) : Bool := mayR g g.rules.length n
theorem rank_still {g : Gr} {j : Nat} (h : Still g j) (i : Nat) : rankG g i = rk g j i := by
  rcases Nat.le_total j g.rules.length with h1 | h1
  · exact still_rk h _ h1 i
  · exact (still_rk (still_end g) _ h1 i).symm
theorem may_still {g : Gr} {j : Nat} (h : Still g j) (n : Int) : mayG g n = mayR g j n := by
  rcases Nat.le_total j g.rules.length with h1 | h1
  · rw [mayG, still_may h h1]
  · rw [mayG, still_may (still_end g) h1]
theorem rank_le (g : Gr) (i : Nat) : rankG g i ≤ g.rules.length := rk_le _ _ _
/-- A rule may just as its body. -/
theorem rank_body {g : Gr} {i : Nat} (hi : i < g.rules.length) : mayG g g.rules[i].body = decide (0 < rankG g i) := by
  by_cases h : 0 < rankG g i
  · obtain ⟨j, h1, h2, h3, _⟩ := rk_pos hi h
    rw [decide_eq_true h]
    exact mayR_mono g (by omega) h3
  · rw [decide_eq_false h]
    exact still_end g i hi (by unfold rankG at h; omega)
/-- By the rules of ranks below r + 1, just those of ranks up to r + 1 may. -/
theorem rank_upto {g : Gr} {i r : Nat} (hi : i < g.rules.length) (hr : r ≤ g.rules.length) : mayR g r g.rules[i].body = decide (0 < rankG g i ∧ rankG g i ≤ r + 1) := by
  have hlow : rk g r i = if rankG g i ≤ r then rankG g i else 0 := rk_at hr
  by_cases h : 0 < rankG g i ∧ rankG g i ≤ r + 1
  · rw [decide_eq_true h]
    obtain ⟨j, h1, h2, h3, _⟩ := rk_pos hi h.1
    unfold rankG at h
    exact mayR_mono g (by omega) h3
  · rw [decide_eq_false h]
    cases hm : mayR g r g.rules[i].body with
    | false => rfl
    | true =>
      exfalso
      apply h
      by_cases h0 : rk g r i = 0
      · have h1 := rk_step g r hi
        rw [if_pos ⟨h0, hm⟩] at h1
        by_cases hrl : r < g.rules.length
        · have h2 : rankG g i = r + 1 := (rk_keep (j := r + 1) (by omega) (by omega)).trans h1
          omega
        · have h2 : rk g (r + 1) i = rankG g i := still_rk (still_end g) _ (by omega) i
          have := rank_le g i
          omega
      · split at hlow <;> omega
end Go.Proofs.YtlklmpjakeedcaaGreatDoor
set_option linter.unusedVariables false
set_option linter.unusedSimpArgs false
namespace Go.Proofs.YtlklmpjakeedcaaGreatDoor

theorem falls_right {g : Gr} (h : rightB g = true) : Falls g.nodes := fun n hn k hk => right_kids h hn k hk
/-- A node put for another. -/
def Gr.put (g : Gr) (c : Nat) (y : Nd) : Gr := ⟨g.rules, g.nodes.set c y⟩
theorem aft_put {ns : List Nd} {c : Nat} {y : Nd} (hy : ∀ x, ns[c]? = some x → y.kids = x.kids) : ∀ (f n : Nat), aft (ns.set c y) f n = aft ns f n := by
  intro f
  induction f with
  | zero => intro n; rfl
  | succ f ih =>
    intro n
    have hF : aft (ns.set c y) f = aft ns f := funext ih
    simp only [aft, hF]
    by_cases hcn : c = n
    · subst hcn
      by_cases hl : c < ns.length
      · rw [List.getElem?_set_self hl, List.getElem?_eq_getElem hl]
        simp only [hy _ (List.getElem?_eq_getElem hl)]
      · rw [List.getElem?_eq_none (by simpa using hl), List.getElem?_eq_none (by simpa using hl)]
    · rw [List.getElem?_set_ne hcn]
theorem chain_put {g : Gr} {c : Nat} {y : Nd} (hy : ∀ x, g.nodes[c]? = some x → y.kids = x.kids) : ∀ (rs : List Rl) (i n : Nat), chain (g.put c y) rs i n = chain g rs i n := by
  intro rs
  induction rs with
  | nil => intro i n; rfl
  | cons r rs ih =>
    intro i n
    have hF : aft (g.put c y).nodes = aft g.nodes := by funext f n; exact aft_put hy f n
    have ih' : ∀ i n, chain (g.put c y) rs i n = chain g rs i n := ih
    simp only [chain, hF, ih']
    rfl
theorem right_put {g : Gr} (h : rightB g = true) {c : Nat} (hc : c < g.nodes.length) {y : Nd} (hy : y.kids = g.nodes[c].kids) (hn : nodeB y g.rules.length = true) : rightB (g.put c y) = true := by
  have hy' : ∀ x, g.nodes[c]? = some x → y.kids = x.kids := fun x hx => by rw [List.getElem?_eq_getElem hc] at hx; cases hx; exact hy
  simp only [rightB, Bool.and_eq_true, beq_iff_eq] at h ⊢
  obtain ⟨⟨h1, h2⟩, h3⟩ := h
  refine ⟨⟨?_, ?_⟩, ?_⟩
  · show (decide (1 ≤ g.rules.length) && decide (g.rules.length ≤ 32) && decide ((g.nodes.set c y).length ≤ 2048)) = true
    rw [List.length_set]; exact h1
  · simp only [allB, List.all_eq_true] at h2 ⊢
    intro x hx
    rcases List.mem_or_eq_of_mem_set hx with hx | rfl
    · exact h2 x hx
    · exact hn
  · show chain (g.put c y) g.rules 0 0 = some (g.put c y).nodes.length
    rw [chain_put hy', h3]
    simp [Gr.put]
/-- More may where the leaf always may. -/
theorem mayF_more {ns : List Nd} {c : Nat} {y : Nd} (hy : easyK y.k = true) {C D : Int → Bool} (h : ∀ r, C r = true → D r = true) : ∀ (f : Nat) (n : Int), mayF ns C f n = true → mayF (ns.set c y) D f n = true := by
  intro f
  induction f with
  | zero => intro n h0; cases h0
  | succ f ih =>
    intro n h0
    simp only [mayF] at h0 ⊢
    split
    · rename_i hn; rw [if_pos hn] at h0; cases h0
    · rename_i hn
      rw [if_neg hn] at h0
      by_cases hcn : c = n.toNat
      · by_cases hl : c < ns.length
        · rw [← hcn, List.getElem?_set_self hl]
          simp only [kindMay, hy, if_true]
        · rw [← hcn, List.getElem?_eq_none (by simpa using hl)] at h0
          cases h0
      · rw [List.getElem?_set_ne hcn]
        split at h0
        · cases h0
        · exact kindMay_mono (h _) (fun k _ => ih k) h0
theorem rk_more {g : Gr} {c : Nat} {y : Nd} (hy : easyK y.k = true) : ∀ (j i : Nat), 0 < rk g j i → 0 < rk (g.put c y) j i := by
  intro j
  induction j with
  | zero => intro i h; simp [rk] at h
  | succ j ih =>
    intro i h
    by_cases h0 : rk (g.put c y) j i = 0
    · have hg : rk g j i = 0 := by
        have := ih i
        omega
      by_cases hi : i < g.rules.length
      · have h1 := rk_step g j hi
        have h2 := rk_step (g.put c y) j (i := i) hi
        have hm : mayR g j g.rules[i].body = true := by
          cases hm : mayR g j g.rules[i].body with
          | true => rfl
          | false => rw [if_neg (by simp [hm]), hg] at h1; omega
        have hmx : mayR (g.put c y) j (g.put c y).rules[i].body = true := by
          have h5 := mayF_more (ns := g.nodes) (c := c) hy (C := callsR g j) (D := callsR (g.put c y) j) (fun r hr => by
            simp only [callsR, Bool.and_eq_true, decide_eq_true_eq] at hr ⊢
            exact ⟨hr.1, ih _ hr.2⟩) g.nodes.length g.rules[i].body hm
          simpa [mayR, mayN, Gr.put] using h5
        rw [h2, if_pos ⟨h0, hmx⟩]
        omega
      · rw [rk_out g _ (by omega)] at h; omega
    · rw [rk_keep (j := j) (by omega) (Nat.le_succ j)]; omega
/-- It comes in no later. -/
theorem rank_more {g : Gr} {c : Nat} {y : Nd} (hy : easyK y.k = true) {i : Nat} (h : 0 < rankG g i) : 0 < rankG (g.put c y) i ∧ rankG (g.put c y) i ≤ rankG g i := by
  have hr := rank_le g i
  have h1 : rk g (rankG g i) i = rankG g i := by
    have := rk_at (g := g) (m := g.rules.length) (i := i) hr
    unfold rankG at this ⊢
    rw [this, if_pos (Nat.le_refl _)]
  have h2 := rk_more (c := c) hy (rankG g i) i (by rw [h1]; exact h)
  have h3 : rankG (g.put c y) i = rk (g.put c y) (rankG g i) i := rk_keep h2 hr
  have h4 := rk_le (g.put c y) (rankG g i) i
  omega
/-- The same may where neither the one leaf may nor the other. -/
theorem mayF_same {ns : List Nd} {c : Nat} {y : Nd} {C : Int → Bool} (hy : ∀ F, kindMay y C F = false) (hc : ∀ x, ns[c]? = some x → ∀ F, kindMay x C F = false) : ∀ (f : Nat) (n : Int), mayF (ns.set c y) C f n = mayF ns C f n := by
  intro f
  induction f with
  | zero => intro n; rfl
  | succ f ih =>
    intro n
    have hF : mayF (ns.set c y) C f = mayF ns C f := funext ih
    simp only [mayF, hF]
    split
    · rfl
    · by_cases hcn : c = n.toNat
      · by_cases hl : c < ns.length
        · rw [← hcn, List.getElem?_set_self hl, List.getElem?_eq_getElem hl]
          simp only [hy, hc _ (List.getElem?_eq_getElem hl)]
        · rw [← hcn, List.getElem?_eq_none (by simpa using hl), List.getElem?_eq_none (by simpa using hl)]
      · rw [List.getElem?_set_ne hcn]
theorem kind_call {x : Nd} (hx : x.k = 5) (C F : Int → Bool) : kindMay x C F = C x.r := by simp [kindMay, easyK, hx]
theorem kind_hard {x : Nd} (hx : x.k = 2 ∨ x.k = 3 ∨ x.k = 4) (C F : Int → Bool) : kindMay x C F = false := by
  rcases hx with h | h | h <;> simp [kindMay, easyK, h]
theorem rk_same {g : Gr} {c : Nat} (hc : c < g.nodes.length) {y : Nd} (hy : y.k = 2) (hk : g.nodes[c].k = 5) (hr : ∀ j, callsR g j g.nodes[c].r = false) : ∀ (j i : Nat), rk (g.put c y) j i = rk g j i := by
  intro j
  induction j with
  | zero => intro i; rfl
  | succ j ih =>
    intro i
    have hC : callsR (g.put c y) j = callsR g j := funext fun q => by simp only [callsR, ih]
    have hm : mayR (g.put c y) j = mayR g j := by
      funext n
      simp only [mayR, hC, mayN]
      have := mayF_same (ns := g.nodes) (c := c) (y := y) (C := callsR g j) (fun F => kind_hard (.inl hy) _ _) (fun x hx F => by
        rw [List.getElem?_eq_getElem hc] at hx; cases hx
        rw [kind_call hk, hr j]) g.nodes.length n
      simpa [Gr.put] using this
    rw [rk_succ, rk_succ, ih i, hm]
    rfl
theorem may_same {g : Gr} {c : Nat} (hc : c < g.nodes.length) {y : Nd} (hy : y.k = 2) (hk : g.nodes[c].k = 5) (hr : rankG g g.nodes[c].r.toNat = 0 ∨ g.nodes[c].r < 0) : (∀ i, rankG (g.put c y) i = rankG g i) ∧ ∀ n, mayG (g.put c y) n = mayG g n := by
  have hr' : ∀ j, callsR g j g.nodes[c].r = false := by
    intro j
    simp only [callsR, Bool.and_eq_false_iff, decide_eq_false_iff_not]
    rcases hr with h | h
    · right
      intro h1
      rcases Nat.le_total j g.rules.length with hj | hj
      · have := rk_keep h1 hj; unfold rankG at h; omega
      · have := still_rk (still_end g) j hj g.nodes[c].r.toNat; unfold rankG at h; omega
    · left; omega
  have h1 := rk_same hc hy hk hr'
  refine ⟨fun i => h1 _ i, fun n => ?_⟩
  have hC : callsR (g.put c y) g.rules.length = callsR g g.rules.length := funext fun q => by simp only [callsR, h1]
  have := mayF_same (ns := g.nodes) (c := c) (y := y) (C := callsR g g.rules.length) (fun F => kind_hard (.inl hy) _ _) (fun x hx F => by
        rw [List.getElem?_eq_getElem hc] at hx; cases hx
        rw [kind_call hk, hr' _]) g.nodes.length n
  show mayN (g.put c y).nodes (callsR (g.put c y) g.rules.length) n = _
  rw [hC, mayN]
  simpa [mayG, mayR, mayN, Gr.put] using this
end Go.Proofs.YtlklmpjakeedcaaGreatDoor
set_option linter.unusedVariables false
set_option linter.unusedSimpArgs false
namespace Go.Proofs.YtlklmpjakeedcaaGreatDoor

def Nd.shift (o : Int) (x : Nd) : Nd := { x with kids := x.kids.map (· + o) }
def movedL (l : List Nd) (o : Int) : List Nd := l.map (Nd.shift o)
theorem movedL_len (l : List Nd) (o : Int) : (movedL l o).length = l.length := by simp [movedL]
theorem shift_shift (a b : Int) (x : Nd) : (x.shift a).shift b = x.shift (a + b) := by
  simp only [Nd.shift, List.map_map]
  congr 1
  refine List.map_congr_left (fun k _ => ?_)
  simp only [Function.comp]; omega
theorem shift_zero (x : Nd) : x.shift 0 = x := by simp [Nd.shift]
theorem movedL_movedL (l : List Nd) (a b : Int) : movedL (movedL l a) b = movedL l (a + b) := by
  simp only [movedL, List.map_map]
  exact List.map_congr_left (fun x _ => shift_shift a b x)
theorem movedL_append (l m : List Nd) (a : Int) : movedL (l ++ m) a = movedL l a ++ movedL m a := by simp [movedL]
/-- The nodes of bodies, one behind the other. -/
def gramN : List (List Nd) → Nat → List Nd
  | [], _ => []
  | b :: bs, o => movedL b o ++ gramN bs (o + b.length)
def gramO : List (List Nd) → Nat → List Int
  | [], _ => []
  | b :: bs, o => (o : Int) :: gramO bs (o + b.length)

/-! ### 1. A segment stands elsewhere -/
def shiftP (d : Nat) (p : Nat × Nat) : Nat × Nat := (p.1 + d, p.2)
theorem aft_embed {ns xs : List Nd} {lo hi d : Nat} (hx : ∀ m, lo ≤ m → m < hi → xs[m + d]? = (ns[m]?).map (Nd.shift d)) :
    ∀ (f F n e h : Nat), lo ≤ n → aft ns F n = some (e, h) → e ≤ hi → aft xs f (n + d) = (aft ns f n).map (shiftP d) := by
  intro f
  induction f with
  | zero => intro F n e h _ _ _; rfl
  | succ f ih =>
    intro F n e h hlo hF he
    have hlt := aft_lt hF
    cases F with
    | zero => omega
    | succ F =>
      simp only [aft] at hF ⊢
      rw [hx n hlo (by omega), List.getElem?_eq_getElem hlt.2.1] at *
      simp only [Option.map_some]
      have hks := kidsAft_le (fun n e h h' => Nat.le_of_lt (aft_lt h').1) hF
      rw [show n + d + 1 = n + 1 + d by omega]
      -- the kids, each ahead of its end
      have key : ∀ (ks : List Int) (next high H e hh : Nat), lo ≤ next → kidsAft (aft ns F) ks next H = some (e, hh) → e ≤ hi →
          kidsAft (aft xs f) (ks.map (· + (d : Int))) (next + d) high = (kidsAft (aft ns f) ks next high).map (shiftP d) := by
        intro ks
        induction ks with
        | nil => intro next high H e hh _ _ _; rfl
        | cons k ks ihk =>
          intro next high H e hh hl h he
          simp only [kidsAft, List.map_cons] at h ⊢
          by_cases hk : k = (next : Int)
          · rw [if_pos hk] at h ⊢
            rw [if_pos (by omega)]
            cases hto : aft ns F next with
            | none => rw [hto] at h; cases h
            | some p =>
              obtain ⟨to, h1⟩ := p
              rw [hto] at h
              simp only at h
              have hle := (kidsAft_le (fun n e h h' => Nat.le_of_lt (aft_lt h').1) h).1
              have hlt2 := aft_lt hto
              rw [ih F next to h1 hl hto (by omega)]
              cases hf : aft ns f next with
              | none => rfl
              | some p =>
                obtain ⟨to2, h2⟩ := p
                have hm1 := aft_mono (Nat.le_max_left f F) hf
                have hm2 := aft_mono (Nat.le_max_right f F) hto
                rw [hm1] at hm2
                cases hm2
                exact ihk to _ _ e hh (by omega) h he
          · rw [if_neg hk] at h
            cases h
      exact key _ _ _ _ _ _ (by omega) hF he

theorem size_aft {g : Gr} (hr : rightB g = true) {n to h : Nat} (ha : aft g.nodes 16 n = some (to, h)) : sizeG g n = ((to - n : Nat) : Int) ∧ n + (to - n) = to ∧ to ≤ g.nodes.length := by
  have h1 := aft_lt ha
  obtain ⟨t, ht, _, _⟩ := right_tab hr
  obtain ⟨z, h', hz, hz1, _, _, h2⟩ := right_aft ht h1.2.1
  rw [ha] at h2
  simp only [Option.some.injEq, Prod.mk.injEq] at h2
  have h3 := (aft_cover ha).1
  refine ⟨?_, by omega, h3⟩
  unfold sizeG
  rw [ht]
  simp only
  rw [if_pos ⟨by omega, by omega⟩]
  simp [hz]; omega

/-! ### 2. Something ahead of each body -/
/-- A rule's body, its kids by their places in the row. -/
def bodyOf (g : Gr) (b : Int) : List Nd := movedL ((g.nodes.drop b.toNat).take (sizeG g b).toNat) (-b)
def wrapL (P : List Nd) (g : Gr) : List (List Nd) := g.rules.map fun r => P ++ movedL (bodyOf g r.body) P.length
def wrapR (rs : List Rl) (os : List Int) : List Rl := List.zipWith (fun r o => ⟨r.name, o⟩) rs os
def wrapG (P : List Nd) (g : Gr) : Gr := ⟨wrapR g.rules (gramO (wrapL P g) 0), gramN (wrapL P g) 0⟩
theorem gramO_len (bs : List (List Nd)) (o : Nat) : (gramO bs o).length = bs.length := by
  induction bs generalizing o with
  | nil => rfl
  | cons b bs ih => simp [gramO, ih]
theorem wrapR_names (rs : List Rl) (os : List Int) (h : os.length = rs.length) : (wrapR rs os).map (·.name) = rs.map (·.name) := by
  induction rs generalizing os with
  | nil => simp [wrapR]
  | cons r rs ih =>
    cases os with
    | nil => cases h
    | cons o os => simp only [wrapR, List.zipWith_cons_cons, List.map_cons]; congr 1; exact ih os (by simpa using h)
theorem ruleN_names {rs rs' : List Rl} (h : rs.map (·.name) = rs'.map (·.name)) (s : ByteArray) : ruleI rs s = ruleI rs' s := by
  have h1 : ∀ rs : List Rl, ruleN rs s = (rs.map (·.name)).findIdx fun n => n.toList == s.toList := fun rs => by rw [ruleN, List.findIdx_map]; rfl
  have h2 : rs.length = rs'.length := by simpa using congrArg List.length h
  rw [ruleI, ruleI, h1, h1, h, h2]
/-- What a front is, to those who measure: so many nodes, and one level. -/
def Front (P : List Nd) : Prop := ∀ (xs : List Nd) (o : Nat), (∀ j (h : j < P.length), xs[o + j]? = some (P[j].shift o)) →
  aft xs 16 o = match aft xs 15 (o + P.length) with | none => none | some (to, h) => some (to, max 2 (1 + h))
theorem bodyOf_at {g : Gr} (hr : rightB g = true) {from_ to h : Nat} (ha : aft g.nodes 16 from_ = some (to, h)) : bodyOf g from_ = movedL ((g.nodes.drop from_).take (to - from_)) (-(from_ : Int)) ∧ (bodyOf g from_).length = to - from_ := by
  obtain ⟨h1, h2, h3⟩ := size_aft hr ha
  have e : bodyOf g from_ = movedL ((g.nodes.drop from_).take (to - from_)) (-(from_ : Int)) := by
    unfold bodyOf; rw [h1]; simp
  refine ⟨e, ?_⟩
  rw [e, movedL_len, List.length_take, List.length_drop]; omega
theorem wrap_chain {P : List Nd} (hP : Front P) {g : Gr} (hr : rightB g = true) (X : Gr) (hn : X.rules.map (·.name) = g.rules.map (·.name)) :
    ∀ (rs : List Rl) (i from_ o : Nat) (A : List Nd), (∀ r ∈ rs, r ∈ g.rules) → chain g rs i from_ = some g.nodes.length → o = from_ + P.length * i → A.length = o →
      X.nodes = A ++ gramN (rs.map fun r => P ++ movedL (bodyOf g r.body) P.length) o →
      chain X (wrapR rs (gramO (rs.map fun r => P ++ movedL (bodyOf g r.body) P.length) o)) i o = if rs.all (fun r => (aft g.nodes 15 r.body.toNat).isSome) then some X.nodes.length else none := by
  intro rs
  induction rs with
  | nil =>
    intro i from_ o A _ h ho hA hX
    simp only [chain, Option.some.injEq] at h
    simp only [wrapR, List.map_nil, gramO, List.zipWith_nil_left, chain, List.all_nil, if_true]
    rw [hX]
    simp [gramN, hA]
  | cons r rs ih =>
    intro i from_ o A hm h ho hA hX
    simp only [chain] at h
    split at h
    · rename_i hc
      simp only [Bool.and_eq_true, decide_eq_true_eq] at hc
      cases ha : aft g.nodes 16 from_ with
      | none => rw [ha] at h; cases h
      | some p =>
        obtain ⟨to, hh⟩ := p
        rw [ha] at h
        simp only at h
        have hlt := aft_lt ha
        obtain ⟨hb1, hb2⟩ := bodyOf_at hr ha
        obtain ⟨_, hs2, hs3⟩ := size_aft hr ha
        rw [← hc.2] at hb1 hb2
        have hbl : (P ++ movedL (bodyOf g r.body) P.length).length = P.length + (to - from_) := by rw [List.length_append, movedL_len, hb2]
        -- where the body's nodes stand
        have hget : ∀ j (hj : j < (P ++ movedL (bodyOf g r.body) P.length).length), X.nodes[o + j]? = some (((P ++ movedL (bodyOf g r.body) P.length)[j]).shift o) := by
          intro j hj
          rw [hX, List.getElem?_append_right (by omega), hA, Nat.add_sub_cancel_left]
          simp only [List.map_cons, gramN]
          rw [List.getElem?_append_left (by rw [movedL_len]; exact hj)]
          generalize P ++ movedL (bodyOf g r.body) P.length = b at hj
          simp only [movedL, List.getElem?_map]
          rw [List.getElem?_eq_getElem hj]
          rfl
        have hfront := hP X.nodes o (fun j hj => by
          rw [hget j (by rw [hbl]; omega)]
          congr 2
          rw [List.getElem_append_left hj])
        have hemb : aft X.nodes 15 (from_ + (o + P.length - from_)) = (aft g.nodes 15 from_).map (shiftP (o + P.length - from_)) := by
          refine aft_embed (lo := from_) (hi := to) (fun m hm1 hm2 => ?_) 15 16 from_ to hh (Nat.le_refl _) ha (Nat.le_refl _)
          rw [show m + (o + P.length - from_) = o + (P.length + (m - from_)) by omega, hget _ (by rw [hbl]; omega)]
          rw [List.getElem_append_right (by omega)]
          simp only [Nat.add_sub_cancel_left]
          have hml : m < g.nodes.length := by omega
          rw [List.getElem?_eq_getElem hml, Option.map_some]
          congr 1
          have h9 : (movedL (bodyOf g r.body) (P.length : Int)) = ((g.nodes.drop from_).take (to - from_)).map (Nd.shift (-(from_ : Int) + (P.length : Int))) := by
            rw [hb1, movedL_movedL, hc.2]; rfl
          simp only [h9, List.getElem_map, List.getElem_take, List.getElem_drop, shift_shift]
          simp only [show from_ + (m - from_) = m by omega]
          congr 1
          omega
        rw [show from_ + (o + P.length - from_) = o + P.length by omega] at hemb
        simp only [List.map_cons, gramO, wrapR, List.zipWith_cons_cons, chain]
        rw [ruleN_names hn, if_pos (by simp only [Bool.and_eq_true, decide_eq_true_eq]; exact ⟨hc.1, trivial⟩), hfront, hemb]
        rw [List.all_cons, show r.body.toNat = from_ by omega]
        cases h15 : aft g.nodes 15 from_ with
        | none => simp
        | some p =>
          obtain ⟨to2, h2⟩ := p
          have hm1 := aft_mono (show 15 ≤ 16 by decide) h15
          rw [ha] at hm1
          cases hm1
          simp only [Option.map_some, Option.isSome_some, Bool.true_and, shiftP]
          have := ih (i + 1) to (o + (P ++ movedL (bodyOf g r.body) P.length).length) (A ++ movedL (P ++ movedL (bodyOf g r.body) P.length) o) (fun q hq => hm q (List.mem_cons_of_mem _ hq)) h
            (by rw [hbl, ho, Nat.mul_add]; omega) (by rw [List.length_append, movedL_len, hA]) (by rw [hX]; simp [gramN])
          rw [wrapR] at this
          rw [show to + (o + P.length - from_) = o + (P ++ movedL (bodyOf g r.body) P.length).length by rw [hbl]; omega]
          exact this
    · cases h
theorem gramN_len : ∀ (bs : List (List Nd)) (o : Nat), (gramN bs o).length = (bs.map List.length).sum := by
  intro bs
  induction bs with
  | nil => intro o; rfl
  | cons b bs ih => intro o; simp [gramN, ih, movedL_len]
theorem gramN_mem : ∀ (bs : List (List Nd)) (o : Nat) (x : Nd), x ∈ gramN bs o → ∃ b ∈ bs, ∃ y ∈ b, ∃ s, x = y.shift s := by
  intro bs
  induction bs with
  | nil => intro o x hx; cases hx
  | cons b bs ih =>
    intro o x hx
    simp only [gramN, List.mem_append] at hx
    rcases hx with hx | hx
    · simp only [movedL, List.mem_map] at hx
      obtain ⟨y, hy, rfl⟩ := hx
      exact ⟨b, List.mem_cons_self .., y, hy, _, rfl⟩
    · obtain ⟨b', hb, r⟩ := ih _ x hx
      exact ⟨b', List.mem_cons_of_mem _ hb, r⟩
theorem nodeB_shift (x : Nd) (s q : Int) : nodeB (x.shift s) q = nodeB x q := by simp [nodeB, Nd.shift]
theorem wrap_sum {P : List Nd} {g : Gr} (hr : rightB g = true) : ∀ (rs : List Rl) (i from_ : Nat), chain g rs i from_ = some g.nodes.length →
    ((rs.map fun r => P ++ movedL (bodyOf g r.body) P.length).map List.length).sum + from_ = g.nodes.length + P.length * rs.length := by
  intro rs
  induction rs with
  | nil => intro i from_ h; simp only [chain, Option.some.injEq] at h; simp [h]
  | cons r rs ih =>
    intro i from_ h
    simp only [chain] at h
    split at h
    · rename_i hc
      simp only [Bool.and_eq_true, decide_eq_true_eq] at hc
      cases ha : aft g.nodes 16 from_ with
      | none => rw [ha] at h; cases h
      | some p =>
        obtain ⟨to, hh⟩ := p
        rw [ha] at h
        simp only at h
        have hlt := aft_lt ha
        obtain ⟨hb1, hb2⟩ := bodyOf_at hr ha
        rw [← hc.2] at hb2
        have := ih _ _ h
        simp only [List.map_cons, List.sum_cons, List.length_append, movedL_len, hb2, List.length_cons, Nat.mul_add]
        omega
    · cases h
/-- A grammar with a front ahead of each body is right just if no body is too high. -/
theorem wrap_right {P : List Nd} (hP : Front P) {g : Gr} (hr : rightB g = true) (hq : ∀ x ∈ P, ∀ q, nodeB x q = true) (hs : g.nodes.length + P.length * g.rules.length ≤ 2048) :
    rightB (wrapG P g) = g.rules.all fun r => (aft g.nodes 15 r.body.toNat).isSome := by
  have hrl : (wrapG P g).rules.length = g.rules.length := by
    have := congrArg List.length (wrapR_names g.rules (gramO (wrapL P g) 0) (by rw [gramO_len]; simp [wrapL]))
    simpa [wrapG] using this
  have h0 := hr
  simp only [rightB, Bool.and_eq_true, beq_iff_eq] at hr
  obtain ⟨⟨h1, h2⟩, h3⟩ := hr
  have hnl : (wrapG P g).nodes.length = g.nodes.length + P.length * g.rules.length := by
    have := wrap_sum (P := P) h0 g.rules 0 0 h3
    simp only [wrapG, gramN_len, wrapL]
    omega
  have hsz : sizesB (wrapG P g) = true := by
    simp only [sizesB, hrl, hnl, Bool.and_eq_true, decide_eq_true_eq] at h1 ⊢
    exact ⟨h1.1, hs⟩
  have hall : allB (wrapG P g) = true := by
    simp only [allB, hrl, List.all_eq_true] at h2 ⊢
    intro x hx
    obtain ⟨b, hb, y, hy, s, rfl⟩ := gramN_mem _ _ _ hx
    rw [nodeB_shift]
    simp only [wrapL, List.mem_map] at hb
    obtain ⟨r, _, rfl⟩ := hb
    rcases List.mem_append.1 hy with hy | hy
    · exact hq y hy _
    · simp only [movedL, List.mem_map] at hy
      obtain ⟨z, hz, rfl⟩ := hy
      rw [nodeB_shift]
      simp only [bodyOf, movedL, List.mem_map] at hz
      obtain ⟨u, hu, rfl⟩ := hz
      rw [nodeB_shift]
      exact h2 u (List.mem_of_mem_drop (List.mem_of_mem_take hu))
  have hch := wrap_chain hP h0 (wrapG P g) (wrapR_names g.rules (gramO (wrapL P g) 0) (by rw [gramO_len]; simp [wrapL])) g.rules 0 0 0 [] (fun r h => h) h3 (by omega) rfl (by simp [wrapG, wrapL])
  have hch' : chain (wrapG P g) (wrapG P g).rules 0 0 = _ := hch
  simp only [rightB, hsz, hall, hch', Bool.true_and]
  split
  · rename_i h; simp [h]
  · rename_i h; simp only [Bool.not_eq_true] at h; rw [h]; rfl
def bareN (k : Int) : Nd := ⟨k, 0, 0, 0, 0, ⟨#[]⟩, 0, 0, []⟩
def hardP : List Nd := [{ bareN 6 with kids := [1, 2] }, bareN 2]
def softP : List Nd := [{ bareN 10 with kids := [1] }]
theorem front_hard : Front hardP := by
  intro xs o h
  have h0 := h 0 (by decide)
  have h1 := h 1 (by decide)
  simp only [hardP, List.getElem_cons_zero, List.getElem_cons_succ, Nat.add_zero] at h0 h1
  have e1 : aft xs 15 (o + 1) = some (o + 1 + 1, 1) := by
    simp only [aft, h1]; rfl
  show aft xs (15 + 1) o = _
  rw [aft, h0]
  simp only [Nd.shift, bareN, List.map_cons, List.map_nil, kidsAft]
  rw [if_pos (by omega), e1]
  simp only
  rw [if_pos (by omega)]
  show (match aft xs 15 (o + 2) with | none => none | some (to, h) => some (to, max (max 1 (1 + 1)) (1 + h))) = _
  rfl
theorem front_soft : Front softP := by
  intro xs o h
  have h0 := h 0 (by decide)
  simp only [softP, List.getElem_cons_zero, Nat.add_zero] at h0
  show aft xs (15 + 1) o = _
  rw [aft, h0]
  simp only [Nd.shift, bareN, List.map_cons, List.map_nil, kidsAft]
  rw [if_pos (by omega)]
  cases ha : aft xs 15 (o + 1) with
  | none => simp [softP, ha]
  | some p =>
    obtain ⟨to, h⟩ := p
    have := (aft_lt ha).2.2.1
    simp only [softP, List.length_singleton, ha]
    simp; omega
end Go.Proofs.YtlklmpjakeedcaaGreatDoor
set_option linter.unusedVariables false
set_option linter.unusedSimpArgs false
namespace Go.Proofs.YtlklmpjakeedcaaGreatDoor

theorem gram_at : ∀ (bs : List (List Nd)) (o i : Nat) (h : i < bs.length), ∃ oi : Nat, (gramO bs o)[i]? = some (oi : Int) ∧ o ≤ oi ∧ ∀ j (hj : j < bs[i].length), (gramN bs o)[oi - o + j]? = some (bs[i][j].shift oi) := by
  intro bs
  induction bs with
  | nil => intro o i h; cases h
  | cons b bs ih =>
    intro o i h
    cases i with
    | zero =>
      refine ⟨o, by simp [gramO], Nat.le_refl _, fun j hj => ?_⟩
      simp only [List.getElem_cons_zero] at hj ⊢
      simp only [gramN, Nat.sub_self, Nat.zero_add]
      rw [List.getElem?_append_left (by rw [movedL_len]; exact hj)]
      simp only [movedL, List.getElem?_map]
      rw [List.getElem?_eq_getElem hj]
      rfl
    | succ i =>
      obtain ⟨oi, h1, h2, h3⟩ := ih (o + b.length) i (by simpa using h)
      refine ⟨oi, by simpa [gramO] using h1, by omega, fun j hj => ?_⟩
      simp only [List.getElem_cons_succ] at hj ⊢
      have := h3 j hj
      simp only [gramN]
      rw [List.getElem?_append_right (by rw [movedL_len]; omega), movedL_len, show oi - o + j - b.length = oi - (o + b.length) + j by omega]
      exact this
theorem wrap_at {P : List Nd} {g : Gr} {i : Nat} (hi : i < g.rules.length) : ∃ (oi : Nat) (h : i < (wrapG P g).rules.length), (wrapG P g).rules[i].body = (oi : Int) ∧ ∀ j (hj : j < P.length), (wrapG P g).nodes[oi + j]? = some (P[j].shift oi) := by
  have hl : i < (wrapL P g).length := by simpa [wrapL] using hi
  obtain ⟨oi, h1, h2, h3⟩ := gram_at (wrapL P g) 0 i hl
  have ho := (List.getElem?_eq_some_iff.1 h1)
  obtain ⟨h4, h5⟩ := ho
  have hrl : i < (wrapG P g).rules.length := by
    simp only [wrapG, wrapR, List.length_zipWith]
    omega
  refine ⟨oi, hrl, by simp only [wrapG, wrapR, List.getElem_zipWith]; exact h5, fun j hj => ?_⟩
  have hw : (wrapL P g)[i] = P ++ movedL (bodyOf g g.rules[i].body) P.length := by simp [wrapL]
  have := h3 j (by rw [hw, List.length_append]; omega)
  rw [Nat.sub_zero] at this
  show (gramN (wrapL P g) 0)[oi + j]? = _
  rw [this]
  congr 2
  simp only [hw]
  rw [List.getElem_append_left hj]
theorem wrap_rules (P : List Nd) (g : Gr) : (wrapG P g).rules.length = g.rules.length := by
  have := congrArg List.length (wrapR_names g.rules (gramO (wrapL P g) 0) (by rw [gramO_len]; simp [wrapL]))
  simpa [wrapG] using this
theorem hard_rk {g : Gr} (hx : rightB (wrapG hardP g) = true) : ∀ j i, rk (wrapG hardP g) j i = 0 := by
  intro j
  induction j with
  | zero => intro i; rfl
  | succ j ih =>
    intro i
    by_cases hi : i < (wrapG hardP g).rules.length
    · rw [rk_step _ j hi, if_neg, ih i]
      rintro ⟨_, hm⟩
      obtain ⟨oi, h, hb, hn⟩ := wrap_at (P := hardP) (g := g) (i := i) (by rw [← wrap_rules hardP]; exact hi)
      have n0 : (wrapG hardP g).nodes[oi]? = some (Nd.shift oi { bareN 6 with kids := [1, 2] }) := hn 0 (by decide)
      have n1 : (wrapG hardP g).nodes[oi + 1]? = some (Nd.shift oi (bareN 2)) := hn 1 (by decide)
      obtain ⟨l0, n0⟩ := List.getElem?_eq_some_iff.1 n0
      obtain ⟨l1, n1⟩ := List.getElem?_eq_some_iff.1 n1
      have hf := falls_right hx
      have e1 : mayN (wrapG hardP g).nodes (callsR (wrapG hardP g) j) ((oi + 1 : Nat) : Int) = false := by
        rw [mayN_eq hf _ l1, n1]; rfl
      rw [hb, mayR, mayN_eq hf _ l0, n0] at hm
      rw [show ((oi + 1 : Nat) : Int) = (oi : Int) + 1 by omega] at e1
      simp [kindMay, easyK, Nd.shift, bareN] at hm
      have e2 := hm.1
      rw [show (1 : Int) + oi = oi + 1 by omega] at e2
      first
      | (rw [e1] at e2; cases e2)
      | (rw [e1] at hm; cases hm.1)
    · exact rk_out _ _ (by omega)
theorem hard_rank {g : Gr} (hx : rightB (wrapG hardP g) = true) (i : Nat) : rankG (wrapG hardP g) i = 0 := hard_rk hx _ i
theorem hard_call {g : Gr} (hx : rightB (wrapG hardP g) = true) {n : Nat} (hn : n < (wrapG hardP g).nodes.length) (hk : (wrapG hardP g).nodes[n].k = 5) : mayG (wrapG hardP g) n = false := by
  rw [mayG, mayR, mayN_eq (falls_right hx) _ hn, kind_call hk]
  simp [callsR, hard_rk hx]
theorem soft_rank {g : Gr} (hx : rightB (wrapG softP g) = true) {i : Nat} (hi : i < g.rules.length) : rankG (wrapG softP g) i = 1 := by
  obtain ⟨oi, h, hb, hn⟩ := wrap_at (P := softP) (g := g) hi
  have n0 : (wrapG softP g).nodes[oi]? = some (Nd.shift oi { bareN 10 with kids := [1] }) := hn 0 (by decide)
  obtain ⟨l0, n0⟩ := List.getElem?_eq_some_iff.1 n0
  have h1 := rk_step (wrapG softP g) 0 h
  rw [if_pos ⟨rfl, by rw [hb, mayR, mayN_eq (falls_right hx) _ l0, n0]; rfl⟩] at h1
  have hl := wrap_rules softP g
  have h2 : 0 < rk (wrapG softP g) (0 + 1) i := by rw [h1]; exact Nat.zero_lt_one
  exact (rk_keep (j := 0 + 1) h2 (by omega)).trans h1
end Go.Proofs.YtlklmpjakeedcaaGreatDoor

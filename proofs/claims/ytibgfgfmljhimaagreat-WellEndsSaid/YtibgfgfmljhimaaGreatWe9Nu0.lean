/-
  What may match nothing, as plain data: by kinds, by rounds; what the rounds end in.
  Conditions: none.
-/
import Derived.Test.YtibgfgfmljhimaaGreatWe9Plain
set_option linter.unusedVariables false
set_option linter.unusedSimpArgs false
namespace Go.Proofs.YtibgfgfmljhimaaGreat

/-! ### 1. A node, by its kids and a rule's answer -/
/-- The kinds that always may. -/
def easyK (k : Int) : Bool := decide (k = 1 ∨ k = 8 ∨ k = 10 ∨ k = 11 ∨ k = 12)
def kindMay (x : Nd) (C F : Int → Bool) : Bool :=
  if easyK x.k then true else if x.k = 6 ∨ x.k = 9 then x.kids.all F else if x.k = 7 then x.kids.any F else if x.k = 5 then C x.r else false
def mayF (ns : List Nd) (C : Int → Bool) : Nat → Int → Bool
  | 0, _ => false
  | f + 1, n => if n < 0 then false else match ns[n.toNat]? with | none => false | some x => kindMay x C (mayF ns C f)
/-- May a node match nothing, where rules answer C? -/
def mayN (ns : List Nd) (C : Int → Bool) (n : Int) : Bool := mayF ns C ns.length n
/-- Each kid stands behind its node. -/
def Falls (ns : List Nd) : Prop := ∀ n (h : n < ns.length), ∀ k ∈ ns[n].kids, (n : Int) < k ∧ k < ns.length

theorem kindMay_congr {x : Nd} {C D F G : Int → Bool} (hC : C x.r = D x.r) (hF : ∀ k ∈ x.kids, F k = G k) : kindMay x C F = kindMay x D G := by
  have h1 : x.kids.all F = x.kids.all G := by
    rw [Bool.eq_iff_iff, List.all_eq_true, List.all_eq_true]
    exact ⟨fun h k hk => (hF k hk) ▸ h k hk, fun h k hk => (hF k hk).symm ▸ h k hk⟩
  have h2 : x.kids.any F = x.kids.any G := by
    rw [Bool.eq_iff_iff, List.any_eq_true, List.any_eq_true]
    exact ⟨fun ⟨k, hk, h⟩ => ⟨k, hk, (hF k hk) ▸ h⟩, fun ⟨k, hk, h⟩ => ⟨k, hk, (hF k hk).symm ▸ h⟩⟩
  simp only [kindMay, h1, h2, hC]
theorem kindMay_mono {x : Nd} {C D F G : Int → Bool} (hC : C x.r = true → D x.r = true) (hF : ∀ k ∈ x.kids, F k = true → G k = true) (h : kindMay x C F = true) : kindMay x D G = true := by
  simp only [kindMay] at h ⊢
  split
  · rfl
  · rename_i h0
    rw [if_neg h0] at h
    split
    · rename_i h1
      rw [if_pos h1, List.all_eq_true] at h
      rw [List.all_eq_true]
      exact fun k hk => hF k hk (h k hk)
    · rename_i h1
      rw [if_neg h1] at h
      split
      · rename_i h2
        rw [if_pos h2, List.any_eq_true] at h
        rw [List.any_eq_true]
        obtain ⟨k, hk, h⟩ := h
        exact ⟨k, hk, hF k hk h⟩
      · rename_i h2
        rw [if_neg h2] at h
        split
        · rename_i h3
          rw [if_pos h3] at h
          exact hC h
        · rename_i h3
          rw [if_neg h3] at h
          cases h
/-- Fuel enough is enough. -/
theorem mayF_fuel {ns : List Nd} (hf : Falls ns) (C : Int → Bool) : ∀ (d : Nat) (n : Nat) (f g : Nat), ns.length - n ≤ d → ns.length - n ≤ f → ns.length - n ≤ g → mayF ns C f n = mayF ns C g n := by
  intro d
  induction d with
  | zero =>
    intro n f g hd h1 h2
    have hn : ns[n]? = none := List.getElem?_eq_none (by omega)
    have key : ∀ f, mayF ns C f n = false := fun f => by
      cases f with
      | zero => rfl
      | succ f => simp [mayF, hn]
    rw [key, key]
  | succ d ih =>
    intro n f g hd h1 h2
    by_cases hn : n < ns.length
    · cases f with
      | zero => omega
      | succ f =>
        cases g with
        | zero => omega
        | succ g =>
          have hx : ns[n]? = some ns[n] := List.getElem?_eq_getElem hn
          simp only [mayF, Int.toNat_natCast, hx]
          split
          · rfl
          · refine kindMay_congr rfl (fun k hk => ?_)
            obtain ⟨k1, k2⟩ := hf n hn k hk
            obtain ⟨j, rfl⟩ : ∃ j : Nat, k = j := ⟨k.toNat, by omega⟩
            exact ih j f g (by omega) (by omega) (by omega)
    · have hn : ns[n]? = none := List.getElem?_eq_none (by omega)
      have key : ∀ f, mayF ns C f n = false := fun f => by
        cases f with
        | zero => rfl
        | succ f => simp [mayF, hn]
      rw [key, key]
/-- THE ONE EQUATION of a node. -/
theorem mayN_eq {ns : List Nd} (hf : Falls ns) (C : Int → Bool) {n : Nat} (hn : n < ns.length) : mayN ns C n = kindMay ns[n] C (mayN ns C) := by
  unfold mayN
  rw [mayF_fuel hf C ns.length n ns.length (ns.length + 1) (by omega) (by omega) (by omega)]
  have hx : ns[n]? = some ns[n] := List.getElem?_eq_getElem hn
  simp only [mayF, Int.toNat_natCast, hx, if_neg (show ¬ ((n : Int) < 0) by omega)]
theorem mayF_mono {ns : List Nd} {C D : Int → Bool} (h : ∀ r, C r = true → D r = true) : ∀ (f : Nat) (n : Int), mayF ns C f n = true → mayF ns D f n = true := by
  intro f
  induction f with
  | zero => intro n h0; cases h0
  | succ f ih =>
    intro n h0
    simp only [mayF] at h0 ⊢
    split
    · rename_i hn; rw [if_pos hn] at h0; cases h0
    · rename_i hn
      rw [if_neg hn] at h0
      split at h0
      · cases h0
      · exact kindMay_mono (h _) (fun k _ => ih k) h0
theorem mayN_mono {ns : List Nd} {C D : Int → Bool} (h : ∀ r, C r = true → D r = true) {n : Int} (h0 : mayN ns C n = true) : mayN ns D n = true := mayF_mono h _ _ h0

/-! ### 2. Ranks, by rounds -/
/-- A rule's rank when so many rounds are over; 0: it is not in. -/
def rk (g : Gr) : Nat → Nat → Nat
  | 0, _ => 0
  | j + 1, i => if rk g j i = 0 then (match g.rules[i]? with | none => 0 | some r => if mayN g.nodes (fun q => decide (0 ≤ q) && decide (0 < rk g j q.toNat)) r.body then j + 1 else 0) else rk g j i
/-- What a call may, when so many rounds are over. -/
def callsR (g : Gr) (j : Nat) (q : Int) : Bool := decide (0 ≤ q) && decide (0 < rk g j q.toNat)
def mayR (g : Gr) (j : Nat) (n : Int) : Bool := mayN g.nodes (callsR g j) n
theorem rk_succ (g : Gr) (j i : Nat) : rk g (j + 1) i = if rk g j i = 0 then (match g.rules[i]? with | none => 0 | some r => if mayR g j r.body then j + 1 else 0) else rk g j i := rfl
theorem rk_step (g : Gr) (j : Nat) {i : Nat} (hi : i < g.rules.length) : rk g (j + 1) i = if rk g j i = 0 ∧ mayR g j g.rules[i].body = true then j + 1 else rk g j i := by
  rw [rk_succ, List.getElem?_eq_getElem hi]
  by_cases h : rk g j i = 0
  · by_cases hm : mayR g j g.rules[i].body = true
    · simp [h, hm]
    · simp [h, hm]
  · simp [h]
theorem rk_out (g : Gr) (j : Nat) {i : Nat} (hi : g.rules.length ≤ i) : rk g j i = 0 := by
  induction j with
  | zero => rfl
  | succ j ih => rw [rk_succ, List.getElem?_eq_none hi, ih]; rfl
theorem rk_le (g : Gr) (j i : Nat) : rk g j i ≤ j := by
  induction j with
  | zero => exact Nat.le_refl _
  | succ j ih =>
    rw [rk_succ]
    split
    · split
      · exact Nat.zero_le _
      · split
        · exact Nat.le_refl _
        · exact Nat.zero_le _
    · exact Nat.le_succ_of_le ih
theorem rk_keep {g : Gr} {j i : Nat} (h : 0 < rk g j i) {m : Nat} (hm : j ≤ m) : rk g m i = rk g j i := by
  induction hm with
  | refl => rfl
  | step _ ih => rw [rk_succ, ih, if_neg (by omega)]
/-- Ranks are the rounds: what was known earlier. -/
theorem rk_at {g : Gr} {m i : Nat} {j : Nat} (hj : j ≤ m) : rk g j i = if rk g m i ≤ j then rk g m i else 0 := by
  induction m with
  | zero =>
    obtain rfl : j = 0 := by omega
    simp [rk]
  | succ m ih =>
    by_cases hjm : j = m + 1
    · subst hjm
      rw [if_pos (rk_le _ _ _)]
    · have h := ih (by omega)
      by_cases h0 : rk g m i = 0
      · have h1 := rk_step g m (i := i)
        by_cases hi : i < g.rules.length
        · have h1 := h1 hi
          rw [h0] at h h1
          simp only [Nat.zero_le, if_true] at h
          rw [h, h1]
          split
          · rw [if_neg (by omega)]
          · rfl
        · rw [rk_out g _ (by omega), rk_out g _ (by omega)]; rfl
      · rw [rk_keep (j := m) (by omega) (Nat.le_succ m)]
        exact h
theorem callsR_mono (g : Gr) {j m : Nat} (h : j ≤ m) (q : Int) (hq : callsR g j q = true) : callsR g m q = true := by
  simp only [callsR, Bool.and_eq_true, decide_eq_true_eq] at hq ⊢
  exact ⟨hq.1, by rw [rk_keep hq.2 h]; exact hq.2⟩
theorem mayR_mono (g : Gr) {j m : Nat} (h : j ≤ m) {n : Int} (hn : mayR g j n = true) : mayR g m n = true := mayN_mono (callsR_mono g h) hn
/-- A rule has come in just in the round behind the one that lets its body. -/
theorem rk_pos {g : Gr} {m i : Nat} (hi : i < g.rules.length) (h : 0 < rk g m i) : ∃ j, rk g m i = j + 1 ∧ j < m ∧ mayR g j g.rules[i].body = true ∧ rk g j i = 0 := by
  induction m with
  | zero => simp [rk] at h
  | succ m ih =>
    by_cases h0 : rk g m i = 0
    · have h1 := rk_step g m hi
      by_cases hm : mayR g m g.rules[i].body = true
      · rw [if_pos ⟨h0, hm⟩] at h1
        exact ⟨m, h1, by omega, hm, h0⟩
      · rw [if_neg (fun q => hm q.2)] at h1
        omega
    · rw [rk_keep (j := m) (by omega) (Nat.le_succ m)]
      obtain ⟨j, a, b, c⟩ := ih (by omega)
      exact ⟨j, a, by omega, c⟩
/-- A round that lets nobody in is the end. -/
def Still (g : Gr) (j : Nat) : Prop := ∀ i (hi : i < g.rules.length), rk g j i = 0 → mayR g j g.rules[i].body = false
theorem still_rk {g : Gr} {j : Nat} (h : Still g j) : ∀ m, j ≤ m → ∀ i, rk g m i = rk g j i := by
  intro m hm
  induction hm with
  | refl => exact fun _ => rfl
  | @step m hm ih =>
    intro i
    have hc : callsR g m = callsR g j := funext fun q => by simp only [callsR, ih]
    by_cases hi : i < g.rules.length
    · rw [rk_step g m hi, ih i]
      split
      · rename_i hq
        have h1 := h i hi hq.1
        rw [mayR, hc] at hq
        rw [mayR] at h1
        rw [h1] at hq
        cases hq.2
      · rfl
    · rw [rk_out g _ (by omega), rk_out g _ (by omega)]
theorem still_may {g : Gr} {j : Nat} (h : Still g j) {m : Nat} (hm : j ≤ m) : mayR g m = mayR g j := by
  have hc : callsR g m = callsR g j := funext fun q => by simp only [callsR, still_rk h m hm]
  funext n
  rw [mayR, mayR, hc]
theorem still_up {g : Gr} {j : Nat} (h : Still g j) {m : Nat} (hm : j ≤ m) : Still g m := fun i hi h0 => by
  rw [still_may h hm]
  exact h i hi (by rw [← still_rk h m hm i]; exact h0)
/-- How many are in. -/
def insR (g : Gr) (j : Nat) : Nat := ((List.range g.rules.length).filter fun i => decide (0 < rk g j i)).length
theorem filter_more {α : Type} {p q : α → Bool} : ∀ {l : List α}, (∀ x ∈ l, p x = true → q x = true) → (l.filter p).length ≤ (l.filter q).length ∧ ((∃ x ∈ l, q x = true ∧ p x = false) → (l.filter p).length < (l.filter q).length) := by
  intro l
  induction l with
  | nil => intro _; exact ⟨Nat.le_refl _, fun ⟨x, hx, _⟩ => by cases hx⟩
  | cons y l ih =>
    intro h
    obtain ⟨i1, i2⟩ := ih (fun x hx => h x (List.mem_cons_of_mem _ hx))
    have hy := h y (List.mem_cons_self ..)
    cases hp : p y with
    | true =>
      rw [List.filter_cons_of_pos hp, List.filter_cons_of_pos (hy hp)]
      refine ⟨by simpa using i1, fun ⟨x, hx, hq, hn⟩ => ?_⟩
      rcases List.mem_cons.1 hx with rfl | hx
      · rw [hp] at hn; cases hn
      · simpa using i2 ⟨x, hx, hq, hn⟩
    | false =>
      rw [List.filter_cons_of_neg (by simp [hp])]
      cases hq : q y with
      | true =>
        rw [List.filter_cons_of_pos hq]
        exact ⟨by simp; omega, fun _ => by simp; omega⟩
      | false =>
        rw [List.filter_cons_of_neg (by simp [hq])]
        refine ⟨i1, fun ⟨x, hx, hq2, hn⟩ => ?_⟩
        rcases List.mem_cons.1 hx with rfl | hx
        · rw [hq] at hq2; cases hq2
        · exact i2 ⟨x, hx, hq2, hn⟩
theorem ins_step (g : Gr) (j : Nat) : Still g j ∨ insR g j < insR g (j + 1) := by
  by_cases h : Still g j
  · exact .inl h
  · refine .inr ((filter_more (fun i hi h0 => ?_)).2 ?_)
    · simp only [decide_eq_true_eq] at h0 ⊢
      rw [rk_keep h0 (Nat.le_succ j)]; exact h0
    · simp only [Still, Classical.not_forall, Bool.not_eq_false] at h
      obtain ⟨i, hi, h0, hm⟩ := h
      refine ⟨i, List.mem_range.2 hi, ?_, ?_⟩
      · rw [rk_step g j hi, if_pos ⟨h0, hm⟩]; simp
      · simp [h0]
theorem ins_le (g : Gr) (j : Nat) : insR g j ≤ g.rules.length := by
  have := List.length_filter_le (fun i => decide (0 < rk g j i)) (List.range g.rules.length)
  simpa [insR] using this
theorem still_or (g : Gr) : ∀ j, Still g j ∨ j ≤ insR g j := by
  intro j
  induction j with
  | zero => exact .inr (Nat.zero_le _)
  | succ j ih =>
    rcases ih with h | h
    · exact .inl (still_up h (Nat.le_succ j))
    · rcases ins_step g j with h1 | h1
      · exact .inl (still_up h1 (Nat.le_succ j))
      · exact .inr (by omega)
/-- As many rounds as rules are enough. -/
theorem still_end (g : Gr) : Still g g.rules.length := by
  rcases still_or g g.rules.length with h | h
  · exact h
  · rcases ins_step g g.rules.length with h1 | h1
    · exact h1
    · have := ins_le g (g.rules.length + 1); omega
/-- While a round lets some in, there have been fewer rounds than rules. -/
theorem round_lt {g : Gr} {j : Nat} (h : ¬ Still g j) : j < g.rules.length := by
  by_cases hj : j < g.rules.length
  · exact hj
  · exact absurd (still_up (still_end g) (by omega)) h
/-- THE ANSWERS. -/
def rankG (g : Gr) (i : Nat) : Nat := rk g g.rules.length i
def mayG (g : Gr) (n : Int) : Bool := mayR g g.rules.length n
theorem rank_still {g : Gr} {j : Nat} (h : Still g j) (i : Nat) : rankG g i = rk g j i := by
  rcases Nat.le_total j g.rules.length with h1 | h1
  · exact still_rk h _ h1 i
  · exact (still_rk (still_end g) _ h1 i).symm
theorem rank_le (g : Gr) (i : Nat) : rankG g i ≤ g.rules.length := rk_le _ _ _
/-- A rule may just as its body. -/
theorem rank_body {g : Gr} {i : Nat} (hi : i < g.rules.length) : mayG g g.rules[i].body = decide (0 < rankG g i) := by
  by_cases h : 0 < rankG g i
  · obtain ⟨j, h1, h2, h3, _⟩ := rk_pos hi h
    rw [decide_eq_true h]
    exact mayR_mono g (by omega) h3
  · rw [decide_eq_false h]
    exact still_end g i hi (by unfold rankG at h; omega)
end Go.Proofs.YtibgfgfmljhimaaGreat
set_option linter.unusedVariables false
set_option linter.unusedSimpArgs false
namespace Go.Proofs.YtibgfgfmljhimaaGreat

theorem falls_right {g : Gr} (h : rightB g = true) : Falls g.nodes := fun n hn k hk => right_kids h hn k hk
/-- A node put for another. -/
def Gr.put (g : Gr) (c : Nat) (y : Nd) : Gr := ⟨g.rules, g.nodes.set c y⟩
theorem aft_put {ns : List Nd} {c : Nat} {y : Nd} (hy : ∀ x, ns[c]? = some x → y.kids = x.kids) : ∀ (f n : Nat), aft (ns.set c y) f n = aft ns f n := by
  intro f
  induction f with
  | zero => intro n; rfl
  | succ f ih =>
    intro n
    have hF : aft (ns.set c y) f = aft ns f := funext ih
    simp only [aft, hF]
    by_cases hcn : c = n
    · subst hcn
      by_cases hl : c < ns.length
      · rw [List.getElem?_set_self hl, List.getElem?_eq_getElem hl]
        simp only [hy _ (List.getElem?_eq_getElem hl)]
      · rw [List.getElem?_eq_none (by simpa using hl), List.getElem?_eq_none (by simpa using hl)]
    · rw [List.getElem?_set_ne hcn]
theorem chain_put {g : Gr} {c : Nat} {y : Nd} (hy : ∀ x, g.nodes[c]? = some x → y.kids = x.kids) : ∀ (rs : List Rl) (i n : Nat), chain (g.put c y) rs i n = chain g rs i n := by
  intro rs
  induction rs with
  | nil => intro i n; rfl
  | cons r rs ih =>
    intro i n
    have hF : aft (g.put c y).nodes = aft g.nodes := by funext f n; exact aft_put hy f n
    have ih' : ∀ i n, chain (g.put c y) rs i n = chain g rs i n := ih
    simp only [chain, hF, ih']
    rfl
theorem right_put {g : Gr} (h : rightB g = true) {c : Nat} (hc : c < g.nodes.length) {y : Nd} (hy : y.kids = g.nodes[c].kids) (hn : nodeB y g.rules.length = true) : rightB (g.put c y) = true := by
  have hy' : ∀ x, g.nodes[c]? = some x → y.kids = x.kids := fun x hx => by rw [List.getElem?_eq_getElem hc] at hx; cases hx; exact hy
  simp only [rightB, Bool.and_eq_true, beq_iff_eq] at h ⊢
  obtain ⟨⟨h1, h2⟩, h3⟩ := h
  refine ⟨⟨?_, ?_⟩, ?_⟩
  · show (decide (1 ≤ g.rules.length) && decide (g.rules.length ≤ 32) && decide ((g.nodes.set c y).length ≤ 2048)) = true
    rw [List.length_set]; exact h1
  · simp only [allB, List.all_eq_true] at h2 ⊢
    intro x hx
    rcases List.mem_or_eq_of_mem_set hx with hx | rfl
    · exact h2 x hx
    · exact hn
  · show chain (g.put c y) g.rules 0 0 = some (g.put c y).nodes.length
    rw [chain_put hy', h3]
    simp [Gr.put]
/-- More may where the leaf always may. -/
theorem mayF_more {ns : List Nd} {c : Nat} {y : Nd} (hy : easyK y.k = true) {C D : Int → Bool} (h : ∀ r, C r = true → D r = true) : ∀ (f : Nat) (n : Int), mayF ns C f n = true → mayF (ns.set c y) D f n = true := by
  intro f
  induction f with
  | zero => intro n h0; cases h0
  | succ f ih =>
    intro n h0
    simp only [mayF] at h0 ⊢
    split
    · rename_i hn; rw [if_pos hn] at h0; cases h0
    · rename_i hn
      rw [if_neg hn] at h0
      by_cases hcn : c = n.toNat
      · by_cases hl : c < ns.length
        · rw [← hcn, List.getElem?_set_self hl]
          simp only [kindMay, hy, if_true]
        · rw [← hcn, List.getElem?_eq_none (by simpa using hl)] at h0
          cases h0
      · rw [List.getElem?_set_ne hcn]
        split at h0
        · cases h0
        · exact kindMay_mono (h _) (fun k _ => ih k) h0
theorem rk_more {g : Gr} {c : Nat} {y : Nd} (hy : easyK y.k = true) : ∀ (j i : Nat), 0 < rk g j i → 0 < rk (g.put c y) j i := by
  intro j
  induction j with
  | zero => intro i h; simp [rk] at h
  | succ j ih =>
    intro i h
    by_cases h0 : rk (g.put c y) j i = 0
    · have hg : rk g j i = 0 := by
        have := ih i
        omega
      by_cases hi : i < g.rules.length
      · have h1 := rk_step g j hi
        have h2 := rk_step (g.put c y) j (i := i) hi
        have hm : mayR g j g.rules[i].body = true := by
          cases hm : mayR g j g.rules[i].body with
          | true => rfl
          | false => rw [if_neg (by simp [hm]), hg] at h1; omega
        have hmx : mayR (g.put c y) j (g.put c y).rules[i].body = true := by
          have h5 := mayF_more (ns := g.nodes) (c := c) hy (C := callsR g j) (D := callsR (g.put c y) j) (fun r hr => by
            simp only [callsR, Bool.and_eq_true, decide_eq_true_eq] at hr ⊢
            exact ⟨hr.1, ih _ hr.2⟩) g.nodes.length g.rules[i].body hm
          simpa [mayR, mayN, Gr.put] using h5
        rw [h2, if_pos ⟨h0, hmx⟩]
        omega
      · rw [rk_out g _ (by omega)] at h; omega
    · rw [rk_keep (j := j) (by omega) (Nat.le_succ j)]; omega
/-- It comes in no later. -/
theorem rank_more {g : Gr} {c : Nat} {y : Nd} (hy : easyK y.k = true) {i : Nat} (h : 0 < rankG g i) : 0 < rankG (g.put c y) i ∧ rankG (g.put c y) i ≤ rankG g i := by
  have hr := rank_le g i
  have h1 : rk g (rankG g i) i = rankG g i := by
    have := rk_at (g := g) (m := g.rules.length) (i := i) hr
    unfold rankG at this ⊢
    rw [this, if_pos (Nat.le_refl _)]
  have h2 := rk_more (c := c) hy (rankG g i) i (by rw [h1]; exact h)
  have h3 : rankG (g.put c y) i = rk (g.put c y) (rankG g i) i := rk_keep h2 hr
  have h4 := rk_le (g.put c y) (rankG g i) i
  omega
end Go.Proofs.YtibgfgfmljhimaaGreat
set_option linter.unusedVariables false
set_option linter.unusedSimpArgs false
namespace Go.Proofs.YtibgfgfmljhimaaGreat

def Nd.shift (o : Int) (x : Nd) : Nd := { x with kids := x.kids.map (· + o) }
def movedL (l : List Nd) (o : Int) : List Nd := l.map (Nd.shift o)
theorem movedL_len (l : List Nd) (o : Int) : (movedL l o).length = l.length := by simp [movedL]
/-- The nodes of bodies, one behind the other. -/
def gramN : List (List Nd) → Nat → List Nd
  | [], _ => []
  | b :: bs, o => movedL b o ++ gramN bs (o + b.length)
def gramO : List (List Nd) → Nat → List Int
  | [], _ => []
  | b :: bs, o => (o : Int) :: gramO bs (o + b.length)

/-! ### 1. A segment stands elsewhere -/
/-! ### 2. Something ahead of each body -/
theorem gramO_len (bs : List (List Nd)) (o : Nat) : (gramO bs o).length = bs.length := by
  induction bs generalizing o with
  | nil => rfl
  | cons b bs ih => simp [gramO, ih]
theorem gramN_len : ∀ (bs : List (List Nd)) (o : Nat), (gramN bs o).length = (bs.map List.length).sum := by
  intro bs
  induction bs with
  | nil => intro o; rfl
  | cons b bs ih => intro o; simp [gramN, ih, movedL_len]
def bareN (k : Int) : Nd := ⟨k, 0, 0, 0, 0, ⟨#[]⟩, 0, 0, []⟩
end Go.Proofs.YtibgfgfmljhimaaGreat
set_option linter.unusedVariables false
set_option linter.unusedSimpArgs false
namespace Go.Proofs.YtibgfgfmljhimaaGreat

end Go.Proofs.YtibgfgfmljhimaaGreat

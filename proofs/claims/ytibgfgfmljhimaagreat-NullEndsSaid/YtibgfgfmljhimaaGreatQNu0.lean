/-
  What may match nothing, as plain data: by kinds, by rounds; what the rounds end in.
  Conditions: none.
-/
import Derived.Test.YtibgfgfmljhimaaGreatQPlain
set_option linter.unusedVariables false
set_option linter.unusedSimpArgs false
namespace Go.Proofs.YtibgfgfmljhimaaGreat

/-! ### 1. A node, by its kids and a rule's answer -/
/-- The kinds that always may. -/
def easyK (k : Int) : Bool := decide (k = 1 ∨ k = 8 ∨ k = 10 ∨ k = 11 ∨ k = 12)
def kindMay (x : Nd) (C F : Int → Bool) : Bool :=
  if easyK x.k then true else if x.k = 6 ∨ x.k = 9 then x.kids.all F else if x.k = 7 then x.kids.any F else if x.k = 5 then C x.r else false
def mayF (ns : List Nd) (C : Int → Bool) : Nat → Int → Bool
  | 0, _ => false
  | f + 1, n => if n < 0 then false else match ns[n.toNat]? with | none => false | some x => kindMay x C (mayF ns C f)
/-- May a node match nothing, where rules answer C? -/
def mayN (ns : List Nd) (C : Int → Bool) (n : Int) : Bool := mayF ns C ns.length n
/-- Each kid stands behind its node. -/
def Falls (ns : List Nd) : Prop := ∀ n (h : n < ns.length), ∀ k ∈ ns[n].kids, (n : Int) < k ∧ k < ns.length

theorem kindMay_congr {x : Nd} {C D F G : Int → Bool} (hC : C x.r = D x.r) (hF : ∀ k ∈ x.kids, F k = G k) : kindMay x C F = kindMay x D G := by
  have h1 : x.kids.all F = x.kids.all G := by
    rw [Bool.eq_iff_iff, List.all_eq_true, List.all_eq_true]
    exact ⟨fun h k hk => (hF k hk) ▸ h k hk, fun h k hk => (hF k hk).symm ▸ h k hk⟩
  have h2 : x.kids.any F = x.kids.any G := by
    rw [Bool.eq_iff_iff, List.any_eq_true, List.any_eq_true]
    exact ⟨fun ⟨k, hk, h⟩ => ⟨k, hk, (hF k hk) ▸ h⟩, fun ⟨k, hk, h⟩ => ⟨k, hk, (hF k hk).symm ▸ h⟩⟩
  simp only [kindMay, h1, h2, hC]
/-- Fuel enough is enough. -/
theorem mayF_fuel {ns : List Nd} (hf : Falls ns) (C : Int → Bool) : ∀ (d : Nat) (n : Nat) (f g : Nat), ns.length - n ≤ d → ns.length - n ≤ f → ns.length - n ≤ g → mayF ns C f n = mayF ns C g n := by
  intro d
  induction d with
  | zero =>
    intro n f g hd h1 h2
    have hn : ns[n]? = none := List.getElem?_eq_none (by omega)
    have key : ∀ f, mayF ns C f n = false := fun f => by
      cases f with
      | zero => rfl
      | succ f => simp [mayF, hn]
    rw [key, key]
  | succ d ih =>
    intro n f g hd h1 h2
    by_cases hn : n < ns.length
    · cases f with
      | zero => omega
      | succ f =>
        cases g with
        | zero => omega
        | succ g =>
          have hx : ns[n]? = some ns[n] := List.getElem?_eq_getElem hn
          simp only [mayF, Int.toNat_natCast, hx]
          split
          · rfl
          · refine kindMay_congr rfl (fun k hk => ?_)
            obtain ⟨k1, k2⟩ := hf n hn k hk
            obtain ⟨j, rfl⟩ : ∃ j : Nat, k = j := ⟨k.toNat, by omega⟩
            exact ih j f g (by omega) (by omega) (by omega)
    · have hn : ns[n]? = none := List.getElem?_eq_none (by omega)
      have key : ∀ f, mayF ns C f n = false := fun f => by
        cases f with
        | zero => rfl
        | succ f => simp [mayF, hn]
      rw [key, key]
/-- THE ONE EQUATION of a node. -/
theorem mayN_eq {ns : List Nd} (hf : Falls ns) (C : Int → Bool) {n : Nat} (hn : n < ns.length) : mayN ns C n = kindMay ns[n] C (mayN ns C) := by
  unfold mayN
  rw [mayF_fuel hf C ns.length n ns.length (ns.length + 1) (by omega) (by omega) (by omega)]
  have hx : ns[n]? = some ns[n] := List.getElem?_eq_getElem hn
  simp only [mayF, Int.toNat_natCast, hx, if_neg (show ¬ ((n : Int) < 0) by omega)]
/-! ### 2. Ranks, by rounds -/
/-- A rule's rank when so many rounds are over; 0: it is not in. -/
def rk (g : Gr) : Nat → Nat → Nat
  | 0, _ => 0
  | j + 1, i => if rk g j i = 0 then (match g.rules[i]? with | none => 0 | some r => if mayN g.nodes (fun q => decide (0 ≤ q) && decide (0 < rk g j q.toNat)) r.body then j + 1 else 0) else rk g j i
/-- What a call may, when so many rounds are over. -/
def callsR (g : Gr) (j : Nat) (q : Int) : Bool := decide (0 ≤ q) && decide (0 < rk g j q.toNat)
def mayR (g : Gr) (j : Nat) (n : Int) : Bool := mayN g.nodes (callsR g j) n
theorem rk_succ (g : Gr) (j i : Nat) : rk g (j + 1) i = if rk g j i = 0 then (match g.rules[i]? with | none => 0 | some r => if mayR g j r.body then j + 1 else 0) else rk g j i := rfl
theorem rk_step (g : Gr) (j : Nat) {i : Nat} (hi : i < g.rules.length) : rk g (j + 1) i = if rk g j i = 0 ∧ mayR g j g.rules[i].body = true then j + 1 else rk g j i := by
  rw [rk_succ, List.getElem?_eq_getElem hi]
  by_cases h : rk g j i = 0
  · by_cases hm : mayR g j g.rules[i].body = true
    · simp [h, hm]
    · simp [h, hm]
  · simp [h]
theorem rk_out (g : Gr) (j : Nat) {i : Nat} (hi : g.rules.length ≤ i) : rk g j i = 0 := by
  induction j with
  | zero => rfl
  | succ j ih => rw [rk_succ, List.getElem?_eq_none hi, ih]; rfl
theorem rk_le (g : Gr) (j i : Nat) : rk g j i ≤ j := by
  induction j with
  | zero => exact Nat.le_refl _
  | succ j ih =>
    rw [rk_succ]
    split
    · split
      · exact Nat.zero_le _
      · split
        · exact Nat.le_refl _
        · exact Nat.zero_le _
    · exact Nat.le_succ_of_le ih
theorem rk_keep {g : Gr} {j i : Nat} (h : 0 < rk g j i) {m : Nat} (hm : j ≤ m) : rk g m i = rk g j i := by
  induction hm with
  | refl => rfl
  | step _ ih => rw [rk_succ, ih, if_neg (by omega)]
/-- A round that lets nobody in is the end. -/
def Still (g : Gr) (j : Nat) : Prop := ∀ i (hi : i < g.rules.length), rk g j i = 0 → mayR g j g.rules[i].body = false
theorem still_rk {g : Gr} {j : Nat} (h : Still g j) : ∀ m, j ≤ m → ∀ i, rk g m i = rk g j i := by
  intro m hm
  induction hm with
  | refl => exact fun _ => rfl
  | @step m hm ih =>
    intro i
    have hc : callsR g m = callsR g j := funext fun q => by simp only [callsR, ih]
    by_cases hi : i < g.rules.length
    · rw [rk_step g m hi, ih i]
      split
      · rename_i hq
        have h1 := h i hi hq.1
        rw [mayR, hc] at hq
        rw [mayR] at h1
        rw [h1] at hq
        cases hq.2
      · rfl
    · rw [rk_out g _ (by omega), rk_out g _ (by omega)]
theorem still_may {g : Gr} {j : Nat} (h : Still g j) {m : Nat} (hm : j ≤ m) : mayR g m = mayR g j := by
  have hc : callsR g m = callsR g j := funext fun q => by simp only [callsR, still_rk h m hm]
  funext n
  rw [mayR, mayR, hc]
theorem still_up {g : Gr} {j : Nat} (h : Still g j) {m : Nat} (hm : j ≤ m) : Still g m := fun i hi h0 => by
  rw [still_may h hm]
  exact h i hi (by rw [← still_rk h m hm i]; exact h0)
/-- How many are in. -/
def insR (g : Gr) (j : Nat) : Nat := ((List.range g.rules.length).filter fun i => decide (0 < rk g j i)).length
theorem filter_more {α : Type} {p q : α → Bool} : ∀ {l : List α}, (∀ x ∈ l, p x = true → q x = true) → (l.filter p).length ≤ (l.filter q).length ∧ ((∃ x ∈ l, q x = true ∧ p x = false) → (l.filter p).length < (l.filter q).length) := by
  intro l
  induction l with
  | nil => intro _; exact ⟨Nat.le_refl _, fun ⟨x, hx, _⟩ => by cases hx⟩
  | cons y l ih =>
    intro h
    obtain ⟨i1, i2⟩ := ih (fun x hx => h x (List.mem_cons_of_mem _ hx))
    have hy := h y (List.mem_cons_self ..)
    cases hp : p y with
    | true =>
      rw [List.filter_cons_of_pos hp, List.filter_cons_of_pos (hy hp)]
      refine ⟨by simpa using i1, fun ⟨x, hx, hq, hn⟩ => ?_⟩
      rcases List.mem_cons.1 hx with rfl | hx
      · rw [hp] at hn; cases hn
      · simpa using i2 ⟨x, hx, hq, hn⟩
    | false =>
      rw [List.filter_cons_of_neg (by simp [hp])]
      cases hq : q y with
      | true =>
        rw [List.filter_cons_of_pos hq]
        exact ⟨by simp; omega, fun _ => by simp; omega⟩
      | false =>
        rw [List.filter_cons_of_neg (by simp [hq])]
        refine ⟨i1, fun ⟨x, hx, hq2, hn⟩ => ?_⟩
        rcases List.mem_cons.1 hx with rfl | hx
        · rw [hq] at hq2; cases hq2
        · exact i2 ⟨x, hx, hq2, hn⟩
theorem ins_step (g : Gr) (j : Nat) : Still g j ∨ insR g j < insR g (j + 1) := by
  by_cases h : Still g j
  · exact .inl h
  · refine .inr ((filter_more (fun i hi h0 => ?_)).2 ?_)
    · simp only [decide_eq_true_eq] at h0 ⊢
      rw [rk_keep h0 (Nat.le_succ j)]; exact h0
    · simp only [Still, Classical.not_forall, Bool.not_eq_false] at h
      obtain ⟨i, hi, h0, hm⟩ := h
      refine ⟨i, List.mem_range.2 hi, ?_, ?_⟩
      · rw [rk_step g j hi, if_pos ⟨h0, hm⟩]; simp
      · simp [h0]
theorem ins_le (g : Gr) (j : Nat) : insR g j ≤ g.rules.length := by
  have := List.length_filter_le (fun i => decide (0 < rk g j i)) (List.range g.rules.length)
  simpa [insR] using this
theorem still_or (g : Gr) : ∀ j, Still g j ∨ j ≤ insR g j := by
  intro j
  induction j with
  | zero => exact .inr (Nat.zero_le _)
  | succ j ih =>
    rcases ih with h | h
    · exact .inl (still_up h (Nat.le_succ j))
    · rcases ins_step g j with h1 | h1
      · exact .inl (still_up h1 (Nat.le_succ j))
      · exact .inr (by omega)
/-- As many rounds as rules are enough. -/
theorem still_end (g : Gr) : Still g g.rules.length := by
  rcases still_or g g.rules.length with h | h
  · exact h
  · rcases ins_step g g.rules.length with h1 | h1
    · exact h1
    · have := ins_le g (g.rules.length + 1); omega
/-- While a round lets some in, there have been fewer rounds than rules. -/
theorem round_lt {g : Gr} {j : Nat} (h : ¬ Still g j) : j < g.rules.length := by
  by_cases hj : j < g.rules.length
  · exact hj
  · exact absurd (still_up (still_end g) (by omega)) h
/-- THE ANSWERS. -/
def rankG (g : Gr) (i : Nat) : Nat := rk g g.rules.length i
def mayG (g : Gr) (n : Int) : Bool := mayR g g.rules.length n
theorem rank_still {g : Gr} {j : Nat} (h : Still g j) (i : Nat) : rankG g i = rk g j i := by
  rcases Nat.le_total j g.rules.length with h1 | h1
  · exact still_rk h _ h1 i
  · exact (still_rk (still_end g) _ h1 i).symm
end Go.Proofs.YtibgfgfmljhimaaGreat
set_option linter.unusedVariables false
set_option linter.unusedSimpArgs false
namespace Go.Proofs.YtibgfgfmljhimaaGreat

theorem falls_right {g : Gr} (h : rightB g = true) : Falls g.nodes := fun n hn k hk => right_kids h hn k hk
/-- A node put for another. -/
def Gr.put (g : Gr) (c : Nat) (y : Nd) : Gr := ⟨g.rules, g.nodes.set c y⟩
end Go.Proofs.YtibgfgfmljhimaaGreat
set_option linter.unusedVariables false
set_option linter.unusedSimpArgs false
namespace Go.Proofs.YtibgfgfmljhimaaGreat

def Nd.shift (o : Int) (x : Nd) : Nd := { x with kids := x.kids.map (· + o) }
def movedL (l : List Nd) (o : Int) : List Nd := l.map (Nd.shift o)
theorem movedL_len (l : List Nd) (o : Int) : (movedL l o).length = l.length := by simp [movedL]
/-- The nodes of bodies, one behind the other. -/
def gramN : List (List Nd) → Nat → List Nd
  | [], _ => []
  | b :: bs, o => movedL b o ++ gramN bs (o + b.length)
def gramO : List (List Nd) → Nat → List Int
  | [], _ => []
  | b :: bs, o => (o : Int) :: gramO bs (o + b.length)

/-! ### 1. A segment stands elsewhere -/
/-! ### 2. Something ahead of each body -/
theorem gramO_len (bs : List (List Nd)) (o : Nat) : (gramO bs o).length = bs.length := by
  induction bs generalizing o with
  | nil => rfl
  | cons b bs ih => simp [gramO, ih]
theorem gramN_len : ∀ (bs : List (List Nd)) (o : Nat), (gramN bs o).length = (bs.map List.length).sum := by
  intro bs
  induction bs with
  | nil => intro o; rfl
  | cons b bs ih => intro o; simp [gramN, ih, movedL_len]
def bareN (k : Int) : Nd := ⟨k, 0, 0, 0, 0, ⟨#[]⟩, 0, 0, []⟩
end Go.Proofs.YtibgfgfmljhimaaGreat
set_option linter.unusedVariables false
set_option linter.unusedSimpArgs false
namespace Go.Proofs.YtibgfgfmljhimaaGreat

end Go.Proofs.YtibgfgfmljhimaaGreat

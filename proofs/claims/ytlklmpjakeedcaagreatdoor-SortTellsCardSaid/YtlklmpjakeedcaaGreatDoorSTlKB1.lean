/-
  What may match nothing, as plain data: by kinds, by rounds; what the rounds end in.
  Conditions: none.
-/
import Derived.Test.YtlklmpjakeedcaaGreatDoorSTlPlain
import Derived.Test.YtlklmpjakeedcaaGreatDoorSTlGPut
set_option linter.unusedVariables false
set_option linter.unusedSimpArgs false
namespace Go.Proofs.YtlklmpjakeedcaaGreatDoor

/-! ### 1. A node, by its kids and a rule's answer -/
/-- The kinds that always may. -/
def easyK (k : Int) : Bool := decide (k = 1 ∨ k = 8 ∨ k = 10 ∨ k = 11 ∨ k = 12)
def kindMay (x : Nd) (C F : Int → Bool) : Bool :=
  if easyK x.k then true else if x.k = 6 ∨ x.k = 9 then x.kids.all F else if x.k = 7 then x.kids.any F else if x.k = 5 then C x.r else false
def mayF (ns : List Nd) (C : Int → Bool) : Nat → Int → Bool
  | 0, _ => false
  | f + 1, n => if n < 0 then false else match ns[n.toNat]? with | none => false | some x => kindMay x C (mayF ns C f)
/-- May a node match nothing, where rules answer C? -/
def mayN (ns : List Nd) (C : Int → Bool) (n : Int) : Bool := mayF ns C ns.length n
/-- Each kid stands behind its node. -/
def Falls (ns : List Nd) : Prop := ∀ n (h : n < ns.length), ∀ k ∈ ns[n].kids, (n : Int) < k ∧ k < ns.length

theorem kindMay_congr {x : Nd} {C D F G : Int → Bool} (hC : C x.r = D x.r) (hF : ∀ k ∈ x.kids, F k = G k) : kindMay x C F = kindMay x D G := by
  have h1 : x.kids.all F = x.kids.all G := by
    rw [Bool.eq_iff_iff, List.all_eq_true, List.all_eq_true]
    exact ⟨fun h k hk => (hF k hk) ▸ h k hk, fun h k hk => (hF k hk).symm ▸ h k hk⟩
  have h2 : x.kids.any F = x.kids.any G := by
    rw [Bool.eq_iff_iff, List.any_eq_true, List.any_eq_true]
    exact ⟨fun ⟨k, hk, h⟩ => ⟨k, hk, (hF k hk) ▸ h⟩, fun ⟨k, hk, h⟩ => ⟨k, hk, (hF k hk).symm ▸ h⟩⟩
  simp only [kindMay, h1, h2, hC]
/-- Fuel enough is enough. -/
theorem mayF_fuel {ns : List Nd} (hf : Falls ns) (C : Int → Bool) : ∀ (d : Nat) (n : Nat) (f g : Nat), ns.length - n ≤ d → ns.length - n ≤ f → ns.length - n ≤ g → mayF ns C f n = mayF ns C g n := by
  intro d
  induction d with
  | zero =>
    intro n f g hd h1 h2
    have hn : ns[n]? = none := List.getElem?_eq_none (by omega)
    have key : ∀ f, mayF ns C f n = false := fun f => by
      cases f with
      | zero => rfl
      | succ f => simp [mayF, hn]
    rw [key, key]
  | succ d ih =>
    intro n f g hd h1 h2
    by_cases hn : n < ns.length
    · cases f with
      | zero => omega
      | succ f =>
        cases g with
        | zero => omega
        | succ g =>
          have hx : ns[n]? = some ns[n] := List.getElem?_eq_getElem hn
          simp only [mayF, Int.toNat_natCast, hx]
          split
          · rfl
          · refine kindMay_congr rfl (fun k hk => ?_)
            obtain ⟨k1, k2⟩ := hf n hn k hk
            obtain ⟨j, rfl⟩ : ∃ j : Nat, k = j := ⟨k.toNat, by omega⟩
            exact ih j f g (by omega) (by omega) (by omega)
    · have hn : ns[n]? = none := List.getElem?_eq_none (by omega)
      have key : ∀ f, mayF ns C f n = false := fun f => by
        cases f with
        | zero => rfl
        | succ f => simp [mayF, hn]
      rw [key, key]
/-- THE ONE EQUATION of a node. -/
theorem mayN_eq {ns : List Nd} (hf : Falls ns) (C : Int → Bool) {n : Nat} (hn : n < ns.length) : mayN ns C n = kindMay ns[n] C (mayN ns C) := by
  unfold mayN
  rw [mayF_fuel hf C ns.length n ns.length (ns.length + 1) (by omega) (by omega) (by omega)]
  have hx : ns[n]? = some ns[n] := List.getElem?_eq_getElem hn
  simp only [mayF, Int.toNat_natCast, hx, if_neg (show ¬ ((n : Int) < 0) by omega)]
/-! ### 2. Ranks, by rounds -/
/-- A rule's rank when so many rounds are over; 0: it is not in. -/
def rk (g : Gr) : Nat → Nat → Nat
  | 0, _ => 0
  | j + 1, i => if rk g j i = 0 then (match g.rules[i]? with | none => 0 | some r => if mayN g.nodes (fun q => decide (0 ≤ q) && decide (0 < rk g j q.toNat)) r.body then j + 1 else 0) else rk g j i
/-- What a call may, when so many rounds are over. -/
def callsR (g : Gr) (j : Nat) (q : Int) : Bool := decide (0 ≤ q) && decide (0 < rk g j q.toNat)
def mayR (g : Gr) (j : Nat) (n : Int) : Bool := mayN g.nodes (callsR g j) n
theorem rk_succ (g : Gr) (j i : Nat) : rk g (j + 1) i = if rk g j i = 0 then (match g.rules[i]? with | none => 0 | some r => if mayR g j r.body then j + 1 else 0) else rk g j i := rfl
theorem rk_step (g : Gr) (j : Nat) {i : Nat} (hi : i < g.rules.length) : rk g (j + 1) i = if rk g j i = 0 ∧ mayR g j g.rules[i].body = true then j + 1 else rk g j i := by
  rw [rk_succ, List.getElem?_eq_getElem hi]
  by_cases h : rk g j i = 0
  · by_cases hm : mayR g j g.rules[i].body = true
    · simp [h, hm]
    · simp [h, hm]
  · simp [h]
theorem rk_out (g : Gr) (j : Nat) {i : Nat} (hi : g.rules.length ≤ i) : rk g j i = 0 := by
  induction j with
  | zero => rfl
  | succ j ih => rw [rk_succ, List.getElem?_eq_none hi, ih]; rfl
theorem rk_le (g : Gr) (j i : Nat) : rk g j i ≤ j := by
  induction j with
  | zero => exact Nat.le_refl _
  | succ j ih =>
    rw [rk_succ]
    split
    · split
      · exact Nat.zero_le _
      · split
        · exact Nat.le_refl _
        · exact Nat.zero_le _
    · exact Nat.le_succ_of_le ih
theorem rk_keep {g : Gr} {j i : Nat} (h : 0 < rk g j i) {m : Nat} (hm : j ≤ m) : rk g m i = rk g j i := by
  induction hm with
  | refl => rfl
  | step _ ih => rw [rk_succ, ih, if_neg (by omega)]
/-- A round that lets nobody in is the end. -/
def Still (g : Gr) (j : Nat) : Prop := ∀ i (hi : i < g.rules.length), rk g j i = 0 → mayR g j g.rules[i].body = false
theorem still_rk {g : Gr} {j : Nat} (h : Still g j) : ∀ m, j ≤ m → ∀ i, rk g m i = rk g j i := by
  intro m hm
  induction hm with
  | refl => exact fun _ => rfl
  | @step m hm ih =>
    intro i
    have hc : callsR g m = callsR g j := funext fun q => by simp only [callsR, ih]
    by_cases hi : i < g.rules.length
    · rw [rk_step g m hi, ih i]
      split
      · rename_i hq
        have h1 := h i hi hq.1
        rw [mayR, hc] at hq
        rw [mayR] at h1
        rw [h1] at hq
        cases hq.2
      · rfl
    · rw [rk_out g _ (by omega), rk_out g _ (by omega)]
theorem still_may {g : Gr} {j : Nat} (h : Still g j) {m : Nat} (hm : j ≤ m) : mayR g m = mayR g j := by
  have hc : callsR g m = callsR g j := funext fun q => by simp only [callsR, still_rk h m hm]
  funext n
  rw [mayR, mayR, hc]
theorem still_up {g : Gr} {j : Nat} (h : Still g j) {m : Nat} (hm : j ≤ m) : Still g m := fun i hi h0 => by
  rw [still_may h hm]
  exact h i hi (by rw [← still_rk h m hm i]; exact h0)
/-- How many are in. -/
def insR (g : Gr) (j : Nat) : Nat := ((List.range g.rules.length).filter fun i => decide (0 < rk g j i)).length
theorem filter_more {α : Type} {p q : α → Bool} : ∀ {l : List α}, (∀ x ∈ l, p x = true → q x = true) → (l.filter p).length ≤ (l.filter q).length ∧ ((∃ x ∈ l, q x = true ∧ p x = false) → (l.filter p).length < (l.filter q).length) := by
  intro l
  induction l with
  | nil => intro _; exact ⟨Nat.le_refl _, fun ⟨x, hx, _⟩ => by cases hx⟩
  | cons y l ih =>
    intro h
    obtain ⟨i1, i2⟩ := ih (fun x hx => h x (List.mem_cons_of_mem _ hx))
    have hy := h y (List.mem_cons_self ..)
    cases hp : p y with
    | true =>
      rw [List.filter_cons_of_pos hp, List.filter_cons_of_pos (hy hp)]
      refine ⟨by simpa using i1, fun ⟨x, hx, hq, hn⟩ => ?_⟩
      rcases List.mem_cons.1 hx with rfl | hx
      · rw [hp] at hn; cases hn
      · simpa using i2 ⟨x, hx, hq, hn⟩
    | false =>
      rw [List.filter_cons_of_neg (by simp [hp])]
      cases hq : q y with
      | true =>
        rw [List.filter_cons_of_pos hq]
        exact ⟨by simp; omega, fun _ => by simp; omega⟩
      | false =>
        rw [List.filter_cons_of_neg (by simp [hq])]
        refine ⟨i1, fun ⟨x, hx, hq2, hn⟩ => ?_⟩
        rcases List.mem_cons.1 hx with rfl | hx
        · rw [hq] at hq2; cases hq2
        · exact i2 ⟨x, hx, hq2, hn⟩
theorem ins_step (g : Gr) (j : Nat) : Still g j ∨ insR g j < insR g (j + 1) := by
  by_cases h : Still g j
  · exact .inl h
  · refine .inr ((filter_more (fun i hi h0 => ?_)).2 ?_)
    · simp only [decide_eq_true_eq] at h0 ⊢
      rw [rk_keep h0 (Nat.le_succ j)]; exact h0
    · simp only [Still, Classical.not_forall, Bool.not_eq_false] at h
      obtain ⟨i, hi, h0, hm⟩ := h
      refine ⟨i, List.mem_range.2 hi, ?_, ?_⟩
      · rw [rk_step g j hi, if_pos ⟨h0, hm⟩]; simp
      · simp [h0]
theorem ins_le (g : Gr) (j : Nat) : insR g j ≤ g.rules.length := by
  have := List.length_filter_le (fun i => decide (0 < rk g j i)) (List.range g.rules.length)
  simpa [insR] using this
theorem still_or (g : Gr) : ∀ j, Still g j ∨ j ≤ insR g j := by
  intro j
  induction j with
  | zero => exact .inr (Nat.zero_le _)
  | succ j ih =>
    rcases ih with h | h
    · exact .inl (still_up h (Nat.le_succ j))
    · rcases ins_step g j with h1 | h1
      · exact .inl (still_up h1 (Nat.le_succ j))
      · exact .inr (by omega)
/-- As many rounds as rules are enough. -/
theorem still_end (g : Gr) : Still g g.rules.length := by
  rcases still_or g g.rules.length with h | h
  · exact h
  · rcases ins_step g g.rules.length with h1 | h1
    · exact h1
    · have := ins_le g (g.rules.length + 1); omega
/-- While a round lets some in, there have been fewer rounds than rules. -/
theorem round_lt {g : Gr} {j : Nat} (h : ¬ Still g j) : j < g.rules.length := by
  by_cases hj : j < g.rules.length
  · exact hj
  · exact absurd (still_up (still_end g) (by omega)) h
/-- THE ANSWERS. -/
def rankG (g : Gr) (i : Nat) : Nat := rk g g.rules.length i
def mayG (g : Gr) (n : Int) : Bool := mayR g g.rules.length n
theorem rank_still {g : Gr} {j : Nat} (h : Still g j) (i : Nat) : rankG g i = rk g j i := by
  rcases Nat.le_total j g.rules.length with h1 | h1
  · exact still_rk h _ h1 i
  · exact (still_rk (still_end g) _ h1 i).symm
end Go.Proofs.YtlklmpjakeedcaaGreatDoor
set_option linter.unusedVariables false
set_option linter.unusedSimpArgs false
namespace Go.Proofs.YtlklmpjakeedcaaGreatDoor

theorem falls_right {g : Gr} (h : rightB g = true) : Falls g.nodes := fun n hn k hk => right_kids h hn k hk
/-- A node put for another. -/
def Gr.put (g : Gr) (c : Nat) (y : Nd) : Gr := ⟨g.rules, g.nodes.set c y⟩
end Go.Proofs.YtlklmpjakeedcaaGreatDoor
set_option linter.unusedVariables false
set_option linter.unusedSimpArgs false
namespace Go.Proofs.YtlklmpjakeedcaaGreatDoor

def Nd.shift (o : Int) (x : Nd) : Nd := { x with kids := x.kids.map (· + o) }
def movedL (l : List Nd) (o : Int) : List Nd := l.map (Nd.shift o)
theorem movedL_len (l : List Nd) (o : Int) : (movedL l o).length = l.length := by simp [movedL]
/-- The nodes of bodies, one behind the other. -/
def gramN : List (List Nd) → Nat → List Nd
  | [], _ => []
  | b :: bs, o => movedL b o ++ gramN bs (o + b.length)
def gramO : List (List Nd) → Nat → List Int
  | [], _ => []
  | b :: bs, o => (o : Int) :: gramO bs (o + b.length)

/-! ### 1. A segment stands elsewhere -/
def shiftP (d : Nat) (p : Nat × Nat) : Nat × Nat := (p.1 + d, p.2)
/-! ### 2. Something ahead of each body -/
/-- A rule's body, its kids by their places in the row. -/
def bodyOf (g : Gr) (b : Int) : List Nd := movedL ((g.nodes.drop b.toNat).take (sizeG g b).toNat) (-b)
def wrapL (P : List Nd) (g : Gr) : List (List Nd) := g.rules.map fun r => P ++ movedL (bodyOf g r.body) P.length
def wrapR (rs : List Rl) (os : List Int) : List Rl := List.zipWith (fun r o => ⟨r.name, o⟩) rs os
def wrapG (P : List Nd) (g : Gr) : Gr := ⟨wrapR g.rules (gramO (wrapL P g) 0), gramN (wrapL P g) 0⟩
theorem gramO_len (bs : List (List Nd)) (o : Nat) : (gramO bs o).length = bs.length := by
  induction bs generalizing o with
  | nil => rfl
  | cons b bs ih => simp [gramO, ih]
/-- What a front is, to those who measure: so many nodes, and one level. -/
def Front (P : List Nd) : Prop := ∀ (xs : List Nd) (o : Nat), (∀ j (h : j < P.length), xs[o + j]? = some (P[j].shift o)) →
  aft xs 16 o = match aft xs 15 (o + P.length) with | none => none | some (to, h) => some (to, max 2 (1 + h))
theorem gramN_len : ∀ (bs : List (List Nd)) (o : Nat), (gramN bs o).length = (bs.map List.length).sum := by
  intro bs
  induction bs with
  | nil => intro o; rfl
  | cons b bs ih => intro o; simp [gramN, ih, movedL_len]
def bareN (k : Int) : Nd := ⟨k, 0, 0, 0, 0, ⟨#[]⟩, 0, 0, []⟩
def hardP : List Nd := [{ bareN 6 with kids := [1, 2] }, bareN 2]
def softP : List Nd := [{ bareN 10 with kids := [1] }]
end Go.Proofs.YtlklmpjakeedcaaGreatDoor
set_option linter.unusedVariables false
set_option linter.unusedSimpArgs false
namespace Go.Proofs.YtlklmpjakeedcaaGreatDoor

end Go.Proofs.YtlklmpjakeedcaaGreatDoor
set_option linter.unusedVariables false
set_option linter.unusedSimpArgs false
namespace Go.Proofs.YtlklmpjakeedcaaGreatDoor
open Go.RowKit Go.MapKept Go.Shelf

def Nd.part (x : Nd) (o : Int) (k : Nat) : Nd := { x with kids := (x.kids.take k).map (· + o) ++ x.kids.drop k }
theorem part_zero (x : Nd) (o : Int) : x.part o 0 = x := by simp [Nd.part]
theorem part_end (x : Nd) (o : Int) {k : Nat} (h : x.kids.length ≤ k) : x.part o k = x.shift o := by simp [Nd.part, Nd.shift, List.take_of_length_le h, List.drop_eq_nil_of_le h]
theorem part_len (x : Nd) (o : Int) (k : Nat) : (x.part o k).kids.length = x.kids.length := by simp [Nd.part]; omega
theorem part_at (x : Nd) (o : Int) {k : Nat} (hk : k < x.kids.length) (h : k < (x.part o k).kids.length) : (x.part o k).kids[k] = x.kids[k] := by
  simp only [Nd.part]
  rw [List.getElem_append_right (by simp; omega)]
  simp
  congr 1
  omega
theorem part_succ (x : Nd) (o : Int) {k : Nat} (hk : k < x.kids.length) : (x.part o k).setKid k (x.kids[k] + o) = x.part o (k + 1) := by
  simp only [Nd.part, Nd.setKid]
  congr 1
  apply List.ext_getElem?
  intro j
  rw [List.getElem?_set, List.getElem?_append, List.getElem?_append]
  simp only [List.length_append, List.length_map, List.length_take, List.length_drop, List.getElem?_map, List.getElem?_take, List.getElem?_drop]
  by_cases h1 : k = j
  · subst h1
    rw [if_pos rfl, if_pos (by omega), if_pos (by omega), if_pos (by omega), List.getElem?_eq_getElem hk]
    rfl
  · rw [if_neg h1]
    by_cases h2 : j < k
    · rw [if_pos (by omega), if_pos (by omega), if_pos (by omega), if_pos (by omega)]
    · rw [if_neg (by omega), if_neg (by omega)]
      congr 1
      omega
/-- Nodes ahead of i are moved, the i-th one's first k kids. -/
def MovedTo (ns : List Nd) (o : Int) (i k : Nat) (L : List Cp) : Prop :=
  L.length = ns.length ∧ ∀ a (h : a < L.length) (h' : a < ns.length), L[a].1 = if a < i then ns[a].shift o else if a = i then ns[a].part o k else ns[a]
theorem movedTo_start {ns : List Nd} {o : Int} {L : List Cp} (h : L.map (·.1) = ns) : MovedTo ns o 0 0 L := by
  refine ⟨by rw [← h]; simp, fun a h1 h2 => ?_⟩
  have : L[a].1 = ns[a] := by
    have h3 : (L.map (·.1))[a]'(by simpa using h1) = L[a].1 := by simp
    rw [← h3]
    simp only [h]
  rw [this, if_neg (by omega)]
  split
  · rw [part_zero]
  · rfl
theorem movedTo_next {ns : List Nd} {o : Int} {i k : Nat} {L : List Cp} (hi : i < ns.length) (h : MovedTo ns o i k L) (hk : ns[i].kids.length ≤ k) : MovedTo ns o (i + 1) 0 L := by
  refine ⟨h.1, fun a h1 h2 => ?_⟩
  rw [h.2 a h1 h2]
  by_cases h3 : a < i
  · rw [if_pos h3, if_pos (by omega)]
  · rw [if_neg h3]
    by_cases h4 : a = i
    · subst h4
      rw [if_pos rfl, if_pos (by omega), part_end _ _ hk]
    · rw [if_neg h4, if_neg (by omega)]
      split
      · rw [part_zero]
      · rfl
theorem movedTo_kid {ns : List Nd} {o : Int} {i k : Nat} {L : List Cp} (hi : i < ns.length) (hL : i < L.length) (h : MovedTo ns o i k L) (hk : k < ns[i].kids.length) : MovedTo ns o i (k + 1) (L.set i (L[i].setKid k (ns[i].kids[k] + o))) := by
  refine ⟨by rw [List.length_set]; exact h.1, fun a h1 h2 => ?_⟩
  rw [List.getElem_set]
  by_cases h3 : i = a
  · subst h3
    rw [if_pos rfl, if_neg (by omega), if_pos rfl]
    show L[i].1.setKid k _ = _
    have := h.2 i hL hi
    rw [if_neg (by omega), if_pos rfl] at this
    rw [this]
    exact part_succ _ _ hk
  · have h1' : a < L.length := by simpa using h1
    rw [if_neg h3, h.2 a h1' h2]
    by_cases h4 : a < i
    · rw [if_pos h4, if_pos h4]
    · rw [if_neg h4, if_neg h4, if_neg (by omega), if_neg (by omega)]
theorem movedTo_end {ns : List Nd} {o : Int} {k : Nat} {L : List Cp} (h : MovedTo ns o ns.length k L) : L.map (·.1) = movedL ns o := by
  apply List.ext_getElem
  · simp [movedL, h.1]
  · intro a h1 h2
    have h1' : a < L.length := by simpa using h1
    have := h.2 a h1' (by have := h.1; omega)
    rw [if_pos (by have := h.1; omega)] at this
    simp [movedL, this]
theorem movedTo_now {ns : List Nd} {o : Int} {i k : Nat} {L : List Cp} (hi : i < ns.length) (hL : i < L.length) (h : MovedTo ns o i k L) : L[i].1 = ns[i].part o k := by
  have := h.2 i hL hi
  rw [if_neg (by omega), if_pos rfl] at this
  exact this

/-- Nodes in rows of their own. -/
def NewRows (w : World) (ns : List Nd) (e : Ending) (w' : World) : Prop :=
  ∃ a c L, e = .returned (.slice a ns.length c) ∧ L.map (·.1) = ns ∧ OwnN w.heap.size w' a c L ∧ Chg [] w w'

set_option maxRecDepth 100000 in
set_option maxHeartbeats 4000000 in
theorem moved_any (w : World) (a : Option Addr) (n c : Nat) (ns : List Nd) (o : Int) (hn : n = ns.length) (hs : n ≤ 3000) (hr : Nodes w a ns) (hk : ∀ x ∈ ns, x.kids.length ≤ 3000) (ho : ∀ x ∈ ns, ∀ z ∈ x.kids, I64 (z + o)) :
    Calls Tryz.prog 55 #[.slice a n c, .int .i64 o] w (NewRows w (movedL ns o)) := by
  have H := Lib.hid (And.intro hn (And.intro hr (And.intro hk ho)))
  clear hn hr hk ho
  go_enter Tryz.func55, Tryz.ntmps55
  go_wp2_with fail
  refine (CopyNodesF_any w a n c ns H.out.1 hs H.out.2.1 H.out.2.2.1).mono ?_
  rintro e w1 ⟨b, d, L1, rfl, hL1, hown1, hc1⟩
  obtain ⟨m, hm⟩ : ∃ m, m = ns.length := ⟨_, rfl⟩
  rw [← hm]
  have H1 := Lib.hid (And.intro hL1 (And.intro hown1.ownN (And.intro hc1 hm)))
  have hm3 : m ≤ 3000 := by have := H.out.1; omega
  clear hL1 hown1 hc1 hm
  go_wp2_with fail
  go_loopg [6] m (fun dd iv wr => ∃ i : Nat, dd = m - i ∧ i ≤ m ∧ iv = .int .i64 i ∧ Hid (∃ L, MovedTo ns o i 0 L ∧ OwnN w.heap.size wr b d L ∧ Chg [] w wr))
  case atStart => exact ⟨0, rfl, Nat.zero_le _, rfl, Lib.hid ⟨L1, movedTo_start H1.out.1, H1.out.2.1, H1.out.2.2.1⟩⟩
  case round =>
    obtain ⟨i, rfl, hi, rfl, hin⟩ := hrel
    obtain ⟨wq, rfl⟩ : ∃ wq, wq = wr := ⟨_, rfl⟩
    by_cases hlt : i < m
    · have hil : i < ns.length := by have := H1.out.2.2.2; omega
      obtain ⟨kl, hkl⟩ : ∃ kl, kl = ns[i].kids.length := ⟨_, rfl⟩
      have hk3 : kl ≤ 3000 := by rw [hkl]; exact H.out.2.2.1 _ (List.getElem_mem hil)
      have HK := Lib.hid (⟨hil, hkl⟩ : ∃ h : i < ns.length, kl = ns[i].kids.length)
      clear hil hkl
      go_wp2_with fail
      go_loopg [7] kl (fun dd iv wr => ∃ k : Nat, dd = kl - k ∧ k ≤ kl ∧ iv = .int .i64 k ∧ Hid (∃ L, MovedTo ns o i k L ∧ OwnN w.heap.size wr b d L ∧ Chg [] w wr))
      case atStart => exact ⟨0, rfl, Nat.zero_le _, rfl, hin⟩
      case round =>
        obtain ⟨k, rfl, hkk, rfl, hin2⟩ := hrel
        obtain ⟨wr, rfl⟩ : ∃ wz, wz = wr := ⟨_, rfl⟩
        obtain ⟨L, hmv, hown, hcw⟩ := hin2.out
        obtain ⟨hil, hkq⟩ := HK.out
        have hiL : i < L.length := by have := hmv.1; omega
        have hnow := movedTo_now hil hiL hmv
        have hlen : L[i].1.kids.length = kl := by rw [hnow, part_len, ← hkq]
        obtain ⟨G, rfl, hBG, _, hcells, _⟩ := hown.at hiL
        have h8 : wr.cell? ⟨G, i * 9 + 8, none⟩ = some (.slice L[i].2.1 kl L[i].2.2) := by
          rw [hcells 8 (by decide), ← hlen]; rfl
        have hG := World.block_lt_of_cell? _ _ h8
        simp only at hG
        by_cases hkl : k < kl
        · have hkx : k < ns[i].kids.length := by omega
          obtain ⟨K, hK, hBK, hck, hfk, hput⟩ := hown.kidPut hiL (k := k) (by rw [hlen]; exact hkl)
          have hv : L[i].1.kids[k]'(by rw [hlen]; exact hkl) = ns[i].kids[k] := by
            have := part_at ns[i] o hkx (by rw [part_len]; exact hkx)
            simp only [hnow]
            exact this
          rw [hv] at hck
          rw [hK] at h8
          obtain ⟨z, hz⟩ : ∃ z, z = ns[i].kids[k] := ⟨_, rfl⟩
          have hzo : I64 (z + o) := by rw [hz]; exact H.out.2.2.2 _ (List.getElem_mem hil) _ (List.getElem_mem hkx)
          obtain ⟨hz1, hz2⟩ := hzo
          rw [← hz] at hck
          have hput2 : ∃ L', MovedTo ns o i (k + 1) L' ∧ OwnN w.heap.size (wr.setCell ⟨K, k, none⟩ (.int .i64 (z + o))) (some ⟨G, 0, none⟩) d L' ∧ Chg [] w (wr.setCell ⟨K, k, none⟩ (.int .i64 (z + o))) := by
            obtain ⟨p1, p2⟩ := hput (z + o)
            refine ⟨_, ?_, p1, hcw.trans p2 (fun j hj => .inr (by simp at hj; omega))⟩
            rw [hz]
            exact movedTo_kid hil hiL hmv hkx
          have HR := Lib.hid hput2
          obtain ⟨lc, hlc⟩ : ∃ lc, lc = L[i].2.2 := ⟨_, rfl⟩
          rw [← hlc] at h8
          clear hmv hcw hput hput2 hz hkq hkx hiL hnow hlen hcells hv hK hlc hown hBK hil
          go_wp2_with fail
          go_region
          all_goals go_wp2_with fail
          all_goals go_roundg (kl - (k + 1))
          case measure => omega
          case rel =>
            obtain ⟨L', q1, q2, q3⟩ := HR.out
            exact ⟨k + 1, rfl, by omega, by go_num, Lib.hid ⟨L', q1, q2.chg0 ((Chg.refl [] _).drew), q3.drew⟩⟩
        · obtain rfl : k = kl := by omega
          have HR := Lib.hid (And.intro hmv (And.intro hcw hown))
          obtain ⟨lc, hlc⟩ : ∃ lc, lc = L[i].2.2 := ⟨_, rfl⟩
          obtain ⟨la, hla⟩ : ∃ la, la = L[i].2.1 := ⟨_, rfl⟩
          rw [← hlc, ← hla] at h8
          clear hmv hcw hnow hlen hcells hlc hla hown hkq hil hiL
          go_wp2_with fail
          go_roundg (m - (i + 1))
          case measure => omega
          case rel =>
            obtain ⟨hmv, hcw, hown⟩ := HR.out
            exact ⟨i + 1, rfl, by omega, by go_num, Lib.hid ⟨L, movedTo_next (HK.out.elim fun h _ => h) hmv (by obtain ⟨_, h⟩ := HK.out; omega), hown, hcw⟩⟩
    · obtain rfl : i = m := by omega
      go_wp2_with fail
      go_ret
      obtain ⟨L, hmv, hown, hcw⟩ := hin.out
      rw [H1.out.2.2.2] at hmv
      refine ⟨b, d, L, ?_, movedTo_end hmv, hown, hcw⟩
      rw [movedL_len, ← H1.out.2.2.2]; rfl
end Go.Proofs.YtlklmpjakeedcaaGreatDoor

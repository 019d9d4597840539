/-
  With something hard ahead of each body no rule may match nothing; with each body made an Opt all may, at once.
  Conditions: none.
-/
import Derived.Test.YtibgfgfmljhimaaNu2
set_option linter.unusedVariables false
set_option linter.unusedSimpArgs false
namespace Go.Proofs.Ytibgfgfmljhimaa

theorem gram_at : ∀ (bs : List (List Nd)) (o i : Nat) (h : i < bs.length), ∃ oi : Nat, (gramO bs o)[i]? = some (oi : Int) ∧ o ≤ oi ∧ ∀ j (hj : j < bs[i].length), (gramN bs o)[oi - o + j]? = some (bs[i][j].shift oi) := by
  intro bs
  induction bs with
  | nil => intro o i h; cases h
  | cons b bs ih =>
    intro o i h
    cases i with
    | zero =>
      refine ⟨o, by simp [gramO], Nat.le_refl _, fun j hj => ?_⟩
      simp only [List.getElem_cons_zero] at hj ⊢
      simp only [gramN, Nat.sub_self, Nat.zero_add]
      rw [List.getElem?_append_left (by rw [movedL_len]; exact hj)]
      simp only [movedL, List.getElem?_map]
      rw [List.getElem?_eq_getElem hj]
      rfl
    | succ i =>
      obtain ⟨oi, h1, h2, h3⟩ := ih (o + b.length) i (by simpa using h)
      refine ⟨oi, by simpa [gramO] using h1, by omega, fun j hj => ?_⟩
      simp only [List.getElem_cons_succ] at hj ⊢
      have := h3 j hj
      simp only [gramN]
      rw [List.getElem?_append_right (by rw [movedL_len]; omega), movedL_len, show oi - o + j - b.length = oi - (o + b.length) + j by omega]
      exact this
theorem wrap_at {P : List Nd} {g : Gr} {i : Nat} (hi : i < g.rules.length) : ∃ (oi : Nat) (h : i < (wrapG P g).rules.length), (wrapG P g).rules[i].body = (oi : Int) ∧ ∀ j (hj : j < P.length), (wrapG P g).nodes[oi + j]? = some (P[j].shift oi) := by
  have hl : i < (wrapL P g).length := by simpa [wrapL] using hi
  obtain ⟨oi, h1, h2, h3⟩ := gram_at (wrapL P g) 0 i hl
  have ho := (List.getElem?_eq_some_iff.1 h1)
  obtain ⟨h4, h5⟩ := ho
  have hrl : i < (wrapG P g).rules.length := by
    simp only [wrapG, wrapR, List.length_zipWith]
    omega
  refine ⟨oi, hrl, by simp only [wrapG, wrapR, List.getElem_zipWith]; exact h5, fun j hj => ?_⟩
  have hw : (wrapL P g)[i] = P ++ movedL (bodyOf g g.rules[i].body) P.length := by simp [wrapL]
  have := h3 j (by rw [hw, List.length_append]; omega)
  rw [Nat.sub_zero] at this
  show (gramN (wrapL P g) 0)[oi + j]? = _
  rw [this]
  congr 2
  simp only [hw]
  rw [List.getElem_append_left hj]
theorem wrap_rules (P : List Nd) (g : Gr) : (wrapG P g).rules.length = g.rules.length := by
  have := congrArg List.length (wrapR_names g.rules (gramO (wrapL P g) 0) (by rw [gramO_len]; simp [wrapL]))
  simpa [wrapG] using this
theorem hard_rk {g : Gr} (hx : rightB (wrapG hardP g) = true) : ∀ j i, rk (wrapG hardP g) j i = 0 := by
  intro j
  induction j with
  | zero => intro i; rfl
  | succ j ih =>
    intro i
    by_cases hi : i < (wrapG hardP g).rules.length
    · rw [rk_step _ j hi, if_neg, ih i]
      rintro ⟨_, hm⟩
      obtain ⟨oi, h, hb, hn⟩ := wrap_at (P := hardP) (g := g) (i := i) (by rw [← wrap_rules hardP]; exact hi)
      have n0 : (wrapG hardP g).nodes[oi]? = some (Nd.shift oi { bareN 6 with kids := [1, 2] }) := hn 0 (by decide)
      have n1 : (wrapG hardP g).nodes[oi + 1]? = some (Nd.shift oi (bareN 2)) := hn 1 (by decide)
      obtain ⟨l0, n0⟩ := List.getElem?_eq_some_iff.1 n0
      obtain ⟨l1, n1⟩ := List.getElem?_eq_some_iff.1 n1
      have hf := falls_right hx
      have e1 : mayN (wrapG hardP g).nodes (callsR (wrapG hardP g) j) ((oi + 1 : Nat) : Int) = false := by
        rw [mayN_eq hf _ l1, n1]; rfl
      rw [hb, mayR, mayN_eq hf _ l0, n0] at hm
      rw [show ((oi + 1 : Nat) : Int) = (oi : Int) + 1 by omega] at e1
      simp [kindMay, easyK, Nd.shift, bareN] at hm
      have e2 := hm.1
      rw [show (1 : Int) + oi = oi + 1 by omega] at e2
      first
      | (rw [e1] at e2; cases e2)
      | (rw [e1] at hm; cases hm.1)
    · exact rk_out _ _ (by omega)
theorem hard_rank {g : Gr} (hx : rightB (wrapG hardP g) = true) (i : Nat) : rankG (wrapG hardP g) i = 0 := hard_rk hx _ i
theorem hard_call {g : Gr} (hx : rightB (wrapG hardP g) = true) {n : Nat} (hn : n < (wrapG hardP g).nodes.length) (hk : (wrapG hardP g).nodes[n].k = 5) : mayG (wrapG hardP g) n = false := by
  rw [mayG, mayR, mayN_eq (falls_right hx) _ hn, kind_call hk]
  simp [callsR, hard_rk hx]
theorem soft_rank {g : Gr} (hx : rightB (wrapG softP g) = true) {i : Nat} (hi : i < g.rules.length) : rankG (wrapG softP g) i = 1 := by
  obtain ⟨oi, h, hb, hn⟩ := wrap_at (P := softP) (g := g) hi
  have n0 : (wrapG softP g).nodes[oi]? = some (Nd.shift oi { bareN 10 with kids := [1] }) := hn 0 (by decide)
  obtain ⟨l0, n0⟩ := List.getElem?_eq_some_iff.1 n0
  have h1 := rk_step (wrapG softP g) 0 h
  rw [if_pos ⟨rfl, by rw [hb, mayR, mayN_eq (falls_right hx) _ l0, n0]; rfl⟩] at h1
  have hl := wrap_rules softP g
  have h2 : 0 < rk (wrapG softP g) (0 + 1) i := by rw [h1]; exact Nat.zero_lt_one
  exact (rk_keep (j := 0 + 1) h2 (by omega)).trans h1
end Go.Proofs.Ytibgfgfmljhimaa

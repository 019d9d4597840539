/-
  Package heads: a pair read.
  Conditions: none.
-/
import Derived.Test.YtnajhcoimohcaaaDoHd7
set_option linter.unusedVariables false
set_option linter.unusedSimpArgs false
set_option linter.unnecessarySimpa false
namespace Go.Proofs.Ytnajhcoimohcaaa
open Go.RowKit Go.MapKept

theorem frCells_put {l : List Fr} {i r : Nat} (hi : i < l.length) (hr : r < 5) {y : Fr} {v : Value} (h : y.cells = l[i].cells.set r v) : (frCells l).set (i * 5 + r) v = frCells (l.set i y) := by
  apply List.ext_getElem?
  intro j
  have h1 := flat_get Fr.cells 5 (fun _ => rfl) l (j / 5) (j % 5) (Nat.mod_lt _ (by decide))
  have h2 := flat_get Fr.cells 5 (fun _ => rfl) (l.set i y) (j / 5) (j % 5) (Nat.mod_lt _ (by decide))
  rw [show j / 5 * 5 + j % 5 = j by omega] at h1 h2
  have h1' : (frCells l)[j]? = (l[j / 5]?).bind fun a => a.cells[j % 5]? := h1
  have h2' : (frCells (l.set i y))[j]? = ((l.set i y)[j / 5]?).bind fun a => a.cells[j % 5]? := h2
  rw [h2', List.getElem?_set, List.getElem?_set]
  by_cases e : i * 5 + r = j
  · rw [if_pos e, if_pos (show i * 5 + r < (frCells l).length by rw [frCells_len]; omega), if_pos (show i = j / 5 by omega), if_pos hi, Option.bind_some, h, show j % 5 = r by omega, List.getElem?_set_self (by show r < 5; exact hr)]
  · rw [if_neg e, h1']
    by_cases e2 : i = j / 5
    · rw [if_pos e2, if_pos hi, Option.bind_some, h, List.getElem?_set_ne (by omega), ← e2, List.getElem?_eq_getElem hi, Option.bind_some]
    · rw [if_neg e2]
/-- The one that stands as the i-th is tainted. -/
theorem StackAt.taint {w : World} {B G : Nat} {c : Nat} {l : List Fr} (h : StackAt w B (some ⟨G, 0, none⟩) c l) {i : Nat} (hi : i < l.length) :
    StackAt (w.setCell ⟨G, i * 5 + 4, none⟩ (.bool true)) B (some ⟨G, 0, none⟩) c (l.set i ⟨{ l[i].f with tnt := true }, l[i].bt, l[i].bi⟩) ∧ Chg [G] w (w.setCell ⟨G, i * 5 + 4, none⟩ (.bool true)) := by
  obtain ⟨_, _, _, ⟨cur, hcur⟩, hp⟩ := row_put h.row (i := i * 5 + 4) (by omega)
  obtain ⟨p1, p2⟩ := hp (.bool true)
  have hnm : ∀ {b : Nat}, b ∈ mapsOf l → b ∉ [G] := fun {b} hb hm => by
    simp only [List.mem_singleton] at hm
    exact h.notMap hcur (hm ▸ hb)
  refine ⟨⟨?_, ?_, fun x hx => ?_, by rw [mapsOf_set (y := ⟨{ l[i].f with tnt := true }, l[i].bt, l[i].bi⟩) hi rfl rfl]; exact h.apart, fun x hx => ?_⟩, p2⟩
  · rw [List.length_set]
    exact p2.heap h.top (fun hm => by simp only [List.mem_singleton] at hm; exact h.topNeRow (by rw [hm]; rfl))
  · rw [List.length_set, ← frCells_put hi (by decide : (4 : Nat) < 5) (v := .bool true) (by simp [Fr.cells])]
    exact p1
  · have key : ∀ y ∈ l, SetIs (w.setCell ⟨G, i * 5 + 4, none⟩ (.bool true)) y.bt y.f.tch ∧ SetIs (w.setCell ⟨G, i * 5 + 4, none⟩ (.bool true)) y.bi y.f.inv := fun y hy =>
      ⟨(h.sets y hy).1.chg p2 (hnm (mem_mapsOf.2 ⟨y, hy, .inl rfl⟩)), (h.sets y hy).2.chg p2 (hnm (mem_mapsOf.2 ⟨y, hy, .inr rfl⟩))⟩
    rcases List.mem_or_eq_of_mem_set hx with hx | rfl
    · exact key x hx
    · exact key l[i] (List.getElem_mem hi)
  · rcases List.mem_or_eq_of_mem_set hx with hx | rfl
    · exact h.wf x hx
    · exact h.wf l[i] (List.getElem_mem hi)

def rdF (k i : Nat) (R : List Int) (j : Nat) (x : Fr) : Fr :=
  if j = k then ⟨{ x.f with inv := addL x.f.inv R }, x.bt, x.bi⟩ else if k < j ∧ j < i then ⟨{ x.f with tnt := true }, x.bt, x.bi⟩ else x
theorem rdF_k (k i : Nat) (R : List Int) (x : Fr) : rdF k i R k x = ⟨{ x.f with inv := addL x.f.inv R }, x.bt, x.bi⟩ := by simp [rdF]
theorem rdF_mid {k i j : Nat} {R : List Int} {x : Fr} (h1 : k < j) (h2 : j < i) : rdF k i R j x = ⟨{ x.f with tnt := true }, x.bt, x.bi⟩ := by
  unfold rdF
  rw [if_neg (show ¬ j = k by omega), if_pos ⟨h1, h2⟩]
theorem rdF_out {k i j : Nat} {R : List Int} {x : Fr} (h1 : j ≠ k) (h2 : ¬ (k < j ∧ j < i)) : rdF k i R j x = x := by
  unfold rdF
  rw [if_neg h1, if_neg h2]
def rdR (k i : Nat) (l : List Fr) : List Int := ((l.drop (k + 1)).take (i - (k + 1))).map (·.f.rule)
def rl (k i : Nat) (l : List Fr) : List Fr := l.mapIdx (rdF k i (rdR k i l))
theorem rl_len (k i : Nat) (l : List Fr) : (rl k i l).length = l.length := by simp [rl]
theorem rl_get {k i j : Nat} {l : List Fr} (hj : j < l.length) : (rl k i l)[j]'(by rw [rl_len]; exact hj) = rdF k i (rdR k i l) j l[j] := by simp [rl]
theorem rdR_succ {k i : Nat} {l : List Fr} (hk : k < i) (hi : i < l.length) : rdR k (i + 1) l = rdR k i l ++ [l[i].f.rule] := by
  unfold rdR
  have h1 : i - (k + 1) < (l.drop (k + 1)).length := by rw [List.length_drop]; omega
  rw [show i + 1 - (k + 1) = i - (k + 1) + 1 by omega, List.take_succ_eq_append_getElem h1, List.map_append]
  congr 1
  have e : k + 1 + (i - (k + 1)) = i := by omega
  simp only [List.getElem_drop, List.map_cons, List.map_nil, e]
theorem rdR_start (k : Nat) (l : List Fr) : rdR k (k + 1) l = [] := by simp [rdR]
theorem rl_start {k : Nat} {l : List Fr} : rl k (k + 1) l = l := by
  apply List.ext_getElem
  · exact rl_len _ _ _
  · intro j h1 h2
    rw [rl_get h2, rdR_start]
    unfold rdF
    split
    · simp [addL]
    · rw [if_neg (by omega)]
theorem rl_succ {k i : Nat} {l : List Fr} (hk : k < i) (hi : i < l.length) :
    rl k (i + 1) l = ((rl k i l).set i ⟨{ l[i].f with tnt := true }, l[i].bt, l[i].bi⟩).set k ⟨{ (l[k]'(by omega)).f with inv := addS (addL (l[k]'(by omega)).f.inv (rdR k i l)) l[i].f.rule }, (l[k]'(by omega)).bt, (l[k]'(by omega)).bi⟩ := by
  apply List.ext_getElem
  · simp [rl_len]
  · intro j h1 h2
    rw [rl_len] at h1
    rw [rl_get h1, List.getElem_set, List.getElem_set]
    by_cases e1 : j = k
    · subst e1
      rw [rdF_k, if_pos rfl, rdR_succ hk hi, addL_snoc]
    · rw [if_neg (show ¬ k = j from fun h => e1 h.symm)]
      by_cases e2 : j = i
      · subst e2
        rw [rdF_mid hk (by omega), if_pos rfl]
      · rw [if_neg (show ¬ i = j from fun h => e2 h.symm), rl_get h1]
        by_cases e3 : k < j ∧ j < i
        · rw [rdF_mid e3.1 (by omega), rdF_mid e3.1 e3.2]
        · rw [rdF_out e1 (by omega), rdF_out e1 e3]
theorem fms_rl {k : Nat} {l : List Fr} {r p : Int} (hk : k < l.length) (h : atI (fms l) r p = k) : fms (rl k l.length l) = (fms l).mapIdx fun i f => if (i : Int) = atI (fms l) r p then { f with inv := addL f.inv (((fms l).drop (i + 1)).map (·.rule)) } else if atI (fms l) r p < i then { f with tnt := true } else f := by
  apply List.ext_getElem
  · simp [fms_len, rl_len]
  · intro j h1 h2
    rw [fms_len, rl_len] at h1
    rw [fms_get _ (by rw [rl_len]; exact h1), rl_get h1, List.getElem_mapIdx, fms_get l h1, h]
    by_cases e1 : j = k
    · subst e1
      rw [rdF_k, if_pos rfl]
      simp only
      congr 2
      unfold rdR fms
      rw [List.take_of_length_le (by rw [List.length_drop]; exact Nat.le_refl _), ← List.map_drop, List.map_map]
      rfl
    · rw [if_neg (show ¬ ((j : Int) = k) by omega)]
      by_cases e2 : k < j
      · rw [rdF_mid e2 h1, if_pos (show ((k : Int) < j) by omega)]
      · rw [rdF_out e1 (by omega), if_neg (show ¬ ((k : Int) < j) by omega)]
theorem rl_maps (k i : Nat) (l : List Fr) : mapsOf (rl k i l) = mapsOf l := by
  unfold mapsOf
  rw [List.flatMap_def, List.flatMap_def]
  congr 1
  apply List.ext_getElem
  · simp [rl_len]
  · intro j h1 h2
    simp only [List.length_map] at h1 h2
    rw [List.getElem_map, List.getElem_map, rl_get h2]
    unfold rdF
    split
    · rfl
    · split <;> rfl
theorem fpS_rl (B : Nat) (a : Option Addr) (c k i : Nat) (l : List Fr) : fpS B a c (rl k i l) = fpS B a c l := by
  unfold fpS
  rw [rl_maps, rl_len]
end Go.Proofs.Ytnajhcoimohcaaa

/-
  LeftOwn, plain: the marks that the law lays, from the node to its end; what is picked tells the marks.
  Conditions: the grammar is right, the node in its range.
-/
import Derived.Test.YtibgfgfmljhimaaLf4
set_option linter.unusedVariables false
set_option linter.unusedSimpArgs false
set_option linter.unnecessarySimpa false
namespace Go.Proofs.Ytibgfgfmljhimaa

def rowM (g : Gr) (n m : Nat) : List Bool := (List.range g.nodes.length).map fun j => markM g.nodes (mayG g) n m j
def rowT (g : Gr) (n m t : Nat) : List Bool := (List.range g.nodes.length).map fun j => markT g.nodes (mayG g) n m t j
def callR (g : Gr) (n m : Nat) : List Bool := (List.range g.rules.length).map fun r => (List.range m).any fun p => decide ((p : Int) ∈ ownG g n) && isCall g.nodes p r
theorem rowM_len (g : Gr) (n m : Nat) : (rowM g n m).length = g.nodes.length := by simp [rowM]
theorem rowT_len (g : Gr) (n m t : Nat) : (rowT g n m t).length = g.nodes.length := by simp [rowT]
theorem callR_len (g : Gr) (n m : Nat) : (callR g n m).length = g.rules.length := by simp [callR]
theorem own_range {g : Gr} (hr : rightB g = true) {n : Nat} (hn : n < g.nodes.length) {x : Int} (hx : x ∈ ownG g n) : (n : Int) ≤ x ∧ x < endsG g n := (ownN_sorted (right_tree hr) (mayG g) g.nodes.length n (by omega) hn).2 x hx
theorem rowM_start {g : Gr} (hr : rightB g = true) {n : Nat} (hn : n < g.nodes.length) : (List.replicate g.nodes.length false).set n true = rowM g n n := by
  refine List.ext_getElem (by simp [rowM]) (fun j h1 h2 => ?_)
  rw [List.getElem_set]
  simp only [rowM, List.getElem_map, List.getElem_range, List.getElem_replicate]
  by_cases e : n = j
  · rw [if_pos e, eq_comm, markM_iff]; exact .inl e.symm
  · rw [if_neg e, eq_comm, Bool.eq_false_iff]
    intro hm
    rcases markM_iff.1 hm with h | ⟨p, h3, _, h4, _⟩
    · exact e h.symm
    · have := (own_range hr hn h4).1; omega
theorem rowM_now {g : Gr} (hr : rightB g = true) {n m : Nat} (hn : n < g.nodes.length) (hm : m < g.nodes.length) : (rowM g n m)[m]? = some (decide ((m : Int) ∈ ownG g n)) := by
  simp only [rowM, List.getElem?_map, List.getElem?_range hm, Option.map_some]
  rw [markM_now (right_tree hr) (mayG g) hn (Nat.le_refl m)]
  rfl
theorem rowM_skip {g : Gr} {n m : Nat} (h : (m : Int) ∉ ownG g n) : rowM g n m = rowM g n (m + 1) := List.map_congr_left fun j _ => markM_skip h j
theorem rowT_zero (g : Gr) (n m : Nat) : rowT g n m 0 = rowM g n m := List.map_congr_left fun j _ => markT_zero _ _ n m j
theorem rowT_set {g : Gr} (hr : rightB g = true) {n m t : Nat} (hn : n < g.nodes.length) (hm : m < g.nodes.length) (hnm : n ≤ m) (ht : t < g.nodes[m].kids.length) {q : Nat} (hq : g.nodes[m].kids[t] = (q : Int)) :
    (rowT g n m t).set q (openT g.nodes[m].k (mayG g) g.nodes[m].kids t) = rowT g n m (t + 1) := by
  refine List.ext_getElem (by simp [rowT]) (fun j h1 h2 => ?_)
  rw [List.getElem_set]
  simp only [rowT, List.getElem_map, List.getElem_range]
  rw [markT_succ (right_tree hr) hn hm hnm ht hq j]
  by_cases e : q = j
  · rw [if_pos e, if_pos e.symm]
  · rw [if_neg e, if_neg (Ne.symm e)]
theorem rowT_end {g : Gr} {n m : Nat} (hm : m < g.nodes.length) (hin : (m : Int) ∈ ownG g n) : rowT g n m g.nodes[m].kids.length = rowM g n (m + 1) := List.map_congr_left fun j _ => markT_end hm hin (Nat.le_refl _) j
/-- Who is at the node's own place. -/
def inO (g : Gr) (n : Nat) (j : Nat) : Bool := decide ((j : Int) ∈ ownG g n)
def calO (g : Gr) (n : Nat) (r : Nat) : Bool := (ownG g n).any fun k => isCall g.nodes k r
theorem rowM_end {g : Gr} (hr : rightB g = true) {n : Nat} (hn : n < g.nodes.length) : rowM g n (endsG g n) = (List.range g.nodes.length).map (inO g n) := List.map_congr_left fun j _ => markM_end (right_tree hr) (mayG g) hn j
theorem callR_start {g : Gr} (hr : rightB g = true) {n : Nat} (hn : n < g.nodes.length) : List.replicate g.rules.length false = callR g n n := by
  refine List.ext_getElem (by simp [callR]) (fun j h1 h2 => ?_)
  simp only [callR, List.getElem_map, List.getElem_range, List.getElem_replicate]
  rw [eq_comm, List.any_eq_false]
  intro p hp
  rw [List.mem_range] at hp
  have : (p : Int) ∉ ownG g n := fun h => by have := (own_range hr hn h).1; omega
  simp [this]
theorem callR_skip {g : Gr} {n m : Nat} (h : (m : Int) ∉ ownG g n) : callR g n m = callR g n (m + 1) := by
  refine List.map_congr_left fun r _ => ?_
  rw [List.range_succ, List.any_append]
  simp [h]
theorem callR_same {g : Gr} {n m : Nat} (hm : m < g.nodes.length) (hk : g.nodes[m].k ≠ 5) : callR g n m = callR g n (m + 1) := by
  refine List.map_congr_left fun r _ => ?_
  rw [List.range_succ, List.any_append]
  simp [isCall_at hm, hk]
theorem callR_put {g : Gr} {n m : Nat} (hm : m < g.nodes.length) (hin : (m : Int) ∈ ownG g n) (hk : g.nodes[m].k = 5) {q : Nat} (hq : g.nodes[m].r = (q : Int)) : (callR g n m).set q true = callR g n (m + 1) := by
  refine List.ext_getElem (by simp [callR]) (fun j h1 h2 => ?_)
  rw [List.getElem_set]
  simp only [callR, List.getElem_map, List.getElem_range, List.range_succ, List.any_append, List.any_cons, List.any_nil, Bool.or_false, isCall_at hm, hk, hq, hin, decide_true, Bool.true_and]
  by_cases e : q = j
  · rw [if_pos e]; simp [e]
  · rw [if_neg e]
    have : ¬ ((q : Int) = (j : Int)) := by omega
    simp [this]
theorem callR_end {g : Gr} (hr : rightB g = true) {n : Nat} (hn : n < g.nodes.length) : callR g n (endsG g n) = (List.range g.rules.length).map (calO g n) := by
  refine List.map_congr_left fun r _ => ?_
  rw [Bool.eq_iff_iff, calO, List.any_eq_true, List.any_eq_true]
  constructor
  · rintro ⟨p, _, h⟩
    rw [Bool.and_eq_true, decide_eq_true_eq] at h
    exact ⟨p, h.1, h.2⟩
  · rintro ⟨x, hx, h⟩
    obtain ⟨h1, h2⟩ := own_range hr hn hx
    obtain ⟨p, rfl⟩ : ∃ p : Nat, x = p := ⟨x.toNat, by omega⟩
    exact ⟨p, List.mem_range.2 (by omega), by simp [hx, h]⟩
theorem range_at {n : Nat} {F : Nat → Bool} {j : Nat} (hj : j < n) : ((List.range n).map F)[j]? = some (F j) := by simp [hj]
theorem ownG_pick {g : Gr} (hr : rightB g = true) {n : Nat} (hn : n < g.nodes.length) : ownG g n = pickL g.nodes.length (inO g n) := ownN_pick (right_tree hr) (mayG g) hn
theorem calO_lt {g : Gr} (hr : rightB g = true) {n r : Nat} (h : calO g n r = true) : r < g.rules.length := by
  obtain ⟨k, hk, hc⟩ := List.any_eq_true.1 h
  unfold isCall at hc
  split at hc
  · cases hc
  · rename_i x hx
    simp only [Bool.and_eq_true, decide_eq_true_eq] at hc
    have := right_calls hr x (List.mem_of_getElem? hx) hc.1
    omega
theorem callsG_rules {g : Gr} (hr : rightB g = true) (n : Nat) : callsG g n = pickL g.rules.length (calO g n) := by
  refine sorted_ext (pickL_sorted _ _) (pickL_sorted _ _) fun x => ?_
  unfold callsG
  rw [mem_pickL, mem_pickL]
  have hs := (right_sizes hr).2.1
  constructor
  · rintro ⟨q, h1, h2, h3⟩; exact ⟨q, h1, calO_lt hr h3, h3⟩
  · rintro ⟨q, h1, h2, h3⟩; exact ⟨q, h1, by omega, h3⟩
theorem pick_split (n : Nat) (F : Nat → Bool) (j : Nat) (hj : j ≤ n) : ∃ l, pickL n F = pickL j F ++ l := by
  induction n with
  | zero => obtain rfl : j = 0 := by omega
            exact ⟨[], by simp⟩
  | succ n ih =>
    by_cases e : j = n + 1
    · subst e; exact ⟨[], by simp⟩
    · obtain ⟨l, hl⟩ := ih (by omega)
      exact ⟨l ++ if F n then [(n : Int)] else [], by rw [pickL_succ, hl, List.append_assoc]⟩
/-- What stands at the place where the picked so far end. -/
theorem pick_at {n : Nat} {F : Nat → Bool} {j : Nat} (hj : j < n) (hF : F j = true) : ∃ h : (pickL j F).length < (pickL n F).length, (pickL n F)[(pickL j F).length] = (j : Int) := by
  obtain ⟨l, hl⟩ := pick_split n F (j + 1) hj
  rw [pickL_succ, if_pos hF] at hl
  have h : (pickL j F).length < (pickL n F).length := by rw [hl]; simp
  refine ⟨h, ?_⟩
  have : (pickL n F)[(pickL j F).length]? = some (j : Int) := by rw [hl, List.append_assoc]; simp
  rw [List.getElem?_eq_getElem h] at this
  exact Option.some.inj this
theorem pick_next {F : Nat → Bool} {j : Nat} : (pickL (j + 1) F).length = (pickL j F).length + if F j then 1 else 0 := by
  rw [pickL_succ, List.length_append]
  split <;> simp
theorem size_of {g : Gr} (hr : rightB g = true) {n : Nat} (hn : n < g.nodes.length) : ∃ z : Nat, 1 ≤ z ∧ sizeG g n = z ∧ endsG g n = n + z ∧ n + z ≤ g.nodes.length := by
  obtain ⟨h1, h2⟩ := (right_tree hr).le n hn
  unfold endsG at h1 h2
  refine ⟨(sizeG g n).toNat, by omega, by omega, rfl, h2⟩
theorem size_zero {g : Gr} {n : Int} (h : ¬ (rightB g = true ∧ 0 ≤ n ∧ n < g.nodes.length)) : sizeG g n = 0 := by
  by_cases hr : rightB g = true
  · exact (size_out (fun h' => h ⟨hr, h'⟩)).1
  · refine (size_none ?_ n).1
    rw [rightB_iff] at hr
    cases e : wholeT g with
    | none => rfl
    | some t => rw [e] at hr; exact absurd rfl hr
end Go.Proofs.Ytibgfgfmljhimaa

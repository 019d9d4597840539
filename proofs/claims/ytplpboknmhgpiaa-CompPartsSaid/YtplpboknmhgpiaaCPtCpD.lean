/-
  Graphs in plain words: more of the search, of the order, for the walks.
  Conditions: none.
-/
import Derived.Test.YtplpboknmhgpiaaCPtCpB
set_option linter.unusedVariables false
set_option linter.unusedSimpArgs false
set_option linter.unnecessarySimpa false
namespace Go.Proofs.Ytplpboknmhgpiaa.Cp
section
variable {G : List (List Nat)}
theorem wf_aside_len {C : List Nat} {s : TS} (h : Wf G C s) : s.aside.length ≤ G.length := by
  have := len_sub (wf_nodup h) (m := List.range G.length) (fun x hx => List.mem_range.2 (wf_aside_lt h x hx))
  rwa [List.length_range] at this
/-- What is known within a visit, so many edges gone through. -/
theorem mid_facts (hG : RG G) {k : Nat} {C : List Nat} {s : TS} {a : Nat} (h : Pre G C s a (k + 1)) (hm : s.met a = 0) (hk : clk G.length s ≤ G.length) {j : Nat} (hj : j ≤ (row G a).length) :
    clk G.length (midT G k s a j) ≤ G.length ∧ (midT G k s a j).aside.length ≤ G.length ∧ a ∈ (midT G k s a j).aside ∧ (midT G k s a j).aside.Nodup ∧ (∀ x ∈ (midT G k s a j).aside, x < G.length) ∧ (midT G k s a j).met a = s.clock + 1 ∧
    (∀ (hj : j < (row G a).length), Pre G (a :: C) (midT G k s a j) (row G a)[j] k) := by
  obtain ⟨new, hM⟩ := mid_any hG h hm j hj
  exact ⟨Nat.le_trans (mid_clk hG k h.lt hm j hj) hk, wf_aside_len hM.wf, by rw [hM.aside]; simp, wf_nodup hM.wf, wf_aside_lt hM.wf, hM.met_a, fun hj => h.next hG hm hM (List.getElem_mem hj)⟩
theorem back_small (hG : RG G) {C : List Nat} {s : TS} (h : Wf G C s) (hk : clk G.length s ≤ G.length) {a : Nat} (ha : a ∈ s.aside) : s.back a ≤ 64 ∧ s.met a ≤ 64 := by
  have h1 := (h.low a ha).1
  have h2 := h.clock a
  have h3 : s.clock ≤ G.length := Nat.le_trans (Nat.le_add_right _ _) hk
  have := hG.few
  omega
end
section
variable {G : List (List Nat)}
def markT (f : Nat → Int) (v : Int) (l : List Nat) : Nat → Int := fun i => if i ∈ l then v else f i
theorem markT_nil (f : Nat → Int) (v : Int) : markT f v [] = f := by funext i; unfold markT; rw [if_neg (by simp)]
theorem markT_snoc (f : Nat → Int) (v : Int) (l : List Nat) (b : Nat) : markT f v (l ++ [b]) = upd (markT f v l) b v := by
  funext i
  unfold markT upd
  by_cases h : i = b
  · subst h; simp
  · simp [h]
/-- What is left of a number whose part ends with it. -/
theorem leave_not {n : Nat} {s : TS} {a j : Nat} (h : ¬ s.back a < s.met a) (h1 : topT s.aside a = s.aside.take (j + 1)) (h2 : dropT s.aside a = s.aside.drop (j + 1)) :
    leaveT n s a = { s with aside := s.aside.drop (j + 1), part := markT s.part (s.parts.length : Int) (s.aside.take (j + 1)), parts := s.parts ++ [(List.range n).filter (fun i => decide (i ∈ s.aside.take (j + 1)))] } := by
  unfold leaveT
  rw [if_neg h, h1, h2]; rfl
theorem drop_cons {l : List Nat} {t : Nat} (ht : t < l.length) : (l.drop t).reverse = (l.drop (t + 1)).reverse ++ [l[t]] := by
  rw [List.drop_eq_getElem_cons ht, List.reverse_cons]
theorem sort_part {n : Nat} {l : List Nat} (hn : l.Nodup) (hl : ∀ x ∈ l, x < n) : ((l.map (fun (x : Nat) => (x : Int))).mergeSort fun x y => decide (x ≤ y)) = ((List.range n).filter (fun i => decide (i ∈ l))).map (fun (x : Nat) => (x : Int)) := by
  refine sorted_part hn hl (List.mergeSort_perm _ _) ?_
  have := List.pairwise_mergeSort (le := fun (x y : Int) => decide (x ≤ y)) (fun a b c h1 h2 => by simp at *; omega) (fun a b => by simp; omega) (l.map (fun (x : Nat) => (x : Int)))
  exact this.imp (fun h => by simpa using h)
end
section
variable {G : List (List Nat)}
theorem wf_parts_len {C : List Nat} {s : TS} (h : Wf G C s) : s.parts.length ≤ G.length := by
  have hex : ∀ p, p < s.parts.length → ∃ a, s.part a = (p : Int) := h.some
  let f : Nat → Nat := fun p => if hp : p < s.parts.length then (hex p hp).choose else 0
  have hf : ∀ p, p < s.parts.length → s.part (f p) = (p : Int) := fun p hp => by
    have := (hex p hp).choose_spec
    simp only [f, hp, dif_pos]; exact this
  have hnd : ((List.range s.parts.length).map f).Nodup := by
    rw [List.nodup_iff_pairwise_ne, List.pairwise_map]
    refine (List.nodup_iff_pairwise_ne.1 List.nodup_range).imp_of_mem fun {x y} hx hy hxy e => hxy ?_
    have h1 := hf x (List.mem_range.1 hx)
    have h2 := hf y (List.mem_range.1 hy)
    rw [e] at h1; omega
  have := len_sub hnd (m := List.range G.length) (fun x hx => by
    obtain ⟨p, hp, rfl⟩ := List.mem_map.1 hx
    have h1 := hf p (List.mem_range.1 hp)
    refine List.mem_range.2 (h.lt _ (Nat.pos_of_ne_zero fun e => ?_))
    have := h.white _ e
    omega)
  simpa using this
theorem mid_parts (hG : RG G) {k : Nat} {C : List Nat} {s : TS} {a : Nat} (h : Pre G C s a (k + 1)) (hm : s.met a = 0) {j : Nat} (hj : j ≤ (row G a).length) : (midT G k s a j).parts.length ≤ G.length := by
  obtain ⟨new, hM⟩ := mid_any hG h hm j hj
  exact wf_parts_len hM.wf
end
end Go.Proofs.Ytplpboknmhgpiaa.Cp
set_option linter.unusedVariables false
set_option linter.unusedSimpArgs false
set_option linter.unnecessarySimpa false
namespace Go.Proofs.Ytplpboknmhgpiaa.Cp
section
variable {G : List (List Nat)}
theorem row_len (hG : RG G) (a : Nat) : (row G a).length ≤ 64 := by
  have := len_sub (l := row G a) (m := List.range G.length) ((hG.rise a).imp (fun h => Nat.ne_of_lt h)) (fun x hx => List.mem_range.2 (hG.lt a x hx))
  rw [List.length_range] at this
  have := hG.few; omega
theorem dfs_len {met : Nat → Bool} {l : List Nat} : l.length ≤ dfsM G met l := by unfold dfsM; omega
theorem dfs_first (hG : RG G) (a : Nat) : dfsM G (fun _ => false) [a] ≤ 4097 := by
  unfold dfsM
  have key : ∀ l : List Nat, (l.map (fun c => if (fun _ : Nat => false) c = true then 0 else (row G c).length)).sum ≤ l.length * 64 := by
    intro l
    induction l with
    | nil => simp
    | cons c l ih =>
      rw [List.map_cons, List.sum_cons, List.length_cons]
      have := row_len hG c
      simp only [Bool.false_eq_true, if_false] at ih ⊢
      omega
  have h1 := key (List.range G.length)
  rw [List.length_range] at h1
  have := hG.few
  rw [List.length_singleton]
  omega
end
end Go.Proofs.Ytplpboknmhgpiaa.Cp

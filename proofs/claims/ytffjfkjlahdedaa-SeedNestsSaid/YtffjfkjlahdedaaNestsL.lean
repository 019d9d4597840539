/-
  Plain facts for SeedNests: rows of unlike numbers, sorted, rise; each pair lies at one of five places.
  Conditions: none.
-/
import Derived.Test.YtffjfkjlahdedaaSeedJ
namespace Go.Proofs.Ytffjfkjlahdedaa

theorem sorted_rises {zs : List Int} (h : zs.Nodup) : (sorted zs).Pairwise (· < ·) := by
  have h1 : (sorted zs).Pairwise (fun x y => decide (x ≤ y) = true) :=
    List.pairwise_mergeSort (fun a b c h1 h2 => by simp at *; omega) (fun a b => by simp; omega) zs
  have h2 : (sorted zs).Nodup := (List.mergeSort_perm zs _).nodup_iff.2 h
  refine (h1.and h2).imp ?_
  intro a b hab
  have := hab.1
  have := hab.2
  simp at *
  omega
theorem rulesAt_nodup {s : St} (h : (s.map (·.1)).Nodup) (p : Int) : (rulesAt s p).Nodup := by
  unfold rulesAt
  have h1 : ((s.filter fun x => x.1.2 = p).map (·.1)).Nodup := h.sublist (List.filter_sublist.map _)
  have h2 : (s.filter fun x => x.1.2 = p).map (·.1.1) = ((s.filter fun x => x.1.2 = p).map (·.1)).map (·.1) := by simp [List.map_map, Function.comp_def]
  rw [h2]
  refine (List.pairwise_map.2 ?_)
  refine List.Pairwise.imp_of_mem ?_ h1
  intro a b ha hb hab he
  obtain ⟨x, hx, rfl⟩ := List.mem_map.1 ha
  obtain ⟨y, hy, rfl⟩ := List.mem_map.1 hb
  have h3 := (List.mem_filter.1 hx).2
  have h4 := (List.mem_filter.1 hy).2
  simp at h3 h4
  exact hab (Prod.ext he (h3.trans h4.symm))
/-- How many pairs lie at the places below a number. -/
def manyAt (s : St) : Nat → Nat
  | 0 => 0
  | p + 1 => manyAt s p + (rulesAt s p).length
theorem manyAt_five (s : St) (h : ∀ x ∈ s, 0 ≤ x.1.2 ∧ x.1.2 < 5) : manyAt s 5 = s.length := by
  induction s with
  | nil => rfl
  | cons x r ih =>
    have h1 := ih (fun y hy => h y (List.mem_cons_of_mem _ hy))
    have h2 := h x List.mem_cons_self
    simp only [manyAt, rulesAt, List.length_map, List.filter_cons, List.length_cons] at h1 ⊢
    have : x.1.2 = 0 ∨ x.1.2 = 1 ∨ x.1.2 = 2 ∨ x.1.2 = 3 ∨ x.1.2 = 4 := by omega
    rcases this with e | e | e | e | e <;> simp [e] at h1 ⊢ <;> omega
theorem rulesAt_le (s : St) (p : Int) : (rulesAt s p).length ≤ s.length := by
  unfold rulesAt
  rw [List.length_map]
  exact List.length_filter_le _ _
theorem manyAt_le (s : St) (p : Nat) : manyAt s p ≤ p * s.length := by
  induction p with
  | zero => simp [manyAt]
  | succ p ih => have := rulesAt_le s p; simp only [manyAt, Nat.add_mul]; omega
theorem last_take {s : St} {i : Nat} (h : i < s.length) : lastPair (s.take (i + 1)) = s[i].1 ∧ (s.take (i + 1)).isEmpty = false := by
  have h1 := List.take_succ_eq_append_getElem h
  generalize s.take (i + 1) = u at *
  generalize s.take i = t at *
  generalize s[i] = x at *
  subst h1
  simp [lastPair]
theorem dropLast_take' {s : St} {i : Nat} (h : i < s.length) : (s.take (i + 1)).dropLast = s.take i := by
  rw [List.take_succ_eq_append_getElem h, List.dropLast_concat]
theorem read_gone {s : St} {i : Nat} (h : i < s.length) (hn : (s.map (·.1)).Nodup) : St.read (s.take i) s[i].1 9 = (none, 1) := by
  have : s[i].1 ∉ (s.take i).map (·.1) := by
    intro hm
    rw [List.map_take] at hm
    obtain ⟨j, hj, he⟩ := List.getElem_of_mem hm
    simp at hj
    rw [List.getElem_take] at he
    have hj2 : j < (s.map (·.1)).length := by simp; omega
    have h1 : (s.map (·.1))[j]? = (s.map (·.1))[i]? := by rw [List.getElem?_eq_getElem hj2, he]; simp [h]
    have := (List.getElem?_inj hj2 hn).1 h1
    omega
  simp [St.read, St.get_none this]
theorem read_first {q : Int × Int} {tl : St} (i : Nat) : St.read ((((q, some (0, 0, [])) :: tl : St)).take (i + 1)) q 0 = (some (0, 0, []), 3) := by
  simp [St.read, St.get]
end Go.Proofs.Ytffjfkjlahdedaa

/-
  HeadsDoes, plain: what holds of the rows of a stack, and what it tells of its own pairs.
  Conditions: none.
-/
import Derived.Test.YtnajhcoimohcaaaSmHd0
set_option linter.unusedVariables false
set_option linter.unusedSimpArgs false
set_option linter.unnecessarySimpa false
namespace Go.Proofs.Ytnajhcoimohcaaa
open Go.RowKit Go.MapKept

abbrev DistF (s : List Fm) : Prop := s.Pairwise fun a b => ¬ (a.rule = b.rule ∧ a.place = b.place)
theorem atF_self {s : List Fm} (hd : DistF s) {i : Nat} (hi : i < s.length) : atI s s[i].rule s[i].place = i :=
  atI_some hi ⟨rfl, rfl⟩ (fun j hj => List.pairwise_iff_getElem.1 hd j i (by omega) hi hj)
theorem invF_self {s : List Fm} (hd : DistF s) {i : Nat} (hi : i < s.length) : invL s s[i].rule s[i].place = s[i].inv := by
  unfold invL
  rw [atF_self hd hi, if_neg (by omega), Int.toNat_natCast, List.getElem?_eq_getElem hi]
theorem freeF_self {s : List Fm} (hd : DistF s) {i : Nat} (hi : i < s.length) (ho : s[i].rule ∈ s[i].tch) : freeB s s[i].place s[i].tch = false := by
  unfold freeB
  rw [List.all_eq_false]
  refine ⟨s[i].rule, ho, ?_⟩
  rw [atF_self hd hi]
  simp
theorem distF_map {s : List Fm} {g : Fm → Fm} (h : DistF s) (hg : ∀ f, (g f).rule = f.rule ∧ (g f).place = f.place) : DistF (s.map g) := by
  refine List.pairwise_map.2 (h.imp fun {a b} hab => ?_)
  rw [(hg a).1, (hg b).1, (hg a).2, (hg b).2]
  exact hab
theorem touchF_rp (p : Int) (xs : List Int) (f : Fm) : (touchF p xs f).rule = f.rule ∧ (touchF p xs f).place = f.place := by
  unfold touchF
  split <;> exact ⟨rfl, rfl⟩
theorem distF_touch {s : List Fm} (h : DistF s) (p : Int) (xs : List Int) : DistF (touchS s p xs) := distF_map h (touchF_rp p xs)
theorem distF_enter {s : List Fm} (h : DistF s) (r p : Int) : DistF (enterS s r p).1 := by
  unfold enterS
  split
  · exact h
  · rename_i hn
    split
    · exact h
    · refine distF_touch (List.pairwise_append.2 ⟨h, by simp, fun a ha b hb => ?_⟩) _ _
      simp only [List.mem_singleton] at hb
      subst hb
      rcases atI_cases s r p with ⟨-, h2⟩ | ⟨k, hk, h1, -⟩
      · exact h2 a ha
      · omega
theorem distF_use {s : List Fm} (h : DistF s) (p : Int) (xs : List Int) : DistF (useS s p xs).1 := by
  unfold useS
  split
  · exact h
  · exact distF_touch h _ _
theorem ownF_touch {s : List Fm} (h : ∀ f ∈ s, f.rule ∈ f.tch) (p : Int) (xs : List Int) : ∀ f ∈ touchS s p xs, f.rule ∈ f.tch := fun f hf => by
  obtain ⟨f0, h0, rfl⟩ := List.mem_map.1 hf
  rw [(touchF_rp p xs f0).1]
  unfold touchF
  split
  · exact mem_addL.2 (.inl (h f0 h0))
  · exact h f0 h0
theorem ownF_enter {s : List Fm} (h : ∀ f ∈ s, f.rule ∈ f.tch) (r p : Int) : ∀ f ∈ (enterS s r p).1, f.rule ∈ f.tch := by
  unfold enterS
  split
  · exact h
  · split
    · exact h
    · intro f hf
      simp only [touchS, List.map_append, List.map_cons, List.map_nil, List.mem_append, List.mem_singleton] at hf
      rcases hf with hf | rfl
      · exact ownF_touch h p [r] f hf
      · simp [touchF, addL, addS]
theorem readM_get {s : List Fm} {r p : Int} {j : Nat} (hj : j < s.length) {f : Fm} (hf : f = if (j : Int) = atI s r p then { s[j] with inv := addL s[j].inv ((s.drop (j + 1)).map (·.rule)) } else if atI s r p < j then { s[j] with tnt := true } else s[j]) : f.rule = s[j].rule ∧ f.place = s[j].place ∧ f.tch = s[j].tch := by
  subst hf
  split
  · exact ⟨rfl, rfl, rfl⟩
  · split <;> exact ⟨rfl, rfl, rfl⟩
theorem distF_read {s : List Fm} (h : DistF s) (r p : Int) : DistF (readS s r p).1 := by
  unfold readS
  split
  · exact h
  · refine distF_touch (List.pairwise_iff_getElem.2 fun i j hi hj hij => ?_) _ _
    simp only [List.length_mapIdx] at hi hj
    simp only [List.getElem_mapIdx]
    have h1 := readM_get (r := r) (p := p) hi rfl
    have h2 := readM_get (r := r) (p := p) hj rfl
    rw [h1.1, h1.2.1, h2.1, h2.2.1]
    exact List.pairwise_iff_getElem.1 h i j hi hj hij
theorem ownF_read {s : List Fm} (h : ∀ f ∈ s, f.rule ∈ f.tch) (r p : Int) : ∀ f ∈ (readS s r p).1, f.rule ∈ f.tch := by
  unfold readS
  split
  · exact h
  · refine ownF_touch (fun f hf => ?_) _ _
    obtain ⟨j, hj, rfl⟩ := List.mem_iff_getElem.1 hf
    simp only [List.length_mapIdx] at hj
    simp only [List.getElem_mapIdx]
    have h1 := readM_get (r := r) (p := p) hj rfl
    rw [h1.1, h1.2.2]
    exact h _ (List.getElem_mem hj)
end Go.Proofs.Ytnajhcoimohcaaa
set_option linter.unusedVariables false
set_option linter.unusedSimpArgs false
set_option linter.unnecessarySimpa false
namespace Go.Proofs.Ytnajhcoimohcaaa
open Go.RowKit Go.MapKept

/-- What holds of the rows of a stack behind k deeds. -/
structure GoodS (k : Nat) (s : List Fm) : Prop where
  dist : DistF s
  own : ∀ f ∈ s, f.rule ∈ f.tch
  few : s.length ≤ k
  inv : ∀ f ∈ s, f.inv.length ≤ 200 * k
  tch : ∀ f ∈ s, f.tch.length ≤ 200 * k
theorem GoodS.nil : GoodS 0 [] := ⟨List.Pairwise.nil, by simp, by simp, by simp, by simp⟩
theorem GoodS.mono {k m : Nat} {s : List Fm} (h : GoodS k s) (hk : k ≤ m) : GoodS m s :=
  ⟨h.dist, h.own, Nat.le_trans h.few hk, fun f hf => by have := h.inv f hf; omega, fun f hf => by have := h.tch f hf; omega⟩
theorem touchF_inv (p : Int) (xs : List Int) (f : Fm) : (touchF p xs f).inv = f.inv := by
  unfold touchF
  split <;> rfl
theorem touchF_len (p : Int) (xs : List Int) (f : Fm) : (touchF p xs f).tch.length ≤ f.tch.length + xs.length := by
  unfold touchF
  split
  · exact addL_len
  · exact Nat.le_add_right _ _
theorem readS_len (s : List Fm) (r p : Int) : (readS s r p).1.length = s.length := by
  unfold readS
  split
  · rfl
  · simp [touchS]
theorem useS_len (s : List Fm) (p : Int) (xs : List Int) : (useS s p xs).1.length = s.length := by
  unfold useS
  split
  · rfl
  · simp [touchS]
theorem enterS_len (s : List Fm) (r p : Int) : (enterS s r p).1.length ≤ s.length + 1 := by
  unfold enterS
  split
  · exact Nat.le_succ _
  · split
    · exact Nat.le_succ _
    · simp [touchS]
theorem GoodS.enter {k : Nat} {s : List Fm} (h : GoodS k s) (r p : Int) : GoodS (k + 1) (enterS s r p).1 := by
  refine ⟨distF_enter h.dist r p, ownF_enter h.own r p, Nat.le_trans (enterS_len s r p) (Nat.succ_le_succ h.few), ?_, ?_⟩
  · unfold enterS
    split
    · exact fun f hf => by have := h.inv f hf; omega
    · split
      · exact fun f hf => by have := h.inv f hf; omega
      · intro f hf
        obtain ⟨f0, h0, rfl⟩ := List.mem_map.1 hf
        rw [touchF_inv]
        rcases List.mem_append.1 h0 with h0 | h0
        · have := h.inv f0 h0; omega
        · simp only [List.mem_singleton] at h0; subst h0; simp
  · unfold enterS
    split
    · exact fun f hf => by have := h.tch f hf; omega
    · split
      · exact fun f hf => by have := h.tch f hf; omega
      · intro f hf
        obtain ⟨f0, h0, rfl⟩ := List.mem_map.1 hf
        have h1 := touchF_len p [r] f0
        simp only [List.length_cons, List.length_nil] at h1
        rcases List.mem_append.1 h0 with h0 | h0
        · have := h.tch f0 h0; omega
        · simp only [List.mem_singleton] at h0; subst h0; simp only [List.length_nil] at h1; omega
theorem GoodS.use {k : Nat} {s : List Fm} (h : GoodS k s) (p : Int) {xs : List Int} (hx : xs.length ≤ 200) : GoodS (k + 1) (useS s p xs).1 := by
  refine ⟨distF_use h.dist p xs, ?_, by rw [useS_len]; have := h.few; omega, ?_, ?_⟩
  · unfold useS
    split
    · exact h.own
    · exact ownF_touch h.own p xs
  · unfold useS
    split
    · exact fun f hf => by have := h.inv f hf; omega
    · intro f hf
      obtain ⟨f0, h0, rfl⟩ := List.mem_map.1 hf
      rw [touchF_inv]
      have := h.inv f0 h0; omega
  · unfold useS
    split
    · exact fun f hf => by have := h.tch f hf; omega
    · intro f hf
      obtain ⟨f0, h0, rfl⟩ := List.mem_map.1 hf
      have h1 := touchF_len p xs f0
      have := h.tch f0 h0; omega
theorem GoodS.take {k : Nat} {s : List Fm} (h : GoodS k s) (n : Nat) : GoodS (k + 1) (s.take n) :=
  ⟨h.dist.sublist (List.take_sublist _ _), fun f hf => h.own f (List.mem_of_mem_take hf), by rw [List.length_take]; have := h.few; omega, fun f hf => by have := h.inv f (List.mem_of_mem_take hf); omega, fun f hf => by have := h.tch f (List.mem_of_mem_take hf); omega⟩
theorem GoodS.read {k : Nat} {s : List Fm} (h : GoodS k s) (hk : k ≤ 200) (r p : Int) : GoodS (k + 1) (readS s r p).1 := by
  refine ⟨distF_read h.dist r p, ownF_read h.own r p, by rw [readS_len]; have := h.few; omega, ?_, ?_⟩
  · unfold readS
    split
    · exact fun f hf => by have := h.inv f hf; omega
    · intro f hf
      obtain ⟨f0, h0, rfl⟩ := List.mem_map.1 hf
      rw [touchF_inv]
      obtain ⟨j, hj, rfl⟩ := List.mem_iff_getElem.1 h0
      simp only [List.length_mapIdx] at hj
      simp only [List.getElem_mapIdx]
      have h2 := h.inv _ (List.getElem_mem hj)
      split
      · have h3 : (addL s[j].inv ((s.drop (j + 1)).map (·.rule))).length ≤ _ := addL_len
        simp only [List.length_map, List.length_drop] at h3
        have := h.few
        simp only
        omega
      · split
        · simp only; omega
        · omega
  · unfold readS
    split
    · exact fun f hf => by have := h.tch f hf; omega
    · intro f hf
      obtain ⟨f0, h0, rfl⟩ := List.mem_map.1 hf
      have h1 := touchF_len p [r] f0
      simp only [List.length_cons, List.length_nil] at h1
      obtain ⟨j, hj, rfl⟩ := List.mem_iff_getElem.1 h0
      simp only [List.length_mapIdx] at hj
      have h2 := h.tch _ (List.getElem_mem hj)
      simp only [List.getElem_mapIdx] at h1 ⊢
      have h3 := readM_get (s := s) (r := r) (p := p) hj rfl
      rw [h3.2.2] at h1
      omega
end Go.Proofs.Ytnajhcoimohcaaa

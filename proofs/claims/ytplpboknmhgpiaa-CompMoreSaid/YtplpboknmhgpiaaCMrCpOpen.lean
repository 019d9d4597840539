/-
  Rows of rows of numbers among the arguments, opened.
  Conditions: none.
-/
import Derived.Test.YtplpboknmhgpiaaCMrCpG
import Derived.Test.YtplpboknmhgpiaaCMrGOpen
set_option linter.unusedVariables false
set_option linter.unusedSimpArgs false
set_option linter.unnecessarySimpa false
namespace Go.Proofs.Ytplpboknmhgpiaa
open Go.ChangeShapes Go.WideShapes Go.ChangeAt Go.RowKit Go.Deep Go.Joins

theorem Try.cellsIntsQ : Try.prog.cellsOf 26 = 1 := by kernel_rfl
theorem Try.bytesIntsQ : Try.prog.bytesOf 26 = 24 := by kernel_rfl
section
variable {H : Type} {enc : TypeId × Value → H} {w : World} {base : Nat} {held : Bool}
theorem trod_introws {fuel : Nat} {cs : List Value} {x : DataW H × List MemPlace} (h : DataW.trod enc Try.prog w base (fun _ => true) held fuel 22 cs = some x) :
    ∃ a n c VS, cs = [.slice a n c] ∧ n = VS.length ∧ n ≤ c ∧ c ≤ maxLen ∧ IntRows w a VS ∧ (∀ p ∈ VS, ∀ z ∈ p.2.2, I64 z) ∧ (Within 22 x.1 → n * 24 ≤ reachBytes ∧ ∀ p ∈ VS, p.2.2.length * 8 ≤ reachBytes) := by
  rcases open_slice Try.underlying22 h with ⟨rfl, rfl⟩ | ⟨a, l, c, m, n, D, Pl, rfl, _, hl, hm, hmc, rfl, hi⟩
  · exact ⟨none, 0, 0, [], rfl, rfl, Nat.le_refl _, Nat.zero_le _, fun i hi => (by cases hi), by simp, fun _ => ⟨Nat.zero_le _, by simp⟩⟩
  · simp only [if_true] at hmc
    subst hmc
    rw [Try.cellsIntsQ] at hi
    have hrow : ∀ (a0 : Addr) (cs' : List Value) (f : Nat) (y : DataW H × List MemPlace), w.cells? base a0 1 = some cs' → DataW.trod enc Try.prog w base (fun _ => true) held f 26 cs' = some y → a0 = ⟨a0.block, a0.off, none⟩ ∧ ∃ q : Is, w.cell? a0 = some q.cell ∧ Ints w q.1 q.2.2 ∧ q.2.2.length ≤ 9223372036854775807 ∧ (∀ z ∈ q.2.2, I64 z) ∧ (Within 26 y.1 → q.2.2.length * 8 ≤ reachBytes) := by
      intro a0 cs' f y hc ht
      obtain ⟨a', n', c', zs, rfl, h1, h2, h3, h4, h5, h6⟩ := trod_ints ht
      obtain ⟨_, hcl, hat⟩ := World.cells?_some hc
      have h0 := hat 0 (by omega)
      rw [add_zero] at h0
      subst h1
      refine ⟨addr_of_cell (h0.trans rfl), ⟨a', c', zs⟩, h0, h4, ?_, h5, h6⟩
      simp only [maxLen] at h3
      show zs.length ≤ _
      omega
    have hone : ∀ i, i < l → ∃ q : Is, w.cell? ⟨a.block, a.off + i, none⟩ = some q.cell ∧ Ints w q.1 q.2.2 ∧ q.2.2.length ≤ 9223372036854775807 ∧ (∀ z ∈ q.2.2, I64 z) ∧ (Within 26 (D i) → q.2.2.length * 8 ≤ reachBytes) ∧ a = ⟨a.block, a.off, none⟩ := by
      intro i hil
      have ha : a = ⟨a.block, a.off, none⟩ := by
        obtain ⟨cs', hc, ht⟩ := hi 0 (by omega)
        rw [Nat.zero_mul, add_zero] at hc
        exact (hrow _ _ _ _ hc ht).1
      obtain ⟨cs', hc, ht⟩ := hi i (by omega)
      rw [ha, Addr.add_lit, Nat.mul_one] at hc
      obtain ⟨_, q, h1, h2, h3, h4, h5⟩ := hrow _ _ _ _ hc ht
      exact ⟨q, h1, h2, h3, h4, h5, ha⟩
    letI : Inhabited Is := ⟨⟨none, 0, []⟩⟩
    obtain ⟨f, hf⟩ := choose_lt hone
    have hlen : ((List.range l).map f).length = l := by simp
    refine ⟨some a, l, m, (List.range l).map f, rfl, hlen.symm, hl, hm, fun i hi' => ?_, fun y hy => ?_, fun hw => ⟨?_, fun y hy => ?_⟩⟩
    · have hil : i < l := by omega
      obtain ⟨h1, h2, h3, -, -, ha⟩ := hf i hil
      refine ⟨a.block, a.off, by rw [← ha], ?_, ?_, ?_⟩
      · simpa using h1
      · simpa using h2
      · simpa using h3
    · obtain ⟨i, hil, rfl⟩ := List.mem_map.1 hy
      obtain ⟨-, -, -, h4, -, -⟩ := hf i (by simpa using hil)
      exact h4
    · have := hw ((((List.range l).map D).length + ((List.range (m - l)).map fun j => D (l + j)).length) * 24) (by simp [DataW.weights, Try.underlying22, Try.bytesIntsQ])
      simp only [List.length_map, List.length_range] at this
      have h2 : l * 24 ≤ (l + (m - l)) * 24 := Nat.mul_le_mul_right _ (Nat.le_add_right _ _)
      omega
    · obtain ⟨i, hil, rfl⟩ := List.mem_map.1 hy
      have hil' : i < l := by simpa using hil
      obtain ⟨-, -, -, -, h5, -⟩ := hf i hil'
      exact h5 fun k hk => hw k (by
        simp only [DataW.weights, Try.underlying22, List.mem_cons, List.mem_append]
        exact .inr (.inl (weightsAll_mem hk (List.mem_map.2 ⟨i, by simpa using hil', rfl⟩))))
set_option maxRecDepth 100000 in
theorem open_introws {r : Go.Reach} {b0 : Nat} {v : Value} {d : DataW H} {p : List MemPlace} (hv : Value.okWide Try.prog w r b0 22 v) (h : DataW.Trod enc Try.prog w base (fun _ => true) held 22 v d p) (hw : Within 22 d) :
    ∃ a n c VS, v = .slice a n c ∧ n = VS.length ∧ n ≤ c ∧ c ≤ 9223372036854775807 ∧ IntRows w a VS ∧ (∀ p ∈ VS, ∀ z ∈ p.2.2, I64 z) ∧ n ≤ 17592186044416 ∧ ∀ p ∈ VS, p.2.2.length ≤ 17592186044416 := by
  obtain ⟨a0, l0, c0, rfl⟩ := okWide_slice Try.underlying22 hv
  obtain ⟨fuel, hf⟩ := h
  obtain ⟨a, n, c, ds, e, h1, h2, h3, h4, h5, h6⟩ := trod_introws hf
  simp only [Value.cells, List.cons.injEq, and_true, Value.slice.injEq] at e
  obtain ⟨rfl, rfl, rfl⟩ := e
  have hs := reach_small
  obtain ⟨k1, k2⟩ := h6 hw
  exact ⟨_, _, _, ds, rfl, h1, h2, by simpa only [maxLen] using h3, h4, h5, by omega, fun p hp => by have := k2 p hp; omega⟩
end
end Go.Proofs.Ytplpboknmhgpiaa

/-
  A region that draws its order and holds two calls that write: by an invariant over which of the two was carried out.
  Conditions: none.
-/
import Derived.Test.YtffjfkjlahdedaaSnsGAny
set_option linter.unusedVariables false
set_option linter.unusedSimpArgs false
namespace Go.Proofs.Ytffjfkjlahdedaa
open Go.RowKit

theorem wp_region_two {P : Program} {ops : Array Oper} {Q : Exit → Act → World → Prop} {id : Nat} {a : Act} {w : World} (hm : P.follows .mixedOrders = true) (hord : textOrdered ops = true) (ds : List Nat) (hds : dsOk ops ds = true) (c1 c2 : Nat) (hc1 : c1 < ds.length) (hc2 : c2 < ds.length)
    (Φ : Nat → Value → Prop) (J : Bool → Bool → World → Prop) (h0 : J false false w.drew)
    (hstep : ∀ i, i < ds.length → ∀ us W l1 l2, J l1 l2 W → (i = c1 → l1 = false) → (i = c2 → l2 = false) → (∀ j, waits ops i j = true → Φ j (us j)) → ∀ K : Act → World → Prop, (∀ v W' a', a' = (actU a ds us).put (some (ds.getD i 0)) v → J (if c1 = i then true else l1) (if c2 = i then true else l2) W' → Φ i v → K a' W') → wpOp P ops Q i K (actU a ds us) W)
    (hdone : ∀ us W, J true true W → (∀ i, i < ds.length → Φ i (us i)) → Q .normal (actU a ds us) W) : (Code.region id ops true).wp P Q a w := by
  simp only [dsOk, Bool.and_eq_true, decide_eq_true_eq] at hds
  obtain ⟨⟨h1, h2⟩, h3⟩ := hds
  refine wp_region_inv hm hord (fun l a' W => ∃ us, a' = actU a ds us ∧ J (l c1) (l c2) W ∧ ∀ i, i < ds.length → l i = true → Φ i (us i)) ⟨_, (actU_start a ds).symm, h0, fun i _ h => by cases h⟩ ?_ ?_
  · rintro l a' W ⟨us, rfl, hC, hl⟩ i hi hli hdep
    rw [h1] at hi
    refine hstep i hi us W (l c1) (l c2) hC (fun e => by rw [← e]; exact hli) (fun e => by rw [← e]; exact hli) (fun j hj => ?_) _ ?_
    · have ho : ops[i]? = some (ops.getD i default) := by
        have : i < ops.size := by omega
        simp [Array.getD, this]
      simp only [waits, Array.any_eq_true, Bool.and_eq_true, beq_iff_eq] at hj
      obtain ⟨n, hn, rfl, hb⟩ := hj
      have he := Array.getElem_mem hn
      generalize (ops.getD i default).after[n] = e at he hb ⊢
      have hl2 := hdep _ ho e he hb
      have hlt : e.on < ds.length := by
        have h4 := List.all_eq_true.1 hord i (List.mem_range.2 (by omega))
        have h5 : e.on < i := by simpa using (Array.all_eq_true_iff_forall_mem.1 h4) e he
        omega
      exact hl _ hlt hl2
    · rintro v W' a' rfl hc hv
      refine ⟨updU us i v, (actU_upd ds a us i v h3 hi).symm, hc, fun j hj hlj => ?_⟩
      by_cases e : j = i
      · subst e
        simpa [updU] using hv
      · simp only [if_neg e] at hlj
        simp only [updU, if_neg e]
        exact hl j hj hlj
  · rintro l a' W ⟨us, rfl, hC, hl⟩ hall
    rw [hall c1 (by omega), hall c2 (by omega)] at hC
    exact hdone us W hC fun i hi => hl i hi (hall i (by omega))
end Go.Proofs.Ytffjfkjlahdedaa

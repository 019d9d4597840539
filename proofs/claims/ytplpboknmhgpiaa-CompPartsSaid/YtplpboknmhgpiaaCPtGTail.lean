/-
  A region that draws its order, whose last operations wait for all others and are carried out one behind the other.
  Conditions: none.
-/
import Derived.Test.YtplpboknmhgpiaaCPtGAny
set_option linter.unusedVariables false
set_option linter.unusedSimpArgs false
namespace Go.Proofs.Ytplpboknmhgpiaa
open Go.RowKit

/-- For what an operation waits. -/
def depsOf (ops : Array Oper) (i : Nat) : List Nat := (ops.getD i default).after.toList.filterMap fun e => if Region.binds .any e then some e.on else none
def markD (ops : Array Oper) : Nat → List Nat → List Nat
  | 0, S => S
  | i + 1, S => markD ops i (if S.contains i then depsOf ops i ++ S else S)
/-- It waits, by way of others, for all ahead of it. -/
def waitsAll (ops : Array Oper) (k : Nat) : Bool := (List.range k).all fun i => (markD ops k (depsOf ops k)).contains i
def ClosedL (ops : Array Oper) (l : Nat → Bool) : Prop := ∀ i, i < ops.size → l i = true → ∀ j ∈ depsOf ops i, l j = true
theorem markD_done {ops : Array Oper} {l : Nat → Bool} (hc : ClosedL ops l) : ∀ (n : Nat) (S : List Nat), n ≤ ops.size → (∀ s ∈ S, l s = true) → ∀ j ∈ markD ops n S, l j = true
  | 0, S, _, hS, j, hj => hS j hj
  | n + 1, S, hn, hS, j, hj => by
    refine markD_done hc n _ (by omega) (fun s hs => ?_) j hj
    split at hs
    · rename_i hm
      have hm : n ∈ S := by simpa using hm
      rcases List.mem_append.1 hs with hs | hs
      · exact hc n (by omega) (hS n hm) s hs
      · exact hS s hs
    · exact hS s hs
def tailOk (ops : Array Oper) (ds : List Nat) (T : Nat) : Bool :=
  decide (ops.size = ds.length + T) && ((List.range ds.length).all fun i => (ops.getD i default).dst == some (ds.getD i 0)) && decide ds.Nodup && ((List.range T).all fun t => waitsAll ops (ds.length + t))
theorem deps_waits {ops : Array Oper} {i j : Nat} (h : waits ops i j = true) : j ∈ depsOf ops i := by
  simp only [waits, Array.any_eq_true, Bool.and_eq_true, beq_iff_eq] at h
  obtain ⟨n, hn, he, hb⟩ := h
  simp only [depsOf, List.mem_filterMap]
  refine ⟨_, by rw [Array.mem_toList_iff]; exact Array.getElem_mem hn, ?_⟩
  rw [if_pos hb, he]

theorem wp_region_tail {P : Program} {ops : Array Oper} {Q : Exit → Act → World → Prop} {id : Nat} {a : Act} {w : World} (hm : P.follows .mixedOrders = true) (hord : textOrdered ops = true) (ds : List Nat) (T : Nat) (hT : 1 ≤ T) (hds : tailOk ops ds T = true)
    (Φ : Nat → Value → World → Prop) (hΦ : ∀ i v W W', Chg [] W W' → Φ i v W → Φ i v W')
    (hstep : ∀ i, i < ds.length → ∀ us W, Chg [] w W → (∀ j, waits ops i j = true → Φ j (us j) W) → ∀ K : Act → World → Prop, (∀ v W' a', a' = (actU a ds us).put (some (ds.getD i 0)) v → Chg [] W W' → Φ i v W' → K a' W') → wpOp P ops Q i K (actU a ds us) W)
    (G : Nat → Act → World → Prop)
    (hfirst : ∀ us W, Chg [] w W → (∀ i, i < ds.length → Φ i (us i) W) → wpOp P ops Q ds.length (G 1) (actU a ds us) W)
    (hnext : ∀ t, 1 ≤ t → t < T → ∀ a' W, G t a' W → wpOp P ops Q (ds.length + t) (G (t + 1)) a' W)
    (hdone : ∀ a' W, G T a' W → Q .normal a' W) : (Code.region id ops true).wp P Q a w := by
  simp only [tailOk, Bool.and_eq_true, decide_eq_true_eq] at hds
  obtain ⟨⟨⟨h1, h2⟩, h3⟩, h4⟩ := hds
  have hall : ∀ t, t < T → ∀ i, i < ds.length + t → i ∈ markD ops (ds.length + t) (depsOf ops (ds.length + t)) := fun t ht i hi => by
    have h5 := List.all_eq_true.1 h4 t (List.mem_range.2 ht)
    have h6 := List.all_eq_true.1 h5 i (List.mem_range.2 hi)
    simpa using h6
  refine wp_region_inv hm hord (fun l a' W => ClosedL ops l ∧ (((∀ t, t < T → l (ds.length + t) = false) ∧ ∃ us, a' = actU a ds us ∧ Chg [] w W ∧ ∀ i, i < ds.length → l i = true → Φ i (us i) W) ∨
    ∃ t, 1 ≤ t ∧ t ≤ T ∧ (∀ i, i < ds.length + t → l i = true) ∧ (∀ i, ds.length + t ≤ i → i < ds.length + T → l i = false) ∧ G t a' W)) ⟨(fun i _ h => by cases h), .inl ⟨(fun _ _ => rfl), _, (actU_start a ds).symm, (Chg.refl _ _).drew, (fun i _ h => by cases h)⟩⟩ ?_ ?_
  · rintro l a' W ⟨hcl, hor⟩ i hi hli hdep
    have ho : ops[i]? = some (ops.getD i default) := by simp [Array.getD, hi]
    have hd : ∀ j ∈ depsOf ops i, l j = true := fun j hj => by
      simp only [depsOf, List.mem_filterMap] at hj
      obtain ⟨e, he, hb⟩ := hj
      split at hb
      · rename_i hb2
        cases hb
        exact hdep _ ho e (by rw [← Array.mem_toList_iff]; exact he) hb2
      · cases hb
    have hcl' : ClosedL ops fun j => if j = i then true else l j := fun k hk hlk j hj => by
      by_cases e : j = i
      · simp only [if_pos e]
      · simp only [if_neg e]
        by_cases e2 : k = i
        · subst e2; exact hd j hj
        · simp only [if_neg e2] at hlk
          exact hcl k hk hlk j hj
    rcases hor with ⟨htl, us, rfl, hC, hl⟩ | ⟨t, ht1, ht2, hlt, hge, hG⟩
    · by_cases hiN : i < ds.length
      · refine hstep i hiN us W hC (fun j hj => ?_) _ ?_
        · have hj2 := deps_waits hj
          refine hl j ?_ (hd j hj2)
          have h8 := List.all_eq_true.1 hord i (List.mem_range.2 (by omega))
          simp only [depsOf, List.mem_filterMap] at hj2
          obtain ⟨e, he, hb⟩ := hj2
          split at hb
          · cases hb
            have h5 : e.on < i := by simpa using (Array.all_eq_true_iff_forall_mem.1 h8) e (by rw [← Array.mem_toList_iff]; exact he)
            omega
          · cases hb
        · rintro v W' a' rfl hc hv
          refine ⟨hcl', .inl ⟨fun t ht => by simp only [if_neg (show ¬ ds.length + t = i by omega)]; exact htl t ht, updU us i v, (actU_upd ds a us i v h3 hiN).symm, hC.tr hc, fun j hj hlj => ?_⟩⟩
          by_cases e : j = i
          · subst e
            simpa [updU] using hv
          · simp only [if_neg e] at hlj
            simp only [updU, if_neg e]
            exact hΦ _ _ _ _ hc (hl j hj hlj)
      · obtain ⟨t, rfl⟩ : ∃ t, i = ds.length + t := ⟨i - ds.length, by omega⟩
        have htT : t < T := by omega
        have hpre : ∀ j, j < ds.length + t → l j = true := fun j hj => markD_done hcl _ _ (by omega) hd j (hall t htT j hj)
        obtain rfl : t = 0 := by
          cases t with
          | zero => rfl
          | succ t => have h9 := hpre (ds.length + 0) (by omega); rw [htl 0 (by omega)] at h9; cases h9
        refine wpOp_mono (fun a' W' hG => ⟨hcl', .inr ⟨1, by omega, hT, fun j hj => ?_, fun j hj1 hj2 => ?_, hG⟩⟩) (hfirst us W hC (fun j hj => hl j hj (hpre j (by omega))))
        · by_cases e : j = ds.length + 0
          · simp only [if_pos e]
          · simp only [if_neg e]; exact hpre j (by omega)
        · simp only [if_neg (show ¬ j = ds.length + 0 by omega)]
          obtain ⟨s, rfl⟩ : ∃ s, j = ds.length + s := ⟨j - ds.length, by omega⟩
          exact htl s (by omega)
    · obtain ⟨s, rfl⟩ : ∃ s, i = ds.length + s := ⟨i - ds.length, by
        have : ¬ i < ds.length + t := fun h => by rw [hlt i h] at hli; cases hli
        omega⟩
      have hst : ¬ s < t := fun h => by rw [hlt _ (by omega)] at hli; cases hli
      have hsT : s < T := by omega
      have hpre : ∀ j, j < ds.length + s → l j = true := fun j hj => markD_done hcl _ _ (by omega) hd j (hall s hsT j hj)
      obtain rfl : s = t := by
        by_cases h : s = t
        · exact h
        · have h9 := hpre (ds.length + t) (by omega)
          rw [hge _ (Nat.le_refl _) (by omega)] at h9
          cases h9
      refine wpOp_mono (fun a' W' hG => ⟨hcl', .inr ⟨s + 1, by omega, by omega, fun j hj => ?_, fun j hj1 hj2 => ?_, hG⟩⟩) (hnext s ht1 hsT a' W hG)
      · by_cases e : j = ds.length + s
        · simp only [if_pos e]
        · simp only [if_neg e]; exact hpre j (by omega)
      · simp only [if_neg (show ¬ j = ds.length + s by omega)]
        exact hge j (by omega) hj2
  · rintro l a' W ⟨hcl, hor⟩ hl
    rcases hor with ⟨htl, _⟩ | ⟨t, ht1, ht2, hlt, hge, hG⟩
    · have h9 := hl (ds.length + 0) (by omega)
      rw [htl 0 (by omega)] at h9
      cases h9
    · obtain rfl : t = T := by
        by_cases h : t = T
        · exact h
        · have h9 := hl (ds.length + t) (by omega)
          rw [hge _ (Nat.le_refl _) (by omega)] at h9
          cases h9
      exact hdone a' W hG
/-- One such operation. -/
theorem wp_region_tail1 {P : Program} {ops : Array Oper} {Q : Exit → Act → World → Prop} {id : Nat} {a : Act} {w : World} (hm : P.follows .mixedOrders = true) (hord : textOrdered ops = true) (ds : List Nat) (hds : tailOk ops ds 1 = true)
    (Φ : Nat → Value → World → Prop) (hΦ : ∀ i v W W', Chg [] W W' → Φ i v W → Φ i v W')
    (hstep : ∀ i, i < ds.length → ∀ us W, Chg [] w W → (∀ j, waits ops i j = true → Φ j (us j) W) → ∀ K : Act → World → Prop, (∀ v W' a', a' = (actU a ds us).put (some (ds.getD i 0)) v → Chg [] W W' → Φ i v W' → K a' W') → wpOp P ops Q i K (actU a ds us) W)
    (hdone : ∀ us W, Chg [] w W → (∀ i, i < ds.length → Φ i (us i) W) → wpOp P ops Q ds.length (fun a' W' => Q .normal a' W') (actU a ds us) W) : (Code.region id ops true).wp P Q a w :=
  wp_region_tail hm hord ds 1 (Nat.le_refl _) hds Φ hΦ hstep (fun _ a' W => Q .normal a' W) hdone (fun t h1 h2 => by omega) (fun _ _ h => h)
/-- Two. -/
theorem wp_region_tail2 {P : Program} {ops : Array Oper} {Q : Exit → Act → World → Prop} {id : Nat} {a : Act} {w : World} (hm : P.follows .mixedOrders = true) (hord : textOrdered ops = true) (ds : List Nat) (hds : tailOk ops ds 2 = true)
    (Φ : Nat → Value → World → Prop) (hΦ : ∀ i v W W', Chg [] W W' → Φ i v W → Φ i v W')
    (hstep : ∀ i, i < ds.length → ∀ us W, Chg [] w W → (∀ j, waits ops i j = true → Φ j (us j) W) → ∀ K : Act → World → Prop, (∀ v W' a', a' = (actU a ds us).put (some (ds.getD i 0)) v → Chg [] W W' → Φ i v W' → K a' W') → wpOp P ops Q i K (actU a ds us) W)
    (hdone : ∀ us W, Chg [] w W → (∀ i, i < ds.length → Φ i (us i) W) → wpOp P ops Q ds.length (fun a' W' => wpOp P ops Q (ds.length + 1) (fun a'' W'' => Q .normal a'' W'') a' W') (actU a ds us) W) : (Code.region id ops true).wp P Q a w :=
  wp_region_tail hm hord ds 2 (by omega) hds Φ hΦ hstep (fun t a' W => if t = 1 then wpOp P ops Q (ds.length + 1) (fun a'' W'' => Q .normal a'' W'') a' W else Q .normal a' W) hdone (fun t h1 h2 a' W h => by
    obtain rfl : t = 1 := by omega
    exact h) (fun _ _ h => h)
end Go.Proofs.Ytplpboknmhgpiaa

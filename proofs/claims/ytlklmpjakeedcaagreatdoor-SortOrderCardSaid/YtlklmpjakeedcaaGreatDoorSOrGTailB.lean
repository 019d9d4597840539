/-
  A region that draws its order, whose last operations wait for all others; of what an operation follows only that counts which binds.
  Conditions: none.
-/
import Derived.Test.YtlklmpjakeedcaaGreatDoorSOrGTail
set_option linter.unusedVariables false
set_option linter.unusedSimpArgs false
set_option linter.unnecessarySimpa false
namespace Go.Proofs.YtlklmpjakeedcaaGreatDoor
open Go.RowKit

def textOrderedB (ops : Array Oper) : Bool := (List.range ops.size).all fun i => (ops.getD i default).after.all fun e => !Region.binds .any e || decide (e.on < i)
theorem ready_doneB {ops : Array Oper} {listed : Array Bool} (hord : textOrderedB ops = true) (h : Region.ready .any ops listed = []) : ∀ i, i < ops.size → listed.getD i true = true := by
  intro i
  induction i using Nat.strongRecOn with
  | ind i ih =>
    intro hi
    by_cases hl : listed.getD i true = true
    · exact hl
    · refine absurd (show i ∈ Region.ready .any ops listed from ?_) (by rw [h]; simp)
      have ho : ops[i]? = some ops[i] := by simp [hi]
      simp only [Region.ready, List.mem_filter, List.mem_range, ho, Option.map_some, Option.getD_some, Bool.and_eq_true, Bool.not_eq_true', Array.all_eq_true_iff_forall_mem, Bool.or_eq_true]
      refine ⟨hi, by simpa using hl, fun e he => ?_⟩
      by_cases hb : Region.binds .any e = true
      case neg => exact .inl (by simpa using hb)
      refine .inr ?_
      have h1 := List.all_eq_true.1 hord i (List.mem_range.2 hi)
      have h2 : ops.getD i default = ops[i] := by simp [Array.getD, hi]
      rw [h2] at h1
      have h3 : e.on < i := by have h9 := (Array.all_eq_true_iff_forall_mem.1 h1) e he; rw [hb] at h9; simpa using h9
      have h4 := ih e.on h3 (by omega)
      by_cases hs : e.on < listed.size
      · simpa [Array.getD, hs] using h4
      · have hi2 : ¬ i < listed.size := by omega
        simp [Array.getD, hi2] at hl
theorem wp_region_invB {P : Program} {ops : Array Oper} {Q : Exit → Act → World → Prop} {id : Nat} {a : Act} {w : World} (hm : P.follows .mixedOrders = true) (hord : textOrderedB ops = true) (Inv : (Nat → Bool) → Act → World → Prop)
    (h0 : Inv (fun _ => false) a w.drew)
    (hstep : ∀ l a w, Inv l a w → ∀ i, i < ops.size → l i = false → (∀ o, ops[i]? = some o → ∀ e ∈ o.after, Region.binds .any e = true → l e.on = true) → wpOp P ops Q i (Inv fun j => if j = i then true else l j) a w)
    (hdone : ∀ l a w, Inv l a w → (∀ i, i < ops.size → l i = true) → Q .normal a w) : (Code.region id ops true).wp P Q a w := by
  refine wp_region_any hm (wpAny_inv (fun listed a w => listed.size = ops.size ∧ Inv (fun j => listed.getD j false) a w) ?_ ?_ _ _ _ _ (by simp [openCount]; exact Nat.le_trans List.countP_le_length (by simp)) ⟨by simp, ?_⟩)
  · intro listed a w hI i hi
    obtain ⟨h1, h2, h3⟩ := ready_spec hi
    refine wpOp_mono (fun a' w' h => ⟨by simp [hI.1], ?_⟩) (hstep _ _ _ hI.2 i h1 (by rw [← getD_false hI.1 h1]; exact h2) h3)
    have e : (fun j => (listed.setIfInBounds i true).getD j false) = fun j => if j = i then true else listed.getD j false := funext fun j => set_getD hI.1 h1 j
    rw [e]
    exact h
  · intro listed a w hI hr
    exact hdone _ _ _ hI.2 fun i hi => by rw [← getD_false hI.1 hi]; exact ready_doneB hord hr i hi
  · have e : (fun j => (Array.replicate ops.size false).getD j false) = fun _ => false := funext fun j => by simp [Array.getD]
    rw [e]
    exact h0
theorem wp_region_tailB {P : Program} {ops : Array Oper} {Q : Exit → Act → World → Prop} {id : Nat} {a : Act} {w : World} (hm : P.follows .mixedOrders = true) (hord : textOrderedB ops = true) (ds : List Nat) (T : Nat) (hT : 1 ≤ T) (hds : tailOk ops ds T = true)
    (Φ : Nat → Value → World → Prop) (hΦ : ∀ i v W W', Chg [] W W' → Φ i v W → Φ i v W')
    (hstep : ∀ i, i < ds.length → ∀ us W, Chg [] w W → (∀ j, waits ops i j = true → Φ j (us j) W) → ∀ K : Act → World → Prop, (∀ v W' a', a' = (actU a ds us).put (some (ds.getD i 0)) v → Chg [] W W' → Φ i v W' → K a' W') → wpOp P ops Q i K (actU a ds us) W)
    (G : Nat → Act → World → Prop)
    (hfirst : ∀ us W, Chg [] w W → (∀ i, i < ds.length → Φ i (us i) W) → wpOp P ops Q ds.length (G 1) (actU a ds us) W)
    (hnext : ∀ t, 1 ≤ t → t < T → ∀ a' W, G t a' W → wpOp P ops Q (ds.length + t) (G (t + 1)) a' W)
    (hdone : ∀ a' W, G T a' W → Q .normal a' W) : (Code.region id ops true).wp P Q a w := by
  simp only [tailOk, Bool.and_eq_true, decide_eq_true_eq] at hds
  obtain ⟨⟨⟨h1, h2⟩, h3⟩, h4⟩ := hds
  have hall : ∀ t, t < T → ∀ i, i < ds.length + t → i ∈ markD ops (ds.length + t) (depsOf ops (ds.length + t)) := fun t ht i hi => by
    have h5 := List.all_eq_true.1 h4 t (List.mem_range.2 ht)
    have h6 := List.all_eq_true.1 h5 i (List.mem_range.2 hi)
    simpa using h6
  refine wp_region_invB hm hord (fun l a' W => ClosedL ops l ∧ (((∀ t, t < T → l (ds.length + t) = false) ∧ ∃ us, a' = actU a ds us ∧ Chg [] w W ∧ ∀ i, i < ds.length → l i = true → Φ i (us i) W) ∨
    ∃ t, 1 ≤ t ∧ t ≤ T ∧ (∀ i, i < ds.length + t → l i = true) ∧ (∀ i, ds.length + t ≤ i → i < ds.length + T → l i = false) ∧ G t a' W)) ⟨(fun i _ h => by cases h), .inl ⟨(fun _ _ => rfl), _, (actU_start a ds).symm, (Chg.refl _ _).drew, (fun i _ h => by cases h)⟩⟩ ?_ ?_
  · rintro l a' W ⟨hcl, hor⟩ i hi hli hdep
    have ho : ops[i]? = some (ops.getD i default) := by simp [Array.getD, hi]
    have hd : ∀ j ∈ depsOf ops i, l j = true := fun j hj => by
      simp only [depsOf, List.mem_filterMap] at hj
      obtain ⟨e, he, hb⟩ := hj
      split at hb
      · rename_i hb2
        cases hb
        exact hdep _ ho e (by rw [← Array.mem_toList_iff]; exact he) hb2
      · cases hb
    have hcl' : ClosedL ops fun j => if j = i then true else l j := fun k hk hlk j hj => by
      by_cases e : j = i
      · simp only [if_pos e]
      · simp only [if_neg e]
        by_cases e2 : k = i
        · subst e2; exact hd j hj
        · simp only [if_neg e2] at hlk
          exact hcl k hk hlk j hj
    rcases hor with ⟨htl, us, rfl, hC, hl⟩ | ⟨t, ht1, ht2, hlt, hge, hG⟩
    · by_cases hiN : i < ds.length
      · refine hstep i hiN us W hC (fun j hj => ?_) _ ?_
        · have hj2 := deps_waits hj
          refine hl j ?_ (hd j hj2)
          have h8 := List.all_eq_true.1 hord i (List.mem_range.2 (by omega))
          simp only [depsOf, List.mem_filterMap] at hj2
          obtain ⟨e, he, hb⟩ := hj2
          split at hb
          · rename_i hb2
            cases hb
            have h5 : e.on < i := by have h9 := (Array.all_eq_true_iff_forall_mem.1 h8) e (by rw [← Array.mem_toList_iff]; exact he); rw [hb2] at h9; simpa using h9
            omega
          · cases hb
        · rintro v W' a' rfl hc hv
          refine ⟨hcl', .inl ⟨fun t ht => by simp only [if_neg (show ¬ ds.length + t = i by omega)]; exact htl t ht, updU us i v, (actU_upd ds a us i v h3 hiN).symm, hC.tr hc, fun j hj hlj => ?_⟩⟩
          by_cases e : j = i
          · subst e
            simpa [updU] using hv
          · simp only [if_neg e] at hlj
            simp only [updU, if_neg e]
            exact hΦ _ _ _ _ hc (hl j hj hlj)
      · obtain ⟨t, rfl⟩ : ∃ t, i = ds.length + t := ⟨i - ds.length, by omega⟩
        have htT : t < T := by omega
        have hpre : ∀ j, j < ds.length + t → l j = true := fun j hj => markD_done hcl _ _ (by omega) hd j (hall t htT j hj)
        obtain rfl : t = 0 := by
          cases t with
          | zero => rfl
          | succ t => have h9 := hpre (ds.length + 0) (by omega); rw [htl 0 (by omega)] at h9; cases h9
        refine wpOp_mono (fun a' W' hG => ⟨hcl', .inr ⟨1, by omega, hT, fun j hj => ?_, fun j hj1 hj2 => ?_, hG⟩⟩) (hfirst us W hC (fun j hj => hl j hj (hpre j (by omega))))
        · by_cases e : j = ds.length + 0
          · simp only [if_pos e]
          · simp only [if_neg e]; exact hpre j (by omega)
        · simp only [if_neg (show ¬ j = ds.length + 0 by omega)]
          obtain ⟨s, rfl⟩ : ∃ s, j = ds.length + s := ⟨j - ds.length, by omega⟩
          exact htl s (by omega)
    · obtain ⟨s, rfl⟩ : ∃ s, i = ds.length + s := ⟨i - ds.length, by
        have : ¬ i < ds.length + t := fun h => by rw [hlt i h] at hli; cases hli
        omega⟩
      have hst : ¬ s < t := fun h => by rw [hlt _ (by omega)] at hli; cases hli
      have hsT : s < T := by omega
      have hpre : ∀ j, j < ds.length + s → l j = true := fun j hj => markD_done hcl _ _ (by omega) hd j (hall s hsT j hj)
      obtain rfl : s = t := by
        by_cases h : s = t
        · exact h
        · have h9 := hpre (ds.length + t) (by omega)
          rw [hge _ (Nat.le_refl _) (by omega)] at h9
          cases h9
      refine wpOp_mono (fun a' W' hG => ⟨hcl', .inr ⟨s + 1, by omega, by omega, fun j hj => ?_, fun j hj1 hj2 => ?_, hG⟩⟩) (hnext s ht1 hsT a' W hG)
      · by_cases e : j = ds.length + s
        · simp only [if_pos e]
        · simp only [if_neg e]; exact hpre j (by omega)
      · simp only [if_neg (show ¬ j = ds.length + s by omega)]
        exact hge j (by omega) hj2
  · rintro l a' W ⟨hcl, hor⟩ hl
    rcases hor with ⟨htl, _⟩ | ⟨t, ht1, ht2, hlt, hge, hG⟩
    · have h9 := hl (ds.length + 0) (by omega)
      rw [htl 0 (by omega)] at h9
      cases h9
    · obtain rfl : t = T := by
        by_cases h : t = T
        · exact h
        · have h9 := hl (ds.length + t) (by omega)
          rw [hge _ (Nat.le_refl _) (by omega)] at h9
          cases h9
      exact hdone a' W hG
theorem wp_region_tail2B {P : Program} {ops : Array Oper} {Q : Exit → Act → World → Prop} {id : Nat} {a : Act} {w : World} (hm : P.follows .mixedOrders = true) (hord : textOrderedB ops = true) (ds : List Nat) (hds : tailOk ops ds 2 = true)
    (Φ : Nat → Value → World → Prop) (hΦ : ∀ i v W W', Chg [] W W' → Φ i v W → Φ i v W')
    (hstep : ∀ i, i < ds.length → ∀ us W, Chg [] w W → (∀ j, waits ops i j = true → Φ j (us j) W) → ∀ K : Act → World → Prop, (∀ v W' a', a' = (actU a ds us).put (some (ds.getD i 0)) v → Chg [] W W' → Φ i v W' → K a' W') → wpOp P ops Q i K (actU a ds us) W)
    (hdone : ∀ us W, Chg [] w W → (∀ i, i < ds.length → Φ i (us i) W) → wpOp P ops Q ds.length (fun a' W' => wpOp P ops Q (ds.length + 1) (fun a'' W'' => Q .normal a'' W'') a' W') (actU a ds us) W) : (Code.region id ops true).wp P Q a w :=
  wp_region_tailB hm hord ds 2 (by omega) hds Φ hΦ hstep (fun t a' W => if t = 1 then wpOp P ops Q (ds.length + 1) (fun a'' W'' => Q .normal a'' W'') a' W else Q .normal a' W) hdone (fun t h1 h2 a' W h => by
    obtain rfl : t = 1 := by omega
    exact h) (fun _ _ h => h)
/-- The store waits for all but one move, the last for all. -/
def lateOk (ops : Array Oper) (ds : List Nat) (e : Nat) : Bool :=
  decide (ops.size = ds.length + 2) && ((List.range ds.length).all fun i => (ops.getD i default).dst == some (ds.getD i 0)) && decide ds.Nodup && ((List.range ds.length).all fun i => i == e || (markD ops ds.length (depsOf ops ds.length)).contains i) && waitsAll ops (ds.length + 1) && decide (e < ds.length)
theorem wp_region_late {P : Program} {ops : Array Oper} {Q : Exit → Act → World → Prop} {id : Nat} {a : Act} {w : World} (hm : P.follows .mixedOrders = true) (hord : textOrderedB ops = true) (ds : List Nat) (e : Nat) (hds : lateOk ops ds e = true)
    (Φ : Nat → Value → World → Prop) (V : Value → Prop) (St : (Nat → Value) → World → World → Prop) (hΦ : ∀ i v W W', Chg [] W W' → Φ i v W → Φ i v W')
    (hV : ∀ v W, Φ e v W → V v) (hSt : ∀ us v W W', St us W W' → St (updU us e v) W W')
    (hstep : ∀ i, i < ds.length → ∀ us W, Chg [] w W → (∀ j, waits ops i j = true → Φ j (us j) W) → ∀ K : Act → World → Prop, (∀ v W' a', a' = (actU a ds us).put (some (ds.getD i 0)) v → Chg [] W W' → Φ i v W' → K a' W') → wpOp P ops Q i K (actU a ds us) W)
    (hst : ∀ us W, Chg [] w W → (∀ i, i < ds.length → i ≠ e → Φ i (us i) W) → ∀ K : Act → World → Prop, (∀ W', St us W W' → K (actU a ds us) W') → wpOp P ops Q ds.length K (actU a ds us) W)
    (hlate : ∀ us W W', Chg [] w W → (∀ i, i < ds.length → i ≠ e → Φ i (us i) W) → St us W W' → ∀ K : Act → World → Prop, (∀ v, V v → K ((actU a ds us).put (some (ds.getD e 0)) v) W') → wpOp P ops Q e K (actU a ds us) W')
    (hdone : ∀ us W W', Chg [] w W → (∀ i, i < ds.length → i ≠ e → Φ i (us i) W) → V (us e) → St us W W' → wpOp P ops Q (ds.length + 1) (fun a' W' => Q .normal a' W') (actU a ds us) W') : (Code.region id ops true).wp P Q a w := by
  simp only [lateOk, Bool.and_eq_true, decide_eq_true_eq] at hds
  obtain ⟨⟨⟨⟨⟨h1, h2⟩, h3⟩, h4⟩, h5⟩, he⟩ := hds
  have hallN : ∀ i, i < ds.length → i ≠ e → i ∈ markD ops ds.length (depsOf ops ds.length) := fun i hi hne => by
    have h6 := List.all_eq_true.1 h4 i (List.mem_range.2 hi)
    simpa [hne] using h6
  have hallT : ∀ i, i < ds.length + 1 → i ∈ markD ops (ds.length + 1) (depsOf ops (ds.length + 1)) := fun i hi => by
    have h6 := List.all_eq_true.1 h5 i (List.mem_range.2 hi)
    simpa using h6
  refine wp_region_invB hm hord (fun l a' W => ClosedL ops l ∧ ((l ds.length = false ∧ l (ds.length + 1) = false ∧ ∃ us, a' = actU a ds us ∧ Chg [] w W ∧ ∀ i, i < ds.length → l i = true → Φ i (us i) W) ∨
    (l (ds.length + 1) = false ∧ (∀ i, i < ds.length → i ≠ e → l i = true) ∧ l ds.length = true ∧ ∃ us W0, a' = actU a ds us ∧ Chg [] w W0 ∧ (∀ i, i < ds.length → i ≠ e → Φ i (us i) W0) ∧ St us W0 W ∧ (l e = true → V (us e))) ∨
    (l (ds.length + 1) = true ∧ Q .normal a' W))) ⟨(fun i _ h => by cases h), .inl ⟨rfl, rfl, _, (actU_start a ds).symm, (Chg.refl _ _).drew, (fun i _ h => by cases h)⟩⟩ ?_ ?_
  · rintro l a' W ⟨hcl, hor⟩ i hi hli hdep
    have ho : ops[i]? = some (ops.getD i default) := by simp [Array.getD, hi]
    have hd : ∀ j ∈ depsOf ops i, l j = true := fun j hj => by
      simp only [depsOf, List.mem_filterMap] at hj
      obtain ⟨e, he, hb⟩ := hj
      split at hb
      · rename_i hb2
        cases hb
        exact hdep _ ho e (by rw [← Array.mem_toList_iff]; exact he) hb2
      · cases hb
    have hcl' : ClosedL ops fun j => if j = i then true else l j := fun k hk hlk j hj => by
      by_cases e : j = i
      · simp only [if_pos e]
      · simp only [if_neg e]
        by_cases e2 : k = i
        · subst e2; exact hd j hj
        · simp only [if_neg e2] at hlk
          exact hcl k hk hlk j hj
    rcases hor with ⟨hN, hN1, us, rfl, hC, hl⟩ | ⟨hN1, hpre, hN, us, W0, rfl, hC, hl, hs, hev⟩ | ⟨hN1, hq⟩
    · by_cases hiN : i < ds.length
      · refine hstep i hiN us W hC (fun j hj => ?_) _ ?_
        · have hj2 := deps_waits hj
          refine hl j ?_ (hd j hj2)
          have h8 := List.all_eq_true.1 hord i (List.mem_range.2 (by omega))
          simp only [depsOf, List.mem_filterMap] at hj2
          obtain ⟨e, he, hb⟩ := hj2
          split at hb
          · rename_i hb2
            cases hb
            have h5 : e.on < i := by have h9 := (Array.all_eq_true_iff_forall_mem.1 h8) e (by rw [← Array.mem_toList_iff]; exact he); rw [hb2] at h9; simpa using h9
            omega
          · cases hb
        · rintro v W' a' rfl hc hv
          refine ⟨hcl', .inl ⟨by simp only [if_neg (show ¬ ds.length = i by omega)]; exact hN, by simp only [if_neg (show ¬ ds.length + 1 = i by omega)]; exact hN1, updU us i v, (actU_upd ds a us i v h3 hiN).symm, hC.tr hc, fun j hj hlj => ?_⟩⟩
          by_cases e : j = i
          · subst e
            simpa [updU] using hv
          · simp only [if_neg e] at hlj
            simp only [updU, if_neg e]
            exact hΦ _ _ _ _ hc (hl j hj hlj)
      · by_cases hi1 : i = ds.length
        · subst hi1
          have hp : ∀ j, j < ds.length → j ≠ e → l j = true := fun j hj hne => markD_done hcl _ _ (by omega) hd j (hallN j hj hne)
          refine hst us W hC (fun j hj hne => hl j hj (hp j hj hne)) _ (fun W' hs => ⟨hcl', .inr (.inl ⟨by simp only [if_neg (show ¬ ds.length + 1 = ds.length by omega)]; exact hN1, fun j hj hne => ?_, by simp, us, W, rfl, hC, fun j hj hne => hl j hj (hp j hj hne), hs, fun hle => ?_⟩)⟩)
          · by_cases e9 : j = ds.length
            · simp only [if_pos e9]
            · simp only [if_neg e9]; exact hp j hj hne
          · simp only [if_neg (show ¬ e = ds.length by omega)] at hle
            exact hV _ _ (hl e he hle)
        · obtain rfl : i = ds.length + 1 := by omega
          have h9 := markD_done hcl _ _ (by omega) hd ds.length (hallT ds.length (by omega))
          rw [hN] at h9; cases h9
    · by_cases hi1 : i = ds.length + 1
      · subst hi1
        have h9 := markD_done hcl _ _ (by omega) hd e (hallT e (by omega))
        refine wpOp_mono (fun a' W' hG => ⟨hcl', .inr (.inr ⟨by simp, hG⟩)⟩) (hdone us W0 W hC hl (hev h9) hs)
      · have hie : i = e := by
          by_cases h8 : i = e
          · exact h8
          · by_cases h7 : i = ds.length
            · rw [h7, hN] at hli; cases hli
            · rw [hpre i (by omega) h8] at hli; cases hli
        subst hie
        refine hlate us W0 W hC hl hs _ (fun v hv => ⟨hcl', .inr (.inl ⟨by simp only [if_neg (show ¬ ds.length + 1 = i by omega)]; exact hN1, fun j hj hne => by simp only [if_neg hne]; exact hpre j hj hne, by simp only [if_neg (show ¬ ds.length = i by omega)]; exact hN, updU us i v, W0, (actU_upd ds a us i v h3 he).symm, hC, fun j hj hne => by simp only [updU, if_neg hne]; exact hl j hj hne, hSt us v W0 W hs, fun _ => by simpa [updU] using hv⟩)⟩)
    · have hp : ∀ j, j < ds.length + 1 → l j = true := fun j hj => markD_done hcl _ _ (by omega) (fun s hs => hcl (ds.length + 1) (by omega) hN1 s hs) j (hallT j hj)
      by_cases hi1 : i = ds.length + 1
      · rw [hi1, hN1] at hli; cases hli
      · rw [hp i (by omega)] at hli; cases hli
  · rintro l a' W ⟨hcl, hor⟩ hl
    rcases hor with ⟨hN, _⟩ | ⟨hN1, _⟩ | ⟨_, hq⟩
    · have h9 := hl ds.length (by omega)
      rw [hN] at h9
      cases h9
    · have h9 := hl (ds.length + 1) (by omega)
      rw [hN1] at h9
      cases h9
    · exact hq
end Go.Proofs.YtlklmpjakeedcaaGreatDoor

/-
  A region that draws its order: a row is made, appended to another one (a call that writes), what came is stored last; also in the round of a range over a function.
  Conditions: none.
-/
import Derived.Test.YtlklmpjakeedcaaGreatDoorSOrGTailB
import Derived.Test.YtlklmpjakeedcaaGreatDoorSOrGRnd
set_option linter.unusedVariables false
set_option linter.unusedSimpArgs false
set_option linter.unnecessarySimpa false
namespace Go.Proofs.YtlklmpjakeedcaaGreatDoor
open Go.RowKit

theorem wpAny_invB {P : Program} {ops : Array Oper} {Q : Exit → Act → World → Prop} {a : Act} {w : World} (hord : textOrderedB ops = true) (Inv : (Nat → Bool) → Act → World → Prop)
    (h0 : Inv (fun _ => false) a w)
    (hstep : ∀ l a w, Inv l a w → ∀ i, i < ops.size → l i = false → (∀ o, ops[i]? = some o → ∀ e ∈ o.after, Region.binds .any e = true → l e.on = true) → wpOp P ops Q i (Inv fun j => if j = i then true else l j) a w)
    (hdone : ∀ l a w, Inv l a w → (∀ i, i < ops.size → l i = true) → Q .normal a w) : wpAny P .any ops Q ops.size (Array.replicate ops.size false) a w := by
  refine wpAny_inv (fun listed a w => listed.size = ops.size ∧ Inv (fun j => listed.getD j false) a w) ?_ ?_ _ _ _ _ (by simp [openCount]; exact Nat.le_trans List.countP_le_length (by simp)) ⟨by simp, ?_⟩
  · intro listed a w hI i hi
    obtain ⟨h1, h2, h3⟩ := ready_spec hi
    refine wpOp_mono (fun a' w' h => ⟨by simp [hI.1], ?_⟩) (hstep _ _ _ hI.2 i h1 (by rw [← getD_false hI.1 h1]; exact h2) h3)
    have e : (fun j => (listed.setIfInBounds i true).getD j false) = fun j => if j = i then true else listed.getD j false := funext fun j => set_getD hI.1 h1 j
    rw [e]
    exact h
  · intro listed a w hI hr
    exact hdone _ _ _ hI.2 fun i hi => by rw [← getD_false hI.1 hi]; exact ready_doneB hord hr i hi
  · have e : (fun j => (Array.replicate ops.size false).getD j false) = fun _ => false := funext fun j => by simp [Array.getD]
    rw [e]
    exact h0
theorem wpAny_mix {P : Program} {ops : Array Oper} {Q : Exit → Act → World → Prop} {a : Act} {w : World} (hord : textOrderedB ops = true) (ds : List Nat) (hds : tailOk ops ds 1 = true) (c1 c2 : Nat) (hc1 : c1 < ds.length) (hc2 : c2 < ds.length)
    (Φ : Nat → Value → Prop) (J : Bool → Bool → Value → Value → World → Prop) (h0 : ∀ v u, J false false v u w)
    (hstep : ∀ i, i < ds.length → ∀ us W l1 l2, J l1 l2 (us c1) (us c2) W → (i = c1 → l1 = false) → (i = c2 → l2 = false) → (waits ops i c1 = true → l1 = true) → (∀ j, waits ops i j = true → Φ j (us j)) → ∀ K : Act → World → Prop, (∀ v W' a', a' = (actU a ds us).put (some (ds.getD i 0)) v → J (if c1 = i then true else l1) (if c2 = i then true else l2) (if c1 = i then v else us c1) (if c2 = i then v else us c2) W' → Φ i v → K a' W') → wpOp P ops Q i K (actU a ds us) W)
    (hlast : ∀ us W, J true true (us c1) (us c2) W → (∀ i, i < ds.length → Φ i (us i)) → wpOp P ops Q ds.length (fun a' W' => Q .normal a' W') (actU a ds us) W) : wpAny P .any ops Q ops.size (Array.replicate ops.size false) a w := by
  simp only [tailOk, Bool.and_eq_true, decide_eq_true_eq] at hds
  obtain ⟨⟨⟨h1, h2⟩, h3⟩, h4⟩ := hds
  have hall : ∀ i, i < ds.length → i ∈ markD ops ds.length (depsOf ops ds.length) := fun i hi => by
    have h5 := List.all_eq_true.1 h4 0 (List.mem_range.2 (by omega))
    have h6 := List.all_eq_true.1 h5 i (List.mem_range.2 hi)
    simpa using h6
  refine wpAny_invB hord (fun l a' W => ClosedL ops l ∧ ((l ds.length = false ∧ ∃ us, a' = actU a ds us ∧ J (l c1) (l c2) (us c1) (us c2) W ∧ ∀ i, i < ds.length → l i = true → Φ i (us i)) ∨
    ((∀ i, i < ds.length + 1 → l i = true) ∧ Q .normal a' W))) ⟨(fun i _ h => by cases h), .inl ⟨rfl, _, (actU_start a ds).symm, h0 _ _, (fun i _ h => by cases h)⟩⟩ ?_ ?_
  · rintro l a' W ⟨hcl, hor⟩ i hi hli hdep
    have ho : ops[i]? = some (ops.getD i default) := by simp [Array.getD, hi]
    have hd : ∀ j ∈ depsOf ops i, l j = true := fun j hj => by
      simp only [depsOf, List.mem_filterMap] at hj
      obtain ⟨e, he, hb⟩ := hj
      split at hb
      · rename_i hb2
        cases hb
        exact hdep _ ho e (by rw [← Array.mem_toList_iff]; exact he) hb2
      · cases hb
    have hcl' : ClosedL ops fun j => if j = i then true else l j := fun k hk hlk j hj => by
      by_cases e : j = i
      · simp only [if_pos e]
      · simp only [if_neg e]
        by_cases e2 : k = i
        · subst e2; exact hd j hj
        · simp only [if_neg e2] at hlk
          exact hcl k hk hlk j hj
    rcases hor with ⟨htl, us, rfl, hC, hl⟩ | ⟨hlt, hG⟩
    · by_cases hiN : i < ds.length
      · have hlj : ∀ j, waits ops i j = true → j < ds.length ∧ l j = true := fun j hj => by
          have hj2 := deps_waits hj
          refine ⟨?_, hd j hj2⟩
          have h8 := List.all_eq_true.1 hord i (List.mem_range.2 (by omega))
          simp only [depsOf, List.mem_filterMap] at hj2
          obtain ⟨e, he, hb⟩ := hj2
          split at hb
          · rename_i hb2
            cases hb
            have h5 : e.on < i := by have h9 := (Array.all_eq_true_iff_forall_mem.1 h8) e (by rw [← Array.mem_toList_iff]; exact he); rw [hb2] at h9; simpa using h9
            omega
          · cases hb
        refine hstep i hiN us W (l c1) (l c2) hC (fun e => by rw [← e]; exact hli) (fun e => by rw [← e]; exact hli) (fun hw => (hlj c1 hw).2) (fun j hj => hl j (hlj j hj).1 (hlj j hj).2) _ ?_
        rintro v W' a' rfl hc hv
        refine ⟨hcl', .inl ⟨by simp only [if_neg (show ¬ ds.length = i by omega)]; exact htl, updU us i v, (actU_upd ds a us i v h3 hiN).symm, ?_, fun j hj hlj => ?_⟩⟩
        · have e1 : updU us i v c1 = if c1 = i then v else us c1 := rfl
          have e2 : updU us i v c2 = if c2 = i then v else us c2 := rfl
          rw [e1, e2]
          exact hc
        · by_cases e : j = i
          · subst e
            simpa [updU] using hv
          · simp only [if_neg e] at hlj
            simp only [updU, if_neg e]
            exact hl j hj hlj
      · obtain rfl : i = ds.length := by omega
        have hpre : ∀ j, j < ds.length → l j = true := fun j hj => markD_done hcl _ _ (by omega) hd j (hall j hj)
        refine wpOp_mono (fun a' W' hG => ⟨hcl', .inr ⟨fun j hj => ?_, hG⟩⟩) (hlast us W (by have := hC; rw [hpre c1 hc1, hpre c2 hc2] at this; exact this) (fun j hj => hl j hj (hpre j hj)))
        by_cases e : j = ds.length
        · simp only [if_pos e]
        · simp only [if_neg e]; exact hpre j (by omega)
    · rw [hlt i (by omega)] at hli; cases hli
  · rintro l a' W ⟨hcl, hor⟩ hfull
    rcases hor with ⟨htl, _⟩ | ⟨_, hG⟩
    · rw [hfull ds.length (by omega)] at htl; cases htl
    · exact hG
/-- Rows that are made lie apart; the last operations wait for all others. -/
theorem wp_region_fresh {P : Program} {ops : Array Oper} {Q : Exit → Act → World → Prop} {id : Nat} {a : Act} {w : World} (hm : P.follows .mixedOrders = true) (hord : textOrderedB ops = true) (ds : List Nat) (T : Nat) (hT : 1 ≤ T) (hds : tailOk ops ds T = true)
    (Φ : Nat → Value → World → Prop) (hΦ : ∀ i v W W', Chg [] W W' → Φ i v W → Φ i v W') (mk : Nat → Bool) (hmk : ∀ j v W, mk j = true → Φ j v W → ∀ x, v.ownBlock = some x → x < W.heap.size)
    (hstep : ∀ i, i < ds.length → ∀ us W, Chg [] w W → (∀ j, waits ops i j = true → Φ j (us j) W) → ∀ K : Act → World → Prop, (∀ v W' a', a' = (actU a ds us).put (some (ds.getD i 0)) v → Chg [] W W' → Φ i v W' → (mk i = true → ∀ x, v.ownBlock = some x → W.heap.size ≤ x) → K a' W') → wpOp P ops Q i K (actU a ds us) W)
    (G : Nat → Act → World → Prop)
    (hfirst : ∀ us W, Chg [] w W → (∀ i, i < ds.length → Φ i (us i) W) → (∀ i j, i < ds.length → j < ds.length → i ≠ j → mk i = true → mk j = true → ∀ x, (us i).ownBlock = some x → (us j).ownBlock ≠ some x) → wpOp P ops Q ds.length (G 1) (actU a ds us) W)
    (hnext : ∀ t, 1 ≤ t → t < T → ∀ a' W, G t a' W → wpOp P ops Q (ds.length + t) (G (t + 1)) a' W)
    (hdone : ∀ a' W, G T a' W → Q .normal a' W) : (Code.region id ops true).wp P Q a w := by
  simp only [tailOk, Bool.and_eq_true, decide_eq_true_eq] at hds
  obtain ⟨⟨⟨h1, h2⟩, h3⟩, h4⟩ := hds
  have hall : ∀ t, t < T → ∀ i, i < ds.length + t → i ∈ markD ops (ds.length + t) (depsOf ops (ds.length + t)) := fun t ht i hi => by
    have h5 := List.all_eq_true.1 h4 t (List.mem_range.2 ht)
    have h6 := List.all_eq_true.1 h5 i (List.mem_range.2 hi)
    simpa using h6
  refine wp_region_invB hm hord (fun l a' W => ClosedL ops l ∧ (((∀ t, t < T → l (ds.length + t) = false) ∧ ∃ us, a' = actU a ds us ∧ Chg [] w W ∧ (∀ i, i < ds.length → l i = true → Φ i (us i) W) ∧ (∀ i j, i < ds.length → j < ds.length → i ≠ j → l i = true → l j = true → mk i = true → mk j = true → ∀ x, (us i).ownBlock = some x → (us j).ownBlock ≠ some x)) ∨
    ∃ t, 1 ≤ t ∧ t ≤ T ∧ (∀ i, i < ds.length + t → l i = true) ∧ (∀ i, ds.length + t ≤ i → i < ds.length + T → l i = false) ∧ G t a' W)) ⟨(fun i _ h => by cases h), .inl ⟨(fun _ _ => rfl), _, (actU_start a ds).symm, (Chg.refl _ _).drew, (fun i _ h => by cases h), (fun i j _ _ _ h => by cases h)⟩⟩ ?_ ?_
  · rintro l a' W ⟨hcl, hor⟩ i hi hli hdep
    have ho : ops[i]? = some (ops.getD i default) := by simp [Array.getD, hi]
    have hd : ∀ j ∈ depsOf ops i, l j = true := fun j hj => by
      simp only [depsOf, List.mem_filterMap] at hj
      obtain ⟨e, he, hb⟩ := hj
      split at hb
      · rename_i hb2
        cases hb
        exact hdep _ ho e (by rw [← Array.mem_toList_iff]; exact he) hb2
      · cases hb
    have hcl' : ClosedL ops fun j => if j = i then true else l j := fun k hk hlk j hj => by
      by_cases e : j = i
      · simp only [if_pos e]
      · simp only [if_neg e]
        by_cases e2 : k = i
        · subst e2; exact hd j hj
        · simp only [if_neg e2] at hlk
          exact hcl k hk hlk j hj
    rcases hor with ⟨htl, us, rfl, hC, hl, hap⟩ | ⟨t, ht1, ht2, hlt, hge, hG⟩
    · by_cases hiN : i < ds.length
      · refine hstep i hiN us W hC (fun j hj => ?_) _ ?_
        · have hj2 := deps_waits hj
          refine hl j ?_ (hd j hj2)
          have h8 := List.all_eq_true.1 hord i (List.mem_range.2 (by omega))
          simp only [depsOf, List.mem_filterMap] at hj2
          obtain ⟨e, he, hb⟩ := hj2
          split at hb
          · rename_i hb2
            cases hb
            have h5 : e.on < i := by have h9 := (Array.all_eq_true_iff_forall_mem.1 h8) e (by rw [← Array.mem_toList_iff]; exact he); rw [hb2] at h9; simpa using h9
            omega
          · cases hb
        · rintro v W' a' rfl hc hv hfr
          refine ⟨hcl', .inl ⟨fun t ht => by simp only [if_neg (show ¬ ds.length + t = i by omega)]; exact htl t ht, updU us i v, (actU_upd ds a us i v h3 hiN).symm, hC.tr hc, fun j hj hlj => ?_, fun j k hj hk hjk hlj hlk hmj hmk2 x hx hy => ?_⟩⟩
          · by_cases e : j = i
            · subst e
              simpa [updU] using hv
            · simp only [if_neg e] at hlj
              simp only [updU, if_neg e]
              exact hΦ _ _ _ _ hc (hl j hj hlj)
          · by_cases e : j = i
            · have e2 : k ≠ i := fun h => hjk (e.trans h.symm)
              subst e
              simp only [if_neg e2] at hlk
              simp only [updU, if_neg e2, if_true] at hx hy
              have h1 := hfr hmj x hx
              have h2 := hmk k _ _ hmk2 (hl k hk hlk) x hy
              omega
            · simp only [if_neg e] at hlj
              by_cases e2 : k = i
              · subst e2
                simp only [updU, if_neg e, if_true] at hx hy
                have h1 := hfr hmk2 x hy
                have h2 := hmk j _ _ hmj (hl j hj hlj) x hx
                omega
              · simp only [if_neg e2] at hlk
                simp only [updU, if_neg e, if_neg e2] at hx hy
                exact hap j k hj hk hjk hlj hlk hmj hmk2 x hx hy
      · obtain ⟨t, rfl⟩ : ∃ t, i = ds.length + t := ⟨i - ds.length, by omega⟩
        have htT : t < T := by omega
        have hpre : ∀ j, j < ds.length + t → l j = true := fun j hj => markD_done hcl _ _ (by omega) hd j (hall t htT j hj)
        obtain rfl : t = 0 := by
          cases t with
          | zero => rfl
          | succ t => have h9 := hpre (ds.length + 0) (by omega); rw [htl 0 (by omega)] at h9; cases h9
        refine wpOp_mono (fun a' W' hG => ⟨hcl', .inr ⟨1, by omega, hT, fun j hj => ?_, fun j hj1 hj2 => ?_, hG⟩⟩) (hfirst us W hC (fun j hj => hl j hj (hpre j (by omega))) (fun j k hj hk hjk h1 h2 => hap j k hj hk hjk (hpre j (by omega)) (hpre k (by omega)) h1 h2))
        · by_cases e : j = ds.length + 0
          · simp only [if_pos e]
          · simp only [if_neg e]; exact hpre j (by omega)
        · simp only [if_neg (show ¬ j = ds.length + 0 by omega)]
          obtain ⟨s, rfl⟩ : ∃ s, j = ds.length + s := ⟨j - ds.length, by omega⟩
          exact htl s (by omega)
    · obtain ⟨s, rfl⟩ : ∃ s, i = ds.length + s := ⟨i - ds.length, by
        have : ¬ i < ds.length + t := fun h => by rw [hlt i h] at hli; cases hli
        omega⟩
      have hst : ¬ s < t := fun h => by rw [hlt _ (by omega)] at hli; cases hli
      have hsT : s < T := by omega
      have hpre : ∀ j, j < ds.length + s → l j = true := fun j hj => markD_done hcl _ _ (by omega) hd j (hall s hsT j hj)
      obtain rfl : s = t := by
        by_cases h : s = t
        · exact h
        · have h9 := hpre (ds.length + t) (by omega)
          rw [hge _ (Nat.le_refl _) (by omega)] at h9
          cases h9
      refine wpOp_mono (fun a' W' hG => ⟨hcl', .inr ⟨s + 1, by omega, by omega, fun j hj => ?_, fun j hj1 hj2 => ?_, hG⟩⟩) (hnext s ht1 hsT a' W hG)
      · by_cases e : j = ds.length + s
        · simp only [if_pos e]
        · simp only [if_neg e]; exact hpre j (by omega)
      · simp only [if_neg (show ¬ j = ds.length + s by omega)]
        exact hge j (by omega) hj2
  · rintro l a' W ⟨hcl, hor⟩ hl
    rcases hor with ⟨htl, _⟩ | ⟨t, ht1, ht2, hlt, hge, hG⟩
    · have h9 := hl (ds.length + 0) (by omega)
      rw [htl 0 (by omega)] at h9
      cases h9
    · obtain rfl : t = T := by
        by_cases h : t = T
        · exact h
        · have h9 := hl (ds.length + t) (by omega)
          rw [hge _ (Nat.le_refl _) (by omega)] at h9
          cases h9
      exact hdone a' W hG
theorem wp_region_fresh3 {P : Program} {ops : Array Oper} {Q : Exit → Act → World → Prop} {id : Nat} {a : Act} {w : World} (hm : P.follows .mixedOrders = true) (hord : textOrderedB ops = true) (ds : List Nat) (hds : tailOk ops ds 3 = true)
    (Φ : Nat → Value → World → Prop) (hΦ : ∀ i v W W', Chg [] W W' → Φ i v W → Φ i v W') (mk : Nat → Bool) (hmk : ∀ j v W, mk j = true → Φ j v W → ∀ x, v.ownBlock = some x → x < W.heap.size)
    (hstep : ∀ i, i < ds.length → ∀ us W, Chg [] w W → (∀ j, waits ops i j = true → Φ j (us j) W) → ∀ K : Act → World → Prop, (∀ v W' a', a' = (actU a ds us).put (some (ds.getD i 0)) v → Chg [] W W' → Φ i v W' → (mk i = true → ∀ x, v.ownBlock = some x → W.heap.size ≤ x) → K a' W') → wpOp P ops Q i K (actU a ds us) W)
    (hdone : ∀ us W, Chg [] w W → (∀ i, i < ds.length → Φ i (us i) W) → (∀ i j, i < ds.length → j < ds.length → i ≠ j → mk i = true → mk j = true → ∀ x, (us i).ownBlock = some x → (us j).ownBlock ≠ some x) →
      wpOp P ops Q ds.length (fun a' W' => wpOp P ops Q (ds.length + 1) (fun a'' W'' => wpOp P ops Q (ds.length + 2) (fun a3 W3 => Q .normal a3 W3) a'' W'') a' W') (actU a ds us) W) : (Code.region id ops true).wp P Q a w :=
  wp_region_fresh hm hord ds 3 (by omega) hds Φ hΦ mk hmk hstep (fun t a' W => if t = 1 then wpOp P ops Q (ds.length + 1) (fun a'' W'' => wpOp P ops Q (ds.length + 2) (fun a3 W3 => Q .normal a3 W3) a'' W'') a' W else if t = 2 then wpOp P ops Q (ds.length + 2) (fun a3 W3 => Q .normal a3 W3) a' W else Q .normal a' W) hdone (fun t h1 h2 a' W h => by
    rcases (show t = 1 ∨ t = 2 by omega) with rfl | rfl
    · exact h
    · exact h) (fun _ _ h => h)
/-- In a fence that bars nothing. -/
theorem rowsIn_wideR {n : Nat} {P : Program} {row : String} {args : Array Value} {w : World} {R : Value → World → Prop} (h : Rows P row args w R) : RowsIn Fence.wide n P row args w R := fun c cs _ => by
  obtain ⟨v, w', h1, h2⟩ := h c cs
  exact ⟨v, w', h1, stepsIn_wide.2 h2⟩
theorem wpOpIn_of {n : Nat} {P : Program} {ops : Array Oper} {Q : Exit → Act → World → Prop} (hL : ¬ LetsOut Q) {i : Nat} {K : Act → World → Prop} {a : Act} {w : World} (h : wpOp P ops Q i K a w) : wpOpIn Fence.wide n P ops Q i K a w := by
  unfold wpOp at h
  unfold wpOpIn
  cases ho : ops[i]? with
  | none => rw [ho] at h; exact h
  | some o =>
    rw [ho] at h
    simp only at h ⊢
    split
    · rename_i hw
      rw [if_pos hw] at h
      replace h := h.resolve_right (fun k => hL k.2)
      refine ⟨fun _ _ => trivial, ?_⟩
      unfold Oper.wp at h
      have e : o.semAt Fence.wide.round a.eval = execOp a.eval o := rfl
      rw [e]
      generalize (execOp a.eval o).run P w = r at h ⊢
      cases r with
      | ok x w' =>
        cases x <;> simp only [Oper.upon, Oper.uponIn] at h ⊢ <;>
          first
            | exact h
            | exact ⟨fun k => by simp [Fence.wide] at k, callsIn_wide.2 (h.mono (fun e w'' he => by cases e <;> exact he))⟩
            | exact ⟨fun k => by simp [Fence.wide] at k, rowsIn_wideR h⟩
            | exact h.elim
      | halt x w' => cases x <;> simp only [Oper.upon, Oper.uponIn] at h ⊢ <;> exact h
    · rename_i hw
      rw [if_neg hw] at h
      exact ⟨fun _ _ => trivial, h⟩
theorem wpAnyIn_of {n : Nat} {P : Program} {md : Region.Mode} {ops : Array Oper} {Q : Exit → Act → World → Prop} (hL : ¬ LetsOut Q) : ∀ (fuel : Nat) (listed : Array Bool) (a : Act) (w : World),
    wpAny P md ops Q fuel listed a w → wpAnyIn Fence.wide n P md ops Q fuel listed a w
  | 0, _, _, _, h => h
  | fuel + 1, _, _, _, h => ⟨h.1, fun i hi => wpOpIn_mono (fun a' w' h' => wpAnyIn_of hL fuel _ a' w' h') (wpOpIn_of hL (h.2 i hi))⟩
theorem round_region_any {r n : Nat} {P : Program} {id : Nat} {ops : Array Oper} {Q : Exit → Act → World → Prop} {a : Act} {w : World} (hm : P.follows .mixedOrders = true) (hL : ¬ LetsOut Q) (hnd : noDefer ops = true)
    (h : wpAny P .any ops Q ops.size (Array.replicate ops.size false) a w.drew) : (Code.region id ops true).wpIn (Fence.wide.inRound r) n P Q a w :=
  wpIn_region_any hm (wpAnyIn_round hnd _ _ _ _ (wpAnyIn_of hL _ _ _ _ h))
theorem plain_region_any {P : Program} {id : Nat} {ops : Array Oper} {Q : Exit → Act → World → Prop} {a : Act} {w : World} (hm : P.follows .mixedOrders = true)
    (h : wpAny P .any ops Q ops.size (Array.replicate ops.size false) a w.drew) : (Code.region id ops true).wp P Q a w := wp_region_any hm h
end Go.Proofs.YtlklmpjakeedcaaGreatDoor

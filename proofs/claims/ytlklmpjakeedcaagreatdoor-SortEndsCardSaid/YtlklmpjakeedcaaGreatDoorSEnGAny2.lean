/-
 A region that draws its order, by an invariant over what has been carried out.
 Conditions: none.
-/
import Derived.Test.YtlklmpjakeedcaaGreatDoorSEnGRule
set_option linter.unusedVariables false
set_option linter.unusedSimpArgs false
namespace Go.Proofs.YtlklmpjakeedcaaGreatDoor
open Go.RowKit

def openCount (listed : Array Bool) : Nat := listed.toList.countP (fun b => !b)
theorem openCount_set {listed : Array Bool} {i : Nat} (h : listed.getD i true = false) : openCount (listed.setIfInBounds i true) + 1 = openCount listed := by
 obtain ⟨l⟩ := listed
 simp only [openCount, List.setIfInBounds_toArray]
 simp only [Array.getD_eq_getD_getElem?, List.getElem?_toArray] at h
 induction l generalizing i with
 | nil => simp at h
 | cons b l ih =>
  cases i with
  | zero =>
   simp at h
   subst h
   simp
  | succ i =>
   simp only [List.set_cons_succ, List.countP_cons]
   have := ih (i := i) (by simpa using h)
   omega
theorem ready_spec {md : Region.Mode} {ops : Array Oper} {listed : Array Bool} {i : Nat} (h : i ∈ Region.ready md ops listed) :
  i < ops.size ∧ listed.getD i true = false ∧ ∀ o, ops[i]? = some o → ∀ e ∈ o.after, Region.binds md e = true → listed.getD e.on false = true := by
 simp only [Region.ready, List.mem_filter, List.mem_range, Bool.and_eq_true, Bool.not_eq_true'] at h
 obtain ⟨h1, h2, h3⟩ := h
 refine ⟨h1, h2, fun o ho e he hb => ?_⟩
 rw [ho] at h3
 simp only [Option.map_some, Option.getD_some, Array.all_eq_true_iff_forall_mem] at h3
 have := h3 e he
 rw [hb] at this
 simpa using this
/-- Each step keeps the invariant; behind the last the region is left. -/
theorem wpAny_inv {P : Program} {md : Region.Mode} {ops : Array Oper} {Q : Exit → Act → World → Prop} (Inv : Array Bool → Act → World → Prop)
  (hstep : ∀ listed a w, Inv listed a w → ∀ i, i ∈ Region.ready md ops listed → wpOp P ops Q i (Inv (listed.setIfInBounds i true)) a w)
  (hdone : ∀ listed a w, Inv listed a w → Region.ready md ops listed = [] → Q .normal a w) :
  ∀ fuel listed a w, openCount listed ≤ fuel → Inv listed a w → wpAny P md ops Q fuel listed a w
 | 0, listed, a, w, hf, h => by
  have hr : Region.ready md ops listed = [] := by
   cases hr : Region.ready md ops listed with
   | nil => rfl
   | cons i l =>
    have := openCount_set (ready_spec (md := md) (ops := ops) (listed := listed) (i := i) (by rw [hr]; simp)).2.1
    omega
  exact ⟨hr, hdone _ _ _ h hr⟩
 | fuel + 1, listed, a, w, hf, h => by
  refine ⟨hdone _ _ _ h, fun i hi => ?_⟩
  have := openCount_set (ready_spec hi).2.1
  exact wpOp_mono (fun a' w' h' => wpAny_inv Inv hstep hdone fuel _ a' w' (by omega) h') (hstep _ _ _ h i hi)
theorem wpOp_at {P : Program} {ops : Array Oper} {Q : Exit → Act → World → Prop} {i : Nat} {o : Oper} {K : Act → World → Prop} {a : Act} {w : World} (ho : ops[i]? = some o) (hg : o.guard = none) (h : o.wp P a w K Q) : wpOp P ops Q i K a w := by
 have hw : Region.wanted o (yielded ops a.tmps) = true := by simp [Region.wanted, hg]
 simp only [wpOp, ho, hw, if_true]
 exact .inl h
theorem wpOp_atK {P : Program} {ops : Array Oper} {Q : Exit → Act → World → Prop} {i : Nat} {o : Oper} {K : Act → World → Prop} {a : Act} {w : World} (ho : ops[i]? = some o) (hg : o.guard = none) (h : ∀ K' : Act → World → Prop, (∀ a w, K a w → K' a w) → o.wp P a w K' Q) : wpOp P ops Q i K a w :=
 wpOp_at ho hg (h K fun _ _ h => h)
def textOrdered (ops : Array Oper) : Bool := (List.range ops.size).all fun i => (ops.getD i default).after.all fun e => decide (e.on < i)
theorem ready_done {md : Region.Mode} {ops : Array Oper} {listed : Array Bool} (hord : textOrdered ops = true) (h : Region.ready md ops listed = []) : ∀ i, i < ops.size → listed.getD i true = true := by
 intro i
 induction i using Nat.strongRecOn with
 | ind i ih =>
  intro hi
  by_cases hl : listed.getD i true = true
  ·exact hl
  ·refine absurd (show i ∈ Region.ready md ops listed from ?_) (by rw [h]; simp)
   have ho : ops[i]? = some ops[i] := by simp [hi]
   simp only [Region.ready, List.mem_filter, List.mem_range, ho, Option.map_some, Option.getD_some, Bool.and_eq_true, Bool.not_eq_true', Array.all_eq_true_iff_forall_mem, Bool.or_eq_true]
   refine ⟨hi, by simpa using hl, fun e he => .inr ?_⟩
   have h1 := List.all_eq_true.1 hord i (List.mem_range.2 hi)
   have h2 : ops.getD i default = ops[i] := by simp [Array.getD, hi]
   rw [h2] at h1
   have h3 : e.on < i := by simpa using (Array.all_eq_true_iff_forall_mem.1 h1) e he
   have h4 := ih e.on h3 (by omega)
   by_cases hs : e.on < listed.size
   ·simpa [Array.getD, hs] using h4
   ·have hi2 : ¬ i < listed.size := by omega
    simp [Array.getD, hi2] at hl
theorem set_getD {listed : Array Bool} {n i : Nat} (hn : listed.size = n) (hi : i < n) (j : Nat) : (listed.setIfInBounds i true).getD j false = if j = i then true else listed.getD j false := by
 subst hn
 simp only [Array.getD_eq_getD_getElem?, Array.getElem?_setIfInBounds]
 by_cases h : i = j
 ·subst h; simp [hi]
 ·have h' : ¬ j = i := fun e => h e.symm
  simp [h, h']
theorem getD_false {listed : Array Bool} {n i : Nat} (hn : listed.size = n) (hi : i < n) : listed.getD i true = listed.getD i false := by
 subst hn
 simp [Array.getD, hi]
theorem wp_region_inv {P : Program} {ops : Array Oper} {Q : Exit → Act → World → Prop} {id : Nat} {a : Act} {w : World} (hm : P.follows .mixedOrders = true) (hord : textOrdered ops = true) (Inv : (Nat → Bool) → Act → World → Prop)
  (h0 : Inv (fun _ => false) a w.drew)
  (hstep : ∀ l a w, Inv l a w → ∀ i, i < ops.size → l i = false → (∀ o, ops[i]? = some o → ∀ e ∈ o.after, Region.binds .any e = true → l e.on = true) → wpOp P ops Q i (Inv fun j => if j = i then true else l j) a w)
  (hdone : ∀ l a w, Inv l a w → (∀ i, i < ops.size → l i = true) → Q .normal a w) : (Code.region id ops true).wp P Q a w := by
 refine wp_region_any hm (wpAny_inv (fun listed a w => listed.size = ops.size ∧ Inv (fun j => listed.getD j false) a w) ?_ ?_ _ _ _ _ (by simp [openCount]; exact Nat.le_trans List.countP_le_length (by simp)) ⟨by simp, ?_⟩)
 ·intro listed a w hI i hi
  obtain ⟨h1, h2, h3⟩ := ready_spec hi
  refine wpOp_mono (fun a' w' h => ⟨by simp [hI.1], ?_⟩) (hstep _ _ _ hI.2 i h1 (by rw [← getD_false hI.1 h1]; exact h2) h3)
  have e : (fun j => (listed.setIfInBounds i true).getD j false) = fun j => if j = i then true else listed.getD j false := funext fun j => set_getD hI.1 h1 j
  rw [e]
  exact h
 ·intro listed a w hI hr
  exact hdone _ _ _ hI.2 fun i hi => by rw [← getD_false hI.1 hi]; exact ready_done hord hr i hi
 ·have e : (fun j => (Array.replicate ops.size false).getD j false) = fun _ => false := funext fun j => by simp [Array.getD]
  rw [e]
  exact h0
end Go.Proofs.YtlklmpjakeedcaaGreatDoor
set_option linter.unusedVariables false
set_option linter.unusedSimpArgs false
namespace Go.Proofs.YtlklmpjakeedcaaGreatDoor
open Go.RowKit

/-- An act, some slots of it put. -/
def actU (a : Act) : List Nat → (Nat → Value) → Act
 | [], _ => a
 | d :: ds, us => actU (a.put (some d) (us 0)) ds (fun i => us (i + 1))
def updU (us : Nat → Value) (i : Nat) (v : Value) : Nat → Value := fun j => if j = i then v else us j
theorem put_same (a : Act) (d : Nat) : a.put (some d) (a.tmps.getD d undef) = a := by
 cases a with
 | mk tmps defers =>
  simp only [Act.put, Act.mk.injEq, and_true]
  apply Array.ext_getElem?
  intro i
  rw [Array.getElem?_setIfInBounds]
  split
  ·rename_i h
   subst h
   split
   ·rename_i h2
    simp [Array.getElem?_eq_getElem h2]
   ·rename_i h2
    rw [Array.getElem?_eq_none (by omega)]
  ·rfl
theorem actU_start (a : Act) : ∀ ds : List Nat, actU a ds (fun i => a.tmps.getD (ds.getD i 0) undef) = a := by
 intro ds
 induction ds with
 | nil => rfl
 | cons d ds ih =>
  simp only [actU, List.getD_cons_zero, List.getD_cons_succ]
  rw [put_same]
  exact ih
theorem put_put (a : Act) (d : Nat) (u v : Value) : (a.put (some d) u).put (some d) v = a.put (some d) v := by
 simp only [Act.put, Act.mk.injEq, and_true]
 apply Array.ext_getElem?
 intro i
 simp only [Array.getElem?_setIfInBounds, Array.size_setIfInBounds]
 by_cases h : d = i
 ·simp [h]
 ·simp [h]
theorem put_comm (a : Act) {d e : Nat} (h : d ≠ e) (u v : Value) : (a.put (some d) u).put (some e) v = (a.put (some e) v).put (some d) u := by
 simp only [Act.put, Act.mk.injEq, and_true]
 exact Array.setIfInBounds_comm u v h
theorem actU_put : ∀ (ds : List Nat) (a : Act) (us : Nat → Value) (d : Nat) (v : Value), d ∉ ds → (actU a ds us).put (some d) v = actU (a.put (some d) v) ds us := by
 intro ds
 induction ds with
 | nil => intro a us d v _; rfl
 | cons e ds ih =>
  intro a us d v h
  simp only [List.mem_cons, not_or] at h
  simp only [actU]
  rw [ih _ _ _ _ h.2, put_comm a (Ne.symm h.1)]
theorem actU_upd : ∀ (ds : List Nat) (a : Act) (us : Nat → Value) (i : Nat) (v : Value), ds.Nodup → i < ds.length → actU a ds (updU us i v) = (actU a ds us).put (some (ds.getD i 0)) v := by
 intro ds
 induction ds with
 | nil => intro a us i v _ h; cases h
 | cons d ds ih =>
  intro a us i v hn hi
  rw [List.nodup_cons] at hn
  cases i with
  | zero =>
   simp only [actU, List.getD_cons_zero]
   rw [actU_put ds _ _ d v hn.1, put_put]
   congr 1
  | succ i =>
   simp only [actU, List.getD_cons_succ]
   have h := ih (a.put (some d) (us 0)) (fun j => us (j + 1)) i v hn.2 (by simpa using hi)
   rw [← h]
   have e : (fun j => updU us (i + 1) v (j + 1)) = updU (fun j => us (j + 1)) i v := by
    funext j
    simp [updU]
   rw [e]
   congr 1
def dsOk (ops : Array Oper) (ds : List Nat) : Bool := decide (ops.size = ds.length) && ((List.range ds.length).all fun i => (ops.getD i default).dst == some (ds.getD i 0)) && decide ds.Nodup
/-- Operation i waits for operation j. -/
def waits (ops : Array Oper) (i j : Nat) : Bool := (ops.getD i default).after.any fun e => e.on == j && Region.binds .any e
theorem wpOp_want {P : Program} {ops : Array Oper} {Q : Exit → Act → World → Prop} {i : Nat} {o : Oper} {K : Act → World → Prop} {a : Act} {w : World} (ho : ops[i]? = some o) (hw : Region.wanted o (yielded ops a.tmps) = true) (h : o.wp P a w K Q) : wpOp P ops Q i K a w := by
 simp only [wpOp, ho, hw, if_true]
 exact .inl h
theorem wp_region_st {P : Program} {ops : Array Oper} {Q : Exit → Act → World → Prop} {id : Nat} {a : Act} {w : World} (hm : P.follows .mixedOrders = true) (hord : textOrdered ops = true) (ds : List Nat) (hds : dsOk ops ds = true)
  (Φ : Nat → Value → World → Prop) (hΦ : ∀ i v W W', Chg [] W W' → Φ i v W → Φ i v W')
  (hstep : ∀ i, i < ds.length → ∀ us W, Chg [] w W → (∀ j, waits ops i j = true → Φ j (us j) W) → ∀ K : Act → World → Prop, (∀ v W' a', a' = (actU a ds us).put (some (ds.getD i 0)) v → Chg [] W W' → Φ i v W' → K a' W') → wpOp P ops Q i K (actU a ds us) W)
  (hdone : ∀ us W, Chg [] w W → (∀ i, i < ds.length → Φ i (us i) W) → Q .normal (actU a ds us) W) : (Code.region id ops true).wp P Q a w := by
 simp only [dsOk, Bool.and_eq_true, decide_eq_true_eq] at hds
 obtain ⟨⟨h1, h2⟩, h3⟩ := hds
 refine wp_region_inv hm hord (fun l a' W => ∃ us, a' = actU a ds us ∧ Chg [] w W ∧ ∀ i, i < ds.length → l i = true → Φ i (us i) W) ⟨_, (actU_start a ds).symm, (Chg.refl _ _).drew, fun i _ h => by cases h⟩ ?_ ?_
 ·rintro l a' W ⟨us, rfl, hC, hl⟩ i hi hli hdep
  rw [h1] at hi
  refine hstep i hi us W hC (fun j hj => ?_) _ ?_
  ·have ho : ops[i]? = some (ops.getD i default) := by
    have : i < ops.size := by omega
    simp [Array.getD, this]
   simp only [waits, Array.any_eq_true, Bool.and_eq_true, beq_iff_eq] at hj
   obtain ⟨n, hn, rfl, hb⟩ := hj
   have he := Array.getElem_mem hn
   generalize (ops.getD i default).after[n] = e at he hb ⊢
   have hl2 := hdep _ ho e he hb
   have hlt : e.on < ds.length := by
    have h4 := List.all_eq_true.1 hord i (List.mem_range.2 (by omega))
    have h5 : e.on < i := by simpa using (Array.all_eq_true_iff_forall_mem.1 h4) e he
    omega
   exact hl _ hlt hl2
  ·rintro v W' a' rfl hc hv
   refine ⟨updU us i v, (actU_upd ds a us i v h3 hi).symm, hC.tr hc, fun j hj hlj => ?_⟩
   by_cases e : j = i
   ·subst e
    simpa [updU] using hv
   ·simp only [if_neg e] at hlj
    simp only [updU, if_neg e]
    exact hΦ _ _ _ _ hc (hl j hj hlj)
 ·rintro l a' W ⟨us, rfl, hC, hl⟩ hall
  exact hdone us W hC fun i hi => hl i hi (hall i (by omega))
end Go.Proofs.YtlklmpjakeedcaaGreatDoor
set_option linter.unusedVariables false
set_option linter.unusedSimpArgs false
namespace Go.Proofs.YtlklmpjakeedcaaGreatDoor
open Go.RowKit

/-- For what an operation waits. -/
def depsOf (ops : Array Oper) (i : Nat) : List Nat := (ops.getD i default).after.toList.filterMap fun e => if Region.binds .any e then some e.on else none
def markD (ops : Array Oper) : Nat → List Nat → List Nat
 | 0, S => S
 | i + 1, S => markD ops i (if S.contains i then depsOf ops i ++ S else S)
/-- It waits, by way of others, for all ahead of it. -/
def waitsAll (ops : Array Oper) (k : Nat) : Bool := (List.range k).all fun i => (markD ops k (depsOf ops k)).contains i
def ClosedL (ops : Array Oper) (l : Nat → Bool) : Prop := ∀ i, i < ops.size → l i = true → ∀ j ∈ depsOf ops i, l j = true
theorem markD_done {ops : Array Oper} {l : Nat → Bool} (hc : ClosedL ops l) : ∀ (n : Nat) (S : List Nat), n ≤ ops.size → (∀ s ∈ S, l s = true) → ∀ j ∈ markD ops n S, l j = true
 | 0, S, _, hS, j, hj => hS j hj
 | n + 1, S, hn, hS, j, hj => by
  refine markD_done hc n _ (by omega) (fun s hs => ?_) j hj
  split at hs
  ·rename_i hm
   have hm : n ∈ S := by simpa using hm
   rcases List.mem_append.1 hs with hs | hs
   ·exact hc n (by omega) (hS n hm) s hs
   ·exact hS s hs
  ·exact hS s hs
def tailOk (ops : Array Oper) (ds : List Nat) (T : Nat) : Bool :=
 decide (ops.size = ds.length + T) && ((List.range ds.length).all fun i => (ops.getD i default).dst == some (ds.getD i 0)) && decide ds.Nodup && ((List.range T).all fun t => waitsAll ops (ds.length + t))
theorem deps_waits {ops : Array Oper} {i j : Nat} (h : waits ops i j = true) : j ∈ depsOf ops i := by
 simp only [waits, Array.any_eq_true, Bool.and_eq_true, beq_iff_eq] at h
 obtain ⟨n, hn, he, hb⟩ := h
 simp only [depsOf, List.mem_filterMap]
 refine ⟨_, by rw [Array.mem_toList_iff]; exact Array.getElem_mem hn, ?_⟩
 rw [if_pos hb, he]

theorem wp_region_tail {P : Program} {ops : Array Oper} {Q : Exit → Act → World → Prop} {id : Nat} {a : Act} {w : World} (hm : P.follows .mixedOrders = true) (hord : textOrdered ops = true) (ds : List Nat) (T : Nat) (hT : 1 ≤ T) (hds : tailOk ops ds T = true)
  (Φ : Nat → Value → World → Prop) (hΦ : ∀ i v W W', Chg [] W W' → Φ i v W → Φ i v W')
  (hstep : ∀ i, i < ds.length → ∀ us W, Chg [] w W → (∀ j, waits ops i j = true → Φ j (us j) W) → ∀ K : Act → World → Prop, (∀ v W' a', a' = (actU a ds us).put (some (ds.getD i 0)) v → Chg [] W W' → Φ i v W' → K a' W') → wpOp P ops Q i K (actU a ds us) W)
  (G : Nat → Act → World → Prop)
  (hfirst : ∀ us W, Chg [] w W → (∀ i, i < ds.length → Φ i (us i) W) → wpOp P ops Q ds.length (G 1) (actU a ds us) W)
  (hnext : ∀ t, 1 ≤ t → t < T → ∀ a' W, G t a' W → wpOp P ops Q (ds.length + t) (G (t + 1)) a' W)
  (hdone : ∀ a' W, G T a' W → Q .normal a' W) : (Code.region id ops true).wp P Q a w := by
 simp only [tailOk, Bool.and_eq_true, decide_eq_true_eq] at hds
 obtain ⟨⟨⟨h1, h2⟩, h3⟩, h4⟩ := hds
 have hall : ∀ t, t < T → ∀ i, i < ds.length + t → i ∈ markD ops (ds.length + t) (depsOf ops (ds.length + t)) := fun t ht i hi => by
  have h5 := List.all_eq_true.1 h4 t (List.mem_range.2 ht)
  have h6 := List.all_eq_true.1 h5 i (List.mem_range.2 hi)
  simpa using h6
 refine wp_region_inv hm hord (fun l a' W => ClosedL ops l ∧ (((∀ t, t < T → l (ds.length + t) = false) ∧ ∃ us, a' = actU a ds us ∧ Chg [] w W ∧ ∀ i, i < ds.length → l i = true → Φ i (us i) W) ∨
  ∃ t, 1 ≤ t ∧ t ≤ T ∧ (∀ i, i < ds.length + t → l i = true) ∧ (∀ i, ds.length + t ≤ i → i < ds.length + T → l i = false) ∧ G t a' W)) ⟨(fun i _ h => by cases h), .inl ⟨(fun _ _ => rfl), _, (actU_start a ds).symm, (Chg.refl _ _).drew, (fun i _ h => by cases h)⟩⟩ ?_ ?_
 ·rintro l a' W ⟨hcl, hor⟩ i hi hli hdep
  have ho : ops[i]? = some (ops.getD i default) := by simp [Array.getD, hi]
  have hd : ∀ j ∈ depsOf ops i, l j = true := fun j hj => by
   simp only [depsOf, List.mem_filterMap] at hj
   obtain ⟨e, he, hb⟩ := hj
   split at hb
   ·rename_i hb2
    cases hb
    exact hdep _ ho e (by rw [← Array.mem_toList_iff]; exact he) hb2
   ·cases hb
  have hcl' : ClosedL ops fun j => if j = i then true else l j := fun k hk hlk j hj => by
   by_cases e : j = i
   ·simp only [if_pos e]
   ·simp only [if_neg e]
    by_cases e2 : k = i
    ·subst e2; exact hd j hj
    ·simp only [if_neg e2] at hlk
     exact hcl k hk hlk j hj
  rcases hor with ⟨htl, us, rfl, hC, hl⟩ | ⟨t, ht1, ht2, hlt, hge, hG⟩
  ·by_cases hiN : i < ds.length
   ·refine hstep i hiN us W hC (fun j hj => ?_) _ ?_
    ·have hj2 := deps_waits hj
     refine hl j ?_ (hd j hj2)
     have h8 := List.all_eq_true.1 hord i (List.mem_range.2 (by omega))
     simp only [depsOf, List.mem_filterMap] at hj2
     obtain ⟨e, he, hb⟩ := hj2
     split at hb
     ·cases hb
      have h5 : e.on < i := by simpa using (Array.all_eq_true_iff_forall_mem.1 h8) e (by rw [← Array.mem_toList_iff]; exact he)
      omega
     ·cases hb
    ·rintro v W' a' rfl hc hv
     refine ⟨hcl', .inl ⟨fun t ht => by simp only [if_neg (show ¬ ds.length + t = i by omega)]; exact htl t ht, updU us i v, (actU_upd ds a us i v h3 hiN).symm, hC.tr hc, fun j hj hlj => ?_⟩⟩
     by_cases e : j = i
     ·subst e
      simpa [updU] using hv
     ·simp only [if_neg e] at hlj
      simp only [updU, if_neg e]
      exact hΦ _ _ _ _ hc (hl j hj hlj)
   ·obtain ⟨t, rfl⟩ : ∃ t, i = ds.length + t := ⟨i - ds.length, by omega⟩
    have htT : t < T := by omega
    have hpre : ∀ j, j < ds.length + t → l j = true := fun j hj => markD_done hcl _ _ (by omega) hd j (hall t htT j hj)
    obtain rfl : t = 0 := by
     cases t with
     | zero => rfl
     | succ t => have h9 := hpre (ds.length + 0) (by omega); rw [htl 0 (by omega)] at h9; cases h9
    refine wpOp_mono (fun a' W' hG => ⟨hcl', .inr ⟨1, by omega, hT, fun j hj => ?_, fun j hj1 hj2 => ?_, hG⟩⟩) (hfirst us W hC (fun j hj => hl j hj (hpre j (by omega))))
    ·by_cases e : j = ds.length + 0
     ·simp only [if_pos e]
     ·simp only [if_neg e]; exact hpre j (by omega)
    ·simp only [if_neg (show ¬ j = ds.length + 0 by omega)]
     obtain ⟨s, rfl⟩ : ∃ s, j = ds.length + s := ⟨j - ds.length, by omega⟩
     exact htl s (by omega)
  ·obtain ⟨s, rfl⟩ : ∃ s, i = ds.length + s := ⟨i - ds.length, by
    have : ¬ i < ds.length + t := fun h => by rw [hlt i h] at hli; cases hli
    omega⟩
   have hst : ¬ s < t := fun h => by rw [hlt _ (by omega)] at hli; cases hli
   have hsT : s < T := by omega
   have hpre : ∀ j, j < ds.length + s → l j = true := fun j hj => markD_done hcl _ _ (by omega) hd j (hall s hsT j hj)
   obtain rfl : s = t := by
    by_cases h : s = t
    ·exact h
    ·have h9 := hpre (ds.length + t) (by omega)
     rw [hge _ (Nat.le_refl _) (by omega)] at h9
     cases h9
   refine wpOp_mono (fun a' W' hG => ⟨hcl', .inr ⟨s + 1, by omega, by omega, fun j hj => ?_, fun j hj1 hj2 => ?_, hG⟩⟩) (hnext s ht1 hsT a' W hG)
   ·by_cases e : j = ds.length + s
    ·simp only [if_pos e]
    ·simp only [if_neg e]; exact hpre j (by omega)
   ·simp only [if_neg (show ¬ j = ds.length + s by omega)]
    exact hge j (by omega) hj2
 ·rintro l a' W ⟨hcl, hor⟩ hl
  rcases hor with ⟨htl, _⟩ | ⟨t, ht1, ht2, hlt, hge, hG⟩
  ·have h9 := hl (ds.length + 0) (by omega)
   rw [htl 0 (by omega)] at h9
   cases h9
  ·obtain rfl : t = T := by
    by_cases h : t = T
    ·exact h
    ·have h9 := hl (ds.length + t) (by omega)
     rw [hge _ (Nat.le_refl _) (by omega)] at h9
     cases h9
   exact hdone a' W hG
/-- One such operation. -/
theorem wp_region_tail1 {P : Program} {ops : Array Oper} {Q : Exit → Act → World → Prop} {id : Nat} {a : Act} {w : World} (hm : P.follows .mixedOrders = true) (hord : textOrdered ops = true) (ds : List Nat) (hds : tailOk ops ds 1 = true)
  (Φ : Nat → Value → World → Prop) (hΦ : ∀ i v W W', Chg [] W W' → Φ i v W → Φ i v W')
  (hstep : ∀ i, i < ds.length → ∀ us W, Chg [] w W → (∀ j, waits ops i j = true → Φ j (us j) W) → ∀ K : Act → World → Prop, (∀ v W' a', a' = (actU a ds us).put (some (ds.getD i 0)) v → Chg [] W W' → Φ i v W' → K a' W') → wpOp P ops Q i K (actU a ds us) W)
  (hdone : ∀ us W, Chg [] w W → (∀ i, i < ds.length → Φ i (us i) W) → wpOp P ops Q ds.length (fun a' W' => Q .normal a' W') (actU a ds us) W) : (Code.region id ops true).wp P Q a w :=
 wp_region_tail hm hord ds 1 (Nat.le_refl _) hds Φ hΦ hstep (fun _ a' W => Q .normal a' W) hdone (fun t h1 h2 => by omega) (fun _ _ h => h)
/-- Two. -/
theorem wp_region_tail2 {P : Program} {ops : Array Oper} {Q : Exit → Act → World → Prop} {id : Nat} {a : Act} {w : World} (hm : P.follows .mixedOrders = true) (hord : textOrdered ops = true) (ds : List Nat) (hds : tailOk ops ds 2 = true)
  (Φ : Nat → Value → World → Prop) (hΦ : ∀ i v W W', Chg [] W W' → Φ i v W → Φ i v W')
  (hstep : ∀ i, i < ds.length → ∀ us W, Chg [] w W → (∀ j, waits ops i j = true → Φ j (us j) W) → ∀ K : Act → World → Prop, (∀ v W' a', a' = (actU a ds us).put (some (ds.getD i 0)) v → Chg [] W W' → Φ i v W' → K a' W') → wpOp P ops Q i K (actU a ds us) W)
  (hdone : ∀ us W, Chg [] w W → (∀ i, i < ds.length → Φ i (us i) W) → wpOp P ops Q ds.length (fun a' W' => wpOp P ops Q (ds.length + 1) (fun a'' W'' => Q .normal a'' W'') a' W') (actU a ds us) W) : (Code.region id ops true).wp P Q a w :=
 wp_region_tail hm hord ds 2 (by omega) hds Φ hΦ hstep (fun t a' W => if t = 1 then wpOp P ops Q (ds.length + 1) (fun a'' W'' => Q .normal a'' W'') a' W else Q .normal a' W) hdone (fun t h1 h2 a' W h => by
  obtain rfl : t = 1 := by omega
  exact h) (fun _ _ h => h)
end Go.Proofs.YtlklmpjakeedcaaGreatDoor
set_option linter.unusedVariables false
set_option linter.unusedSimpArgs false
set_option linter.unnecessarySimpa false
namespace Go.Proofs.YtlklmpjakeedcaaGreatDoor
open Go.RowKit

def textOrderedB (ops : Array Oper) : Bool := (List.range ops.size).all fun i => (ops.getD i default).after.all fun e => !Region.binds .any e || decide (e.on < i)
theorem ready_doneB {ops : Array Oper} {listed : Array Bool} (hord : textOrderedB ops = true) (h : Region.ready .any ops listed = []) : ∀ i, i < ops.size → listed.getD i true = true := by
 intro i
 induction i using Nat.strongRecOn with
 | ind i ih =>
  intro hi
  by_cases hl : listed.getD i true = true
  ·exact hl
  ·refine absurd (show i ∈ Region.ready .any ops listed from ?_) (by rw [h]; simp)
   have ho : ops[i]? = some ops[i] := by simp [hi]
   simp only [Region.ready, List.mem_filter, List.mem_range, ho, Option.map_some, Option.getD_some, Bool.and_eq_true, Bool.not_eq_true', Array.all_eq_true_iff_forall_mem, Bool.or_eq_true]
   refine ⟨hi, by simpa using hl, fun e he => ?_⟩
   by_cases hb : Region.binds .any e = true
   case neg => exact .inl (by simpa using hb)
   refine .inr ?_
   have h1 := List.all_eq_true.1 hord i (List.mem_range.2 hi)
   have h2 : ops.getD i default = ops[i] := by simp [Array.getD, hi]
   rw [h2] at h1
   have h3 : e.on < i := by have h9 := (Array.all_eq_true_iff_forall_mem.1 h1) e he; rw [hb] at h9; simpa using h9
   have h4 := ih e.on h3 (by omega)
   by_cases hs : e.on < listed.size
   ·simpa [Array.getD, hs] using h4
   ·have hi2 : ¬ i < listed.size := by omega
    simp [Array.getD, hi2] at hl
theorem wp_region_invB {P : Program} {ops : Array Oper} {Q : Exit → Act → World → Prop} {id : Nat} {a : Act} {w : World} (hm : P.follows .mixedOrders = true) (hord : textOrderedB ops = true) (Inv : (Nat → Bool) → Act → World → Prop)
  (h0 : Inv (fun _ => false) a w.drew)
  (hstep : ∀ l a w, Inv l a w → ∀ i, i < ops.size → l i = false → (∀ o, ops[i]? = some o → ∀ e ∈ o.after, Region.binds .any e = true → l e.on = true) → wpOp P ops Q i (Inv fun j => if j = i then true else l j) a w)
  (hdone : ∀ l a w, Inv l a w → (∀ i, i < ops.size → l i = true) → Q .normal a w) : (Code.region id ops true).wp P Q a w := by
 refine wp_region_any hm (wpAny_inv (fun listed a w => listed.size = ops.size ∧ Inv (fun j => listed.getD j false) a w) ?_ ?_ _ _ _ _ (by simp [openCount]; exact Nat.le_trans List.countP_le_length (by simp)) ⟨by simp, ?_⟩)
 ·intro listed a w hI i hi
  obtain ⟨h1, h2, h3⟩ := ready_spec hi
  refine wpOp_mono (fun a' w' h => ⟨by simp [hI.1], ?_⟩) (hstep _ _ _ hI.2 i h1 (by rw [← getD_false hI.1 h1]; exact h2) h3)
  have e : (fun j => (listed.setIfInBounds i true).getD j false) = fun j => if j = i then true else listed.getD j false := funext fun j => set_getD hI.1 h1 j
  rw [e]
  exact h
 ·intro listed a w hI hr
  exact hdone _ _ _ hI.2 fun i hi => by rw [← getD_false hI.1 hi]; exact ready_doneB hord hr i hi
 ·have e : (fun j => (Array.replicate ops.size false).getD j false) = fun _ => false := funext fun j => by simp [Array.getD]
  rw [e]
  exact h0
end Go.Proofs.YtlklmpjakeedcaaGreatDoor
set_option linter.unusedVariables false
set_option linter.unusedSimpArgs false
namespace Go.Proofs.YtlklmpjakeedcaaGreatDoor
open Go.RowKit

theorem wp_region_st2 {P : Program} {ops : Array Oper} {Q : Exit → Act → World → Prop} {id : Nat} {a : Act} {w : World} (hm : P.follows .mixedOrders = true) (hord : textOrdered ops = true) (ds : List Nat) (hds : dsOk ops ds = true)
  (Φ : Nat → Value → World → Prop) (hΦ : ∀ i v W W', Chg [] W W' → Φ i v W → Φ i v W') (Ψ : Nat → Value → Nat → Value → Prop)
  (hstep : ∀ i, i < ds.length → ∀ us W, Chg [] w W → (∀ j, waits ops i j = true → Φ j (us j) W) → ∀ K : Act → World → Prop, (∀ v W' a', a' = (actU a ds us).put (some (ds.getD i 0)) v → Chg [] W W' → Φ i v W' → (∀ j, j < ds.length → j ≠ i → waits ops j i = false → Φ j (us j) W → Ψ i v j (us j)) → K a' W') → wpOp P ops Q i K (actU a ds us) W)
  (hdone : ∀ us W, Chg [] w W → (∀ i, i < ds.length → Φ i (us i) W) → (∀ i j, i < ds.length → j < ds.length → i ≠ j → (Ψ i (us i) j (us j) ∧ waits ops j i = false) ∨ (Ψ j (us j) i (us i) ∧ waits ops i j = false)) → Q .normal (actU a ds us) W) : (Code.region id ops true).wp P Q a w := by
 simp only [dsOk, Bool.and_eq_true, decide_eq_true_eq] at hds
 obtain ⟨⟨h1, h2⟩, h3⟩ := hds
 refine wp_region_inv hm hord (fun l a' W => ClosedL ops l ∧ ∃ us, a' = actU a ds us ∧ Chg [] w W ∧ (∀ i, i < ds.length → l i = true → Φ i (us i) W) ∧ ∀ i j, i < ds.length → j < ds.length → i ≠ j → l i = true → l j = true → (Ψ i (us i) j (us j) ∧ waits ops j i = false) ∨ (Ψ j (us j) i (us i) ∧ waits ops i j = false)) ⟨(fun i _ h => by cases h), _, (actU_start a ds).symm, (Chg.refl _ _).drew, (fun i _ h => by cases h), (fun i j _ _ _ h => by cases h)⟩ ?_ ?_
 ·rintro l a' W ⟨hcl, us, rfl, hC, hl, hp⟩ i hi hli hdep
  have ho9 : ops[i]? = some (ops.getD i default) := by simp [Array.getD, hi]
  have hd : ∀ j ∈ depsOf ops i, l j = true := fun j hj => by
   simp only [depsOf, List.mem_filterMap] at hj
   obtain ⟨e, he, hb⟩ := hj
   split at hb
   ·rename_i hb2
    cases hb
    exact hdep _ ho9 e (by rw [← Array.mem_toList_iff]; exact he) hb2
   ·cases hb
  have hcl' : ClosedL ops fun j => if j = i then true else l j := fun k hk hlk j hj => by
   by_cases e : j = i
   ·simp only [if_pos e]
   ·simp only [if_neg e]
    by_cases e2 : k = i
    ·subst e2; exact hd j hj
    ·simp only [if_neg e2] at hlk
     exact hcl k hk hlk j hj
  have hnw : ∀ j, j < ds.length → l j = true → waits ops j i = false := fun j hj hlj => by
   cases hw : waits ops j i with
   | false => rfl
   | true =>
    have := hcl j (by omega) hlj i (deps_waits hw)
    rw [hli] at this
    cases this
  rw [h1] at hi
  refine hstep i hi us W hC (fun j hj => ?_) _ ?_
  ·have ho : ops[i]? = some (ops.getD i default) := by
    have : i < ops.size := by omega
    simp [Array.getD, this]
   simp only [waits, Array.any_eq_true, Bool.and_eq_true, beq_iff_eq] at hj
   obtain ⟨n, hn, rfl, hb⟩ := hj
   have he := Array.getElem_mem hn
   generalize (ops.getD i default).after[n] = e at he hb ⊢
   have hl2 := hdep _ ho e he hb
   have hlt : e.on < ds.length := by
    have h4 := List.all_eq_true.1 hord i (List.mem_range.2 (by omega))
    have h5 : e.on < i := by simpa using (Array.all_eq_true_iff_forall_mem.1 h4) e he
    omega
   exact hl _ hlt hl2
  ·rintro v W' a' rfl hc hv hΨ
   refine ⟨hcl', updU us i v, (actU_upd ds a us i v h3 hi).symm, hC.tr hc, fun j hj hlj => ?_, fun j q hj hq hjq hlj hlq => ?_⟩
   ·by_cases e : j = i
    ·subst e
     simpa [updU] using hv
    ·simp only [if_neg e] at hlj
     simp only [updU, if_neg e]
     exact hΦ _ _ _ _ hc (hl j hj hlj)
   ·by_cases e : j = i
    ·subst e
     have e2 : ¬ q = j := fun h => hjq h.symm
     simp only [if_neg e2] at hlq
     simp only [updU, if_neg e2, if_true]
     exact .inl ⟨hΨ q hq e2 (hnw q hq hlq) (hl q hq hlq), hnw q hq hlq⟩
    ·simp only [if_neg e] at hlj
     by_cases e2 : q = i
     ·subst e2
      simp only [updU, if_neg e, if_true]
      exact .inr ⟨hΨ j hj e (hnw j hj hlj) (hl j hj hlj), hnw j hj hlj⟩
     ·simp only [if_neg e2] at hlq
      simp only [updU, if_neg e, if_neg e2]
      exact hp j q hj hq hjq hlj hlq
 ·rintro l a' W ⟨_, us, rfl, hC, hl, hp⟩ hall
  exact hdone us W hC (fun i hi => hl i hi (hall i (by omega))) (fun i j hi hj hij => hp i j hi hj hij (hall i (by omega)) (hall j (by omega)))
end Go.Proofs.YtlklmpjakeedcaaGreatDoor

/-
  HeadsInvolves, plain: which rules became involved in each that stands.
  Conditions: none.
-/
import Derived.Test.YtnajhcoimohcaaaHiHsT
set_option linter.unusedVariables false
set_option linter.unusedSimpArgs false
set_option linter.unnecessarySimpa false
namespace Go.Proofs.Ytnajhcoimohcaaa
open Go.RowKit Go.MapKept

structure InF (f : Fm) (r : List Int) (k : Nat) : Prop where
  rises : Rises f.inv
  mem : ∀ z, z ∈ f.inv ↔ z ∈ r
  size : f.inv.length ≤ r.length
  few : r.length ≤ 1000 * k
structure InOK (k : Nat) (X : Stt) (L : List (List Int)) : Prop where
  len : L.length = X.l.length
  ok : ∀ (i : Nat) (f : Fm) (r : List Int), X.s[i]? = some f → L[i]? = some r → InF f r k
theorem InF.weak {f : Fm} {r : List Int} {k : Nat} (h : InF f r k) : InF f r (k + 1) := ⟨h.rises, h.mem, h.size, by have := h.few; omega⟩
theorem InOK.start : InOK 0 ⟨[], [], [], []⟩ [] := ⟨rfl, by simp⟩
theorem touchF_inv (p : Int) (xs : List Int) (f : Fm) : (touchF p xs f).inv = f.inv := by unfold touchF; split <;> rfl
theorem InF.of_inv {f g : Fm} {r : List Int} {k : Nat} (h : InF f r k) (e : g.inv = f.inv) : InF g r k := ⟨by rw [e]; exact h.rises, by rw [e]; exact h.mem, by rw [e]; exact h.size, h.few⟩
def stepL (X Y : Stt) (L : List (List Int)) : List (List Int) :=
  if X.rs.length < Y.rs.length then
    match Y.rs[X.rs.length]? with
    | some r => ((if X.l.length < Y.l.length then L ++ [[]] else L).take Y.l.length).set r.pos.toNat (((if X.l.length < Y.l.length then L ++ [[]] else L).take Y.l.length).getD r.pos.toNat [] ++ (Y.l.drop (r.pos.toNat + 1)).map (·.rule))
    | none => (if X.l.length < Y.l.length then L ++ [[]] else L).take Y.l.length
  else (if X.l.length < Y.l.length then L ++ [[]] else L).take Y.l.length
/-- How the rows may have changed. -/
structure Shift (X Y : Stt) : Prop where
  grow : Y.l.length ≤ X.l.length + 1
  reads : Y.rs = X.rs ∨ ∃ r : Rd, Y.rs = X.rs ++ [r] ∧ Y.l = X.l ∧ 0 ≤ r.pos ∧ r.pos.toNat < Y.l.length
theorem InOK.same {k : Nat} {X Y : Stt} {L : List (List Int)} (h : InOK k X L) (hl : Y.l = X.l) (hr : Y.rs = X.rs) (hs : ∀ (i : Nat) (f : Fm), Y.s[i]? = some f → ∃ f0, X.s[i]? = some f0 ∧ f.inv = f0.inv) : InOK (k + 1) Y (stepL X Y L) ∧ Shift X Y := by
  have e : stepL X Y L = L := by
    unfold stepL
    rw [hl, hr, if_neg (Nat.lt_irrefl _), if_neg (Nat.lt_irrefl _), List.take_of_length_le (by rw [h.len]; exact Nat.le_refl _)]
  rw [e]
  refine ⟨⟨by rw [h.len, hl], fun i f r hf hr => ?_⟩, ⟨by rw [hl]; omega, .inl hr⟩⟩
  obtain ⟨f0, h0, e0⟩ := hs i f hf
  exact (h.ok i f0 r h0 hr).weak.of_inv e0
theorem rules_eq {k : Nat} {X : Stt} (h : HIv k X) (m : Nat) : (X.s.drop m).map (·.rule) = (X.l.drop m).map (·.rule) := by
  refine List.ext_getElem? fun i => ?_
  simp only [List.getElem?_map, List.getElem?_drop]
  cases hg : X.l[m + i]? with
  | none =>
    have : X.s[m + i]? = none := by rw [List.getElem?_eq_none_iff] at hg ⊢; rw [h.len]; exact hg
    rw [this]; rfl
  | some g =>
    obtain ⟨f, hf⟩ := h.get_s hg
    rw [hf]
    simp only [Option.map_some, (h.agree _ f g hf hg).rule]
theorem touchS_get {s : List Fm} {p : Int} {xs : List Int} {i : Nat} {f : Fm} (h : (touchS s p xs)[i]? = some f) : ∃ f0, s[i]? = some f0 ∧ f.inv = f0.inv := by
  simp only [touchS, List.getElem?_map, Option.map_eq_some_iff] at h
  obtain ⟨f0, h0, rfl⟩ := h
  exact ⟨f0, h0, touchF_inv _ _ _⟩
theorem InOK.enter {k : Nat} {X : Stt} {L : List (List Int)} (hI : HIv k X) (h : InOK k X L) (rule p : Int) (hp : nowI X.l ≤ p) : InOK (k + 1) (enterX k rule p X) (stepL X (enterX k rule p X) L) ∧ Shift X (enterX k rule p X) := by
  have hat := hI.at_eq rule p
  unfold enterX
  by_cases hw : 0 ≤ whereI X.l rule p
  · rw [if_pos hw]
    have e : (enterS X.s rule p).1 = X.s := by unfold enterS; rw [hat, if_pos hw]
    rw [e]
    exact h.same rfl rfl (fun i f hf => ⟨f, hf, rfl⟩)
  · rw [if_neg hw]
    have e : (enterS X.s rule p).1 = touchS (X.s ++ [⟨rule, p, [], [], false⟩]) p [rule] := by unfold enterS; rw [hat, if_neg hw, hI.low hp]; rfl
    rw [e]
    have hlen := h.len
    have hsl := hI.len
    have es : stepL X ⟨touchS (X.s ++ [⟨rule, p, [], [], false⟩]) p [rule], X.l ++ [⟨rule, p, k⟩], X.rs, X.ts ++ [⟨k, rule, p⟩]⟩ L = L ++ [[]] := by
      unfold stepL
      simp only [Nat.lt_irrefl, if_false, List.length_append, List.length_singleton]
      rw [if_pos (by omega), List.take_of_length_le (by simp; omega)]
    rw [es]
    refine ⟨⟨by simp [hlen], fun i f r hf hr => ?_⟩, ⟨by simp, .inl rfl⟩⟩
    obtain ⟨f0, h0, e0⟩ := touchS_get hf
    refine InF.of_inv ?_ e0
    by_cases hi : i < X.l.length
    · rw [List.getElem?_append_left (by omega)] at h0 hr
      exact (h.ok i f0 r h0 hr).weak
    · obtain ⟨hlt, -⟩ := List.getElem?_eq_some_iff.1 hr
      have hi2 : i = X.l.length := by simp at hlt; omega
      subst hi2
      rw [List.getElem?_append_right (by omega), ← hlen, Nat.sub_self] at hr
      rw [List.getElem?_append_right (by omega), ← hsl, Nat.sub_self] at h0
      cases hr
      cases h0
      exact ⟨.nil, by simp, by simp, by simp⟩
theorem InOK.leave {k : Nat} {X : Stt} {L : List (List Int)} (hI : HIv k X) (h : InOK k X L) : InOK (k + 1) (leaveX X) (stepL X (leaveX X) L) ∧ Shift X (leaveX X) := by
  have hlen := h.len
  have es : stepL X (leaveX X) L = L.take (X.l.length - 1) := by
    unfold stepL leaveX
    simp only [Nat.lt_irrefl, if_false, List.length_take]
    rw [if_neg (by omega), Nat.min_eq_left (by omega)]
  rw [es]
  refine ⟨⟨by simp [leaveX, hlen], fun i f r hf hr => ?_⟩, ⟨by simp [leaveX]; omega, .inl rfl⟩⟩
  have hi : i < X.l.length - 1 := by
    have := (List.getElem?_eq_some_iff.1 hr).1
    simp at this; omega
  have hf : (X.s.take (X.l.length - 1))[i]? = some f := hf
  rw [List.getElem?_take_of_lt hi] at hf hr
  exact (h.ok i f r hf hr).weak
theorem InOK.read {k : Nat} {X : Stt} {L : List (List Int)} (hI : HIv k X) (hk : k ≤ 1000) (h : InOK k X L) (rule p : Int) : InOK (k + 1) (readX k rule p X) (stepL X (readX k rule p X) L) ∧ Shift X (readX k rule p X) := by
  have hat := hI.at_eq rule p
  unfold readX
  by_cases hw : 0 ≤ whereI X.l rule p
  · rw [if_pos hw]
    have hcs : ∃ W : Nat, whereI X.l rule p = W ∧ W < X.l.length := by
      rcases atI_cases (X.l.map Sd.fm) rule p with ⟨h1, -⟩ | ⟨W, hW, h1, -⟩
      · unfold whereI at hw; omega
      · exact ⟨W, h1, by simpa using hW⟩
    obtain ⟨W, hW, hWl⟩ := hcs
    rw [hW] at hat ⊢
    have e : (readS X.s rule p).1 = touchS (X.s.mapIdx fun i f => if (i : Int) = W then { f with inv := addL f.inv ((X.s.drop (i + 1)).map (·.rule)) } else if (W : Int) < i then { f with tnt := true } else f) p [rule] := by
      unfold readS; rw [hat, if_neg (by omega)]
    rw [e]
    have hlen := h.len
    have hsl := hI.len
    have hsz := hI.sizes
    have es : stepL X ⟨touchS (X.s.mapIdx fun i f => if (i : Int) = W then { f with inv := addL f.inv ((X.s.drop (i + 1)).map (·.rule)) } else if (W : Int) < i then { f with tnt := true } else f) p [rule], X.l, X.rs ++ [⟨k, W⟩], X.ts ++ [⟨k, rule, p⟩]⟩ L = L.set W (L.getD W [] ++ (X.l.drop (W + 1)).map (·.rule)) := by
      unfold stepL
      simp only [List.length_append, List.length_singleton]
      rw [if_pos (by omega), List.getElem?_append_right (Nat.le_refl _), Nat.sub_self]
      simp only [List.getElem?_cons_zero, Nat.lt_irrefl, if_false, Int.toNat_natCast]
      rw [List.take_of_length_le (by omega)]
    rw [es]
    refine ⟨⟨by simp [hlen], fun i f r hf hr => ?_⟩, ⟨by simp, .inr ⟨⟨k, W⟩, rfl, rfl, by simp, by simpa using hWl⟩⟩⟩
    obtain ⟨f0, h0, e0⟩ := touchS_get hf
    refine InF.of_inv ?_ e0
    simp only [List.getElem?_mapIdx, Option.map_eq_some_iff] at h0
    obtain ⟨f1, h1, rfl⟩ := h0
    by_cases hi : i = W
    · subst hi
      rw [if_pos rfl]
      have hr2 : L[i]? = some (L.getD i []) := by rw [List.getD_eq_getElem?_getD, List.getElem?_eq_getElem (by omega)]; rfl
      have ho := h.ok i f1 _ h1 hr2
      rw [List.getElem?_set_self (by omega)] at hr
      cases hr
      rw [rules_eq hI (i + 1)]
      refine ⟨addL_rises ho.rises, fun z => ?_, ?_, ?_⟩
      · simp only [mem_addL, List.mem_append, ho.mem z]
      · have := addL_len (l := f1.inv) (xs := (X.l.drop (i + 1)).map (·.rule))
        have := ho.size
        simp only [List.length_append] at *
        omega
      · have := ho.few
        simp only [List.length_append, List.length_map, List.length_drop]
        omega
    · rw [List.getElem?_set_ne (by omega)] at hr
      rw [if_neg (by omega)]
      have ho := (h.ok i f1 r h1 hr).weak
      split
      · exact ho.of_inv rfl
      · exact ho
  · rw [if_neg hw]
    have e : (readS X.s rule p).1 = X.s := by unfold readS; rw [hat, if_pos (by omega)]
    rw [e]
    exact h.same rfl rfl (fun i f hf => ⟨f, hf, rfl⟩)
theorem InOK.use {k : Nat} {X : Stt} {L : List (List Int)} (hI : HIv k X) (h : InOK k X L) (rule : Int) : InOK (k + 1) (useX k rule (nowI X.l) X) (stepL X (useX k rule (nowI X.l) X) L) ∧ Shift X (useX k rule (nowI X.l) X) := by
  have e : (useS X.s (nowI X.l) [rule]).1 = touchS X.s (nowI X.l) [rule] := by unfold useS; rw [hI.low (Int.le_refl _)]; rfl
  refine h.same rfl rfl (fun i f hf => ?_)
  have hf : ((useS X.s (nowI X.l) [rule]).1)[i]? = some f := hf
  rw [e] at hf
  exact touchS_get hf
theorem InOK.step {k : Nat} {X : Stt} {L : List (List Int)} (hI : HIv k X) (hk : k ≤ 1000) (h : InOK k X L) (d : Stp) : InOK (k + 1) (stepX k d X) (stepL X (stepX k d X) L) ∧ Shift X (stepX k d X) := by
  unfold stepX
  split
  · exact h.enter hI _ _ (by unfold plI; split <;> omega)
  · split
    · exact h.leave hI
    · split
      · exact h.read hI hk _ _
      · exact h.use hI _
def inAt (ds : List Stp) : Nat → List (List Int)
  | 0 => []
  | k + 1 => stepL (runAt ds k) (runAt ds (k + 1)) (inAt ds k)
theorem inAt_ok (ds : List Stp) (hd : ds.length ≤ 1000) : ∀ k, k ≤ ds.length → InOK k (runAt ds k) (inAt ds k) := by
  intro k
  induction k with
  | zero => intro _; exact InOK.start
  | succ k ih =>
    intro hk
    have h1 := runAt_succ ds (List.getElem?_eq_getElem (show k < ds.length by omega))
    show InOK (k + 1) (runAt ds (k + 1)) (stepL (runAt ds k) (runAt ds (k + 1)) (inAt ds k))
    rw [h1]
    exact (InOK.step (inv_runAt ds k (by omega)) (by omega) (ih (by omega)) _).1
theorem inAt_shift (ds : List Stp) (hd : ds.length ≤ 1000) {k : Nat} (hk : k < ds.length) : Shift (runAt ds k) (runAt ds (k + 1)) := by
  rw [runAt_succ ds (List.getElem?_eq_getElem hk)]
  exact (InOK.step (inv_runAt ds k (by omega)) (by omega) (inAt_ok ds hd k (by omega)) _).2
end Go.Proofs.Ytnajhcoimohcaaa

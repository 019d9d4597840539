/-
  The statements' history, plain: what a step does, and what holds of all that was done.
  Conditions: none.
-/
import Derived.Test.YtnajhcoimohcaaaSmHs6
set_option linter.unusedVariables false
set_option linter.unusedSimpArgs false
set_option linter.unnecessarySimpa false
namespace Go.Proofs.Ytnajhcoimohcaaa
open Go.RowKit Go.MapKept

structure Stt where
  s : List Fm
  l : List Sd
  rs : List Rd
  ts : List Tc
def enterX (k rule p : Int) (x : Stt) : Stt :=
  if 0 ≤ whereI x.l rule p then { x with s := (enterS x.s rule p).1 } else ⟨(enterS x.s rule p).1, x.l ++ [⟨rule, p, k⟩], x.rs, x.ts ++ [⟨k, rule, p⟩]⟩
def leaveX (x : Stt) : Stt := { x with s := x.s.take (x.l.length - 1), l := x.l.take (x.l.length - 1) }
def readX (k rule p : Int) (x : Stt) : Stt :=
  if 0 ≤ whereI x.l rule p then ⟨(readS x.s rule p).1, x.l, x.rs ++ [⟨k, whereI x.l rule p⟩], x.ts ++ [⟨k, rule, p⟩]⟩ else { x with s := (readS x.s rule p).1 }
def useX (k rule p : Int) (x : Stt) : Stt := ⟨(useS x.s p [rule]).1, x.l, x.rs, if x.l = [] then x.ts else x.ts ++ [⟨k, rule, p⟩]⟩
structure Stp where
  what : Int
  rule : Int
  on : Bool
def stepX (k : Int) (d : Stp) (x : Stt) : Stt :=
  if d.what % 4 = 0 then enterX k d.rule (plI x.l d.on) x
  else if d.what % 4 = 1 then leaveX x
  else if d.what % 4 = 2 then readX k d.rule (nowI x.l) x
  else useX k d.rule (nowI x.l) x
/-- An activation and what was written down of it. -/
structure Agree (rs : List Rd) (ts : List Tc) (i : Nat) (f : Fm) (g : Sd) : Prop where
  rule : f.rule = g.rule
  place : f.place = g.place
  tnt : f.tnt = hangB rs g.since i
  rises : Rises f.tch
  tch : ∀ z, z ∈ f.tch ↔ tchB ts g.since g.place z = true
  size : f.tch.length ≤ ts.length
structure HIv (k : Nat) (x : Stt) : Prop where
  len : x.s.length = x.l.length
  agree : ∀ (i : Nat) (f : Fm) (g : Sd), x.s[i]? = some f → x.l[i]? = some g → Agree x.rs x.ts i f g
  top : ∀ (i : Nat) (g : Sd), x.l[i]? = some g → g.place ≤ nowI x.l
  since : ∀ g ∈ x.l, g.since < k
  steps : ∀ r ∈ x.rs, r.step < k
  stept : ∀ t ∈ x.ts, t.step < k
  now0 : ∀ g ∈ x.l, 0 ≤ g.place ∧ g.place ≤ k
  sizes : x.l.length ≤ k ∧ x.rs.length ≤ k ∧ x.ts.length ≤ k
  mono : x.l.Pairwise (fun a b => a.place ≤ b.place)
theorem HIv.start : HIv 0 ⟨[], [], [], []⟩ := ⟨rfl, by simp, by simp, by simp, by simp, by simp, by simp, by simp, .nil⟩
theorem nowI_snoc (l : List Sd) (g : Sd) : nowI (l ++ [g]) = g.place := by simp [nowI]
theorem HIv.now {k : Nat} {x : Stt} (h : HIv k x) : 0 ≤ nowI x.l ∧ nowI x.l ≤ k := by
  unfold nowI
  cases e : x.l.getLast? with
  | none => simp
  | some g => exact h.now0 g (List.mem_of_getLast? e)
theorem atI_map {α : Type} (u : α → Fm) : ∀ {s : List Fm} {l : List α} (hl : s.length = l.length) (h : ∀ (i : Nat) f g, s[i]? = some f → l[i]? = some g → f.rule = (u g).rule ∧ f.place = (u g).place) (r p : Int), atI s r p = atI (l.map u) r p := by
  intro s
  induction s with
  | nil => intro l hl h r p; cases l with | nil => rfl | cons _ _ => cases hl
  | cons f s ih =>
    intro l hl h r p
    cases l with
    | nil => cases hl
    | cons g l =>
      have h0 := h 0 f g rfl rfl
      have hr := ih (l := l) (by simpa using hl) (fun i f g h1 h2 => h (i + 1) f g (by simpa using h1) (by simpa using h2)) r p
      simp only [List.map_cons, atI, h0.1, h0.2, hr]
theorem HIv.at_eq {k : Nat} {x : Stt} (h : HIv k x) (r p : Int) : atI x.s r p = whereI x.l r p :=
  atI_map Sd.fm h.len (fun i f g h1 h2 => ⟨(h.agree i f g h1 h2).rule, (h.agree i f g h1 h2).place⟩) r p
theorem HIv.get_s {k : Nat} {x : Stt} (h : HIv k x) {i : Nat} {g : Sd} (hg : x.l[i]? = some g) : ∃ f, x.s[i]? = some f := by
  have := (List.getElem?_eq_some_iff.1 hg).1
  exact ⟨x.s[i]'(by rw [h.len]; exact this), List.getElem?_eq_getElem _⟩
theorem HIv.low {k : Nat} {x : Stt} (h : HIv k x) {p : Int} (hp : nowI x.l ≤ p) : lowB x.s p = false := by
  unfold lowB
  cases e : x.s.getLast? with
  | none => rfl
  | some f =>
    have hpos : 0 < x.s.length := by cases hx : x.s with | nil => rw [hx] at e; simp at e | cons _ _ => simp
    rw [List.getLast?_eq_getElem?] at e
    have hl := h.len
    have hg : x.l[x.s.length - 1]? = some (x.l[x.s.length - 1]'(by omega)) := List.getElem?_eq_getElem _
    have hn : nowI x.l = (x.l[x.s.length - 1]'(by omega)).place := by
      unfold nowI
      rw [List.getLast?_eq_getElem?, show x.l.length - 1 = x.s.length - 1 by omega, hg]
    have := (h.agree _ _ _ e hg).place
    simp only [decide_eq_false_iff_not]
    omega
theorem hangB_snoc (rs : List Rd) (r : Rd) (since n : Int) : hangB (rs ++ [r]) since n = (hangB rs since n || (decide (since < r.step) && decide (r.pos < n))) := by simp [hangB]
theorem tchB_snoc (ts : List Tc) (t : Tc) (since place z : Int) : tchB (ts ++ [t]) since place z = (tchB ts since place z || (decide (since ≤ t.step) && (decide (t.rule = z) && decide (t.place = place)))) := by simp [tchB]
theorem hangB_new {k : Nat} {rs : List Rd} (h : ∀ r ∈ rs, r.step < k) (n : Int) : hangB rs k n = false := by
  unfold hangB
  rw [List.any_eq_false]
  intro r hr
  have := h r hr
  simp only [Bool.and_eq_true, decide_eq_true_eq]
  omega
theorem tchB_new {k : Nat} {ts : List Tc} (h : ∀ t ∈ ts, t.step < k) (p z : Int) : tchB ts k p z = false := by
  unfold tchB
  rw [List.any_eq_false]
  intro r hr
  have := h r hr
  simp only [Bool.and_eq_true, decide_eq_true_eq]
  omega
/-- A rule touches a place. -/
theorem Agree.touch {rs : List Rd} {ts : List Tc} {i : Nat} {f : Fm} {g : Sd} (h : Agree rs ts i f g) (k : Int) (hk : g.since ≤ k) (r p : Int) : Agree rs (ts ++ [⟨k, r, p⟩]) i (touchF p [r] f) g := by
  unfold touchF
  by_cases hp : f.place = p
  · rw [if_pos hp]
    refine ⟨h.rule, h.place, h.tnt, addL_rises h.rises, fun z => ?_, ?_⟩
    · have hgp : p = g.place := by rw [← hp]; exact h.place
      simp only [mem_addL, h.tch z, List.mem_singleton, tchB_snoc, Bool.or_eq_true, Bool.and_eq_true, decide_eq_true_eq]
      constructor
      · rintro (h1 | h1)
        · exact .inl h1
        · exact .inr ⟨hk, h1.symm, hgp⟩
      · rintro (h1 | ⟨-, h1, -⟩)
        · exact .inl h1
        · exact .inr h1.symm
    · have := addL_len (l := f.tch) (xs := [r])
      have := h.size
      simp only [List.length_append, List.length_singleton] at *
      omega
  · rw [if_neg hp]
    refine ⟨h.rule, h.place, h.tnt, h.rises, fun z => ?_, ?_⟩
    · rw [h.tch z, tchB_snoc]
      have hgp : ¬ p = g.place := fun e => hp (by rw [e]; exact h.place)
      simp [hgp]
    · have := h.size
      simp only [List.length_append, List.length_singleton]
      omega
theorem HIv.weak {k : Nat} {x : Stt} (h : HIv k x) : HIv (k + 1) x :=
  ⟨h.len, h.agree, h.top, fun g hg => by have := h.since g hg; omega, fun r hr => by have := h.steps r hr; omega, fun t ht => by have := h.stept t ht; omega, fun g hg => by have := h.now0 g hg; omega, by have := h.sizes; omega, h.mono⟩
theorem HIv.enter {k : Nat} {x : Stt} (h : HIv k x) (rule p : Int) (hp : nowI x.l ≤ p) (hp2 : p ≤ nowI x.l + 1) : HIv (k + 1) (enterX k rule p x) := by
  unfold enterX
  have hat := h.at_eq rule p
  by_cases hw : 0 ≤ whereI x.l rule p
  · rw [if_pos hw]
    have e : (enterS x.s rule p).1 = x.s := by unfold enterS; rw [hat, if_pos hw]
    rw [e]
    exact h.weak
  · rw [if_neg hw]
    have e : (enterS x.s rule p).1 = touchS (x.s ++ [⟨rule, p, [], [], false⟩]) p [rule] := by unfold enterS; rw [hat, if_neg hw, h.low hp]; rfl
    rw [e]
    have hnow := h.now
    have hlen := h.len
    refine ⟨by simp [touchS, hlen], fun i f g hf hg => ?_, fun i g hg => ?_, fun g hg => ?_, fun r hr => ?_, fun t ht => ?_, fun g hg => ?_, ?_, ?_⟩
    · simp only [touchS, List.getElem?_map, Option.map_eq_some_iff] at hf
      obtain ⟨f0, hf0, rfl⟩ := hf
      by_cases hi : i < x.l.length
      · rw [List.getElem?_append_left (by omega)] at hf0
        rw [List.getElem?_append_left hi] at hg
        have := h.since g (List.mem_of_getElem? hg)
        exact (h.agree i f0 g hf0 hg).touch k (by omega) rule p
      · obtain ⟨hlt, -⟩ := List.getElem?_eq_some_iff.1 hg
        have hi2 : i = x.l.length := by simp at hlt; omega
        subst hi2
        rw [List.getElem?_append_right (by omega), Nat.sub_self] at hg
        rw [List.getElem?_append_right (by omega), ← hlen, Nat.sub_self] at hf0
        cases hg
        cases hf0
        refine Agree.touch (ts := x.ts) ⟨rfl, rfl, ?_, .nil, fun z => ?_, by simp⟩ k (Int.le_refl _) rule p
        · exact (hangB_new h.steps _).symm
        · simp only [List.not_mem_nil, tchB_new h.stept, Bool.false_eq_true]
    · rw [nowI_snoc]
      by_cases hi : i < x.l.length
      · rw [List.getElem?_append_left hi] at hg
        have := h.top i g hg
        show g.place ≤ p
        omega
      · obtain ⟨hlt, -⟩ := List.getElem?_eq_some_iff.1 hg
        have hi2 : i = x.l.length := by simp at hlt; omega
        subst hi2
        rw [List.getElem?_append_right (by omega), Nat.sub_self] at hg
        cases hg
        exact Int.le_refl _
    · rcases List.mem_append.1 hg with hg | hg
      · have := h.since g hg; omega
      · simp only [List.mem_singleton] at hg; subst hg; show (k : Int) < _; omega
    · have := h.steps r hr; omega
    · rcases List.mem_append.1 ht with ht | ht
      · have := h.stept t ht; omega
      · simp only [List.mem_singleton] at ht; subst ht; show (k : Int) < _; omega
    · rcases List.mem_append.1 hg with hg | hg
      · have := h.now0 g hg; omega
      · simp only [List.mem_singleton] at hg; subst hg; show 0 ≤ p ∧ p ≤ _; omega
    · have := h.sizes
      simp only [List.length_append, List.length_singleton]
      omega
    · refine List.pairwise_append.2 ⟨h.mono, by simp, fun a ha b hb => ?_⟩
      simp only [List.mem_singleton] at hb
      subst hb
      obtain ⟨i, hi⟩ := List.mem_iff_getElem?.1 ha
      have := h.top i a hi
      show a.place ≤ p
      omega
theorem HIv.read {k : Nat} {x : Stt} (h : HIv k x) (rule p : Int) : HIv (k + 1) (readX k rule p x) := by
  unfold readX
  have hat := h.at_eq rule p
  by_cases hw : 0 ≤ whereI x.l rule p
  · rw [if_pos hw]
    obtain ⟨W, hW⟩ : ∃ z, z = whereI x.l rule p := ⟨_, rfl⟩
    rw [← hW] at hat hw ⊢
    have e : (readS x.s rule p).1 = touchS (x.s.mapIdx fun i f => if (i : Int) = W then { f with inv := addL f.inv ((x.s.drop (i + 1)).map (·.rule)) } else if W < i then { f with tnt := true } else f) p [rule] := by
      unfold readS; rw [hat, if_neg (by omega)]
    rw [e]
    refine ⟨by simp [touchS, h.len], fun i f g hf hg => ?_, h.top, fun g hg => ?_, fun r hr => ?_, fun t ht => ?_, fun g hg => ?_, ?_, h.mono⟩
    · simp only [touchS, List.getElem?_map, List.getElem?_mapIdx, Option.map_eq_some_iff] at hf
      obtain ⟨_, ⟨f0, hf0, rfl⟩, rfl⟩ := hf
      have ha := h.agree i f0 g hf0 hg
      have hs := h.since g (List.mem_of_getElem? hg)
      refine Agree.touch (ts := x.ts) ?_ k (by omega) rule p
      by_cases h1 : (i : Int) = W
      · rw [if_pos h1]
        exact ⟨ha.rule, ha.place, by rw [hangB_snoc]; show f0.tnt = _; rw [ha.tnt]; simp [h1], ha.rises, ha.tch, ha.size⟩
      · rw [if_neg h1]
        by_cases h2 : W < i
        · rw [if_pos h2]
          exact ⟨ha.rule, ha.place, by rw [hangB_snoc]; simp [h2]; exact .inr hs, ha.rises, ha.tch, ha.size⟩
        · rw [if_neg h2]
          exact ⟨ha.rule, ha.place, by rw [hangB_snoc, ha.tnt]; simp [h2], ha.rises, ha.tch, ha.size⟩
    · have := h.since g hg; omega
    · rcases List.mem_append.1 hr with hr | hr
      · have := h.steps r hr; omega
      · simp only [List.mem_singleton] at hr; subst hr; show (k : Int) < _; omega
    · rcases List.mem_append.1 ht with ht | ht
      · have := h.stept t ht; omega
      · simp only [List.mem_singleton] at ht; subst ht; show (k : Int) < _; omega
    · have := h.now0 g hg; omega
    · have := h.sizes
      simp only [List.length_append, List.length_singleton]
      omega
  · rw [if_neg hw]
    have e : (readS x.s rule p).1 = x.s := by unfold readS; rw [hat, if_pos (by omega)]
    rw [e]
    exact h.weak
theorem HIv.use {k : Nat} {x : Stt} (h : HIv k x) (rule : Int) : HIv (k + 1) (useX k rule (nowI x.l) x) := by
  unfold useX
  have e : (useS x.s (nowI x.l) [rule]).1 = touchS x.s (nowI x.l) [rule] := by unfold useS; rw [h.low (Int.le_refl _)]; rfl
  rw [e]
  by_cases h0 : x.l = []
  · rw [if_pos h0]
    have hs : x.s = [] := List.eq_nil_of_length_eq_zero (by rw [h.len, h0]; rfl)
    have e2 : touchS x.s (nowI x.l) [rule] = x.s := by rw [hs]; rfl
    rw [e2]
    exact h.weak
  · rw [if_neg h0]
    refine ⟨by simp [touchS, h.len], fun i f g hf hg => ?_, h.top, fun g hg => ?_, fun r hr => ?_, fun t ht => ?_, fun g hg => ?_, ?_, h.mono⟩
    · simp only [touchS, List.getElem?_map, Option.map_eq_some_iff] at hf
      obtain ⟨f0, hf0, rfl⟩ := hf
      have hs := h.since g (List.mem_of_getElem? hg)
      exact (h.agree i f0 g hf0 hg).touch k (by omega) rule _
    · have := h.since g hg; omega
    · have := h.steps r hr; omega
    · rcases List.mem_append.1 ht with ht | ht
      · have := h.stept t ht; omega
      · simp only [List.mem_singleton] at ht; subst ht; show (k : Int) < _; omega
    · have := h.now0 g hg; omega
    · have := h.sizes
      simp only [List.length_append, List.length_singleton]
      omega
theorem HIv.leave {k : Nat} {x : Stt} (h : HIv k x) : HIv k (leaveX x) := by
  unfold leaveX
  have hmono : (x.l.take (x.l.length - 1)).Pairwise (fun a b => a.place ≤ b.place) := h.mono.sublist (List.take_sublist _ _)
  have hsub : ∀ g, g ∈ x.l.take (x.l.length - 1) → g ∈ x.l := fun g hg => List.mem_of_mem_take hg
  refine ⟨by simp [h.len], fun i f g hf hg => ?_, fun i g hg => ?_, fun g hg => h.since g (hsub g hg), h.steps, h.stept, fun g hg => h.now0 g (hsub g hg), ?_, hmono⟩
  · have hi : i < x.l.length - 1 := by
      have := (List.getElem?_eq_some_iff.1 hg).1
      simp at this; omega
    rw [List.getElem?_take_of_lt hi] at hf hg
    exact h.agree i f g hf hg
  · obtain ⟨hi, hv⟩ := List.getElem?_eq_some_iff.1 hg
    show g.place ≤ nowI (x.l.take (x.l.length - 1))
    unfold nowI
    have hi : i < (x.l.take (x.l.length - 1)).length := hi
    rw [List.getLast?_eq_getElem?, List.getElem?_eq_getElem (by omega)]
    simp only
    rcases Nat.lt_or_ge i ((x.l.take (x.l.length - 1)).length - 1) with h1 | h1
    · rw [← hv]
      exact List.pairwise_iff_getElem.1 hmono i _ hi (by omega) h1
    · have e : i = (x.l.take (x.l.length - 1)).length - 1 := by omega
      rw [← hv]
      simp only [← e]
      exact Int.le_refl _
  · have := h.sizes
    simp only [List.length_take]
    omega
theorem HIv.step {k : Nat} {x : Stt} (h : HIv k x) (d : Stp) : HIv (k + 1) (stepX k d x) := by
  unfold stepX
  split
  · refine h.enter _ _ ?_ ?_
    · unfold plI; split <;> omega
    · unfold plI; split <;> omega
  · split
    · exact h.leave.weak
    · split
      · exact h.read _ _
      · exact h.use _
def runX (ds : List Stp) : Stt := (ds.foldl (fun (y : Nat × Stt) d => (y.1 + 1, stepX y.1 d y.2)) (0, ⟨[], [], [], []⟩)).2
def runAt (ds : List Stp) (k : Nat) : Stt := runX (ds.take k)
theorem run_count (ds : List Stp) : ∀ (y : Nat × Stt), (ds.foldl (fun (y : Nat × Stt) d => (y.1 + 1, stepX y.1 d y.2)) y).1 = y.1 + ds.length := by
  induction ds with
  | nil => intro y; rfl
  | cons d ds ih => intro y; rw [List.foldl_cons, ih]; simp only [List.length_cons]; omega
theorem runAt_zero (ds : List Stp) : runAt ds 0 = ⟨[], [], [], []⟩ := rfl
theorem runAt_succ (ds : List Stp) {k : Nat} {d : Stp} (h : ds[k]? = some d) : runAt ds (k + 1) = stepX k d (runAt ds k) := by
  obtain ⟨hk, rfl⟩ := List.getElem?_eq_some_iff.1 h
  unfold runAt runX
  rw [List.take_succ_eq_append_getElem hk, List.foldl_append]
  simp only [List.foldl_cons, List.foldl_nil]
  rw [run_count]
  simp only [List.length_take, Nat.min_eq_left (Nat.le_of_lt hk), Nat.zero_add]
theorem inv_runAt (ds : List Stp) : ∀ k, k ≤ ds.length → HIv k (runAt ds k) := by
  intro k
  induction k with
  | zero => intro _; rw [runAt_zero]; exact HIv.start
  | succ k ih =>
    intro hk
    rw [runAt_succ ds (List.getElem?_eq_getElem (by omega))]
    exact (ih (by omega)).step _
end Go.Proofs.Ytnajhcoimohcaaa

/-
  Graphs in plain words: who leads on to whom; the search that finds the parts (by when a number was met, and how far back it leads) is right; the rounds that order the parts.
  Conditions: none.
-/
import Derived.Test.YtlklmpjakeedcaaGreatDoorSEnBase
set_option linter.unusedVariables false
set_option linter.unusedSimpArgs false
set_option linter.unnecessarySimpa false
namespace Go.Proofs.YtlklmpjakeedcaaGreatDoor.Cp
section
/-! Graphs: rows of numbers; who leads on to whom. -/
def row (G : List (List Nat)) (a : Nat) : List Nat := G.getD a []
/-- A graph whose rows rise and have numbers of rows alone. -/
structure RG (G : List (List Nat)) : Prop where
  lt : ∀ a, ∀ b ∈ row G a, b < G.length
  rise : ∀ a, (row G a).Pairwise (· < ·)
  few : G.length ≤ 64
inductive Reach (G : List (List Nat)) : Nat → Nat → Prop
  | refl (a : Nat) : Reach G a a
  | step {a b c : Nat} : b ∈ row G a → Reach G b c → Reach G a c
theorem Reach.one {G : List (List Nat)} {a b : Nat} (h : b ∈ row G a) : Reach G a b := .step h (.refl b)
theorem Reach.trans {G : List (List Nat)} {a b c : Nat} (h : Reach G a b) (k : Reach G b c) : Reach G a c := by
  induction h with
  | refl => exact k
  | step e _ ih => exact .step e (ih k)
/-- What holds of one and goes along edges holds of all it leads on to. -/
theorem Reach.inv {G : List (List Nat)} {P : Nat → Prop} {a b : Nat} (h : Reach G a b) (ha : P a) (hs : ∀ x, P x → ∀ y ∈ row G x, P y) : P b := by
  induction h with
  | refl => exact ha
  | step e _ ih => exact ih (hs _ ha _ e)

/-! Numbers at places. -/
def upd {α : Type} (f : Nat → α) (a : Nat) (v : α) : Nat → α := fun i => if i = a then v else f i
theorem upd_same {α : Type} (f : Nat → α) (a : Nat) (v : α) : upd f a v a = v := by simp [upd]
theorem upd_other {α : Type} (f : Nat → α) {a i : Nat} (v : α) (h : i ≠ a) : upd f a v i = f i := by simp [upd, h]
theorem set_range {α : Type} (f : Nat → α) (n a : Nat) (v : α) : ((List.range n).map f).set a v = (List.range n).map (upd f a v) := by
  apply List.ext_getElem? 
  intro i
  by_cases h : i < n
  · by_cases e : a = i
    · subst e; simp [h, upd]
    · have : ¬ i = a := fun k => e k.symm
      simp [List.getElem?_set, e, h, upd, this]
  · simp [h, List.getElem?_eq_none, List.getElem?_set]

/-! The search. -/
structure TS where
  met : Nat → Nat
  back : Nat → Nat
  part : Nat → Int
  aside : List Nat
  parts : List (List Nat)
  clock : Nat
def enterT (s : TS) (a : Nat) : TS := { s with clock := s.clock + 1, met := upd s.met a (s.clock + 1), back := upd s.back a (s.clock + 1), aside := a :: s.aside }
def seeT (s : TS) (a b : Nat) : TS := if s.part b < 0 then { s with back := upd s.back a (min (s.back a) (s.back b)) } else s
/-- What stands above one, and it. -/
def topT (l : List Nat) (a : Nat) : List Nat := l.takeWhile (fun x => x != a) ++ [a]
def dropT (l : List Nat) (a : Nat) : List Nat := (l.dropWhile (fun x => x != a)).tail
def leaveT (n : Nat) (s : TS) (a : Nat) : TS :=
  if s.back a < s.met a then s else
  { s with aside := dropT s.aside a
           part := fun i => if i ∈ topT s.aside a then (s.parts.length : Int) else s.part i
           parts := s.parts ++ [(List.range n).filter (fun i => decide (i ∈ topT s.aside a))] }
def visitT (G : List (List Nat)) : Nat → TS → Nat → TS
  | 0, s, _ => s
  | k+1, s, a => if 0 < s.met a then s else leaveT G.length ((row G a).foldl (fun t b => seeT (visitT G k t b) a b) (enterT s a)) a

structure Wf (G : List (List Nat)) (C : List Nat) (s : TS) : Prop where
  clock : ∀ a, s.met a ≤ s.clock
  lt : ∀ a, 0 < s.met a → a < G.length
  sorted : s.aside.Pairwise (fun x y => s.met y < s.met x)
  on : ∀ a, a ∈ s.aside ↔ 0 < s.met a ∧ s.part a < 0
  neg : ∀ a, s.part a < 0 → s.part a = -1
  white : ∀ a, s.met a = 0 → s.part a = -1
  gray : ∀ a ∈ C, a ∈ s.aside
  nwb : ∀ a, 0 < s.met a → a ∉ C → ∀ b ∈ row G a, 0 < s.met b
  down : ∀ x ∈ s.aside, ∀ y ∈ s.aside, s.met x ≤ s.met y → Reach G x y
  up : ∀ y ∈ s.aside, ∃ g ∈ C, s.met g ≤ s.met y ∧ Reach G y g
  low : ∀ a ∈ s.aside, s.back a ≤ s.met a ∧ ∃ y ∈ s.aside, s.met y = s.back a ∧ Reach G a y
  closed : ∀ a, 0 ≤ s.part a → ∀ b ∈ row G a, 0 ≤ s.part b ∧ s.part b ≤ s.part a
  scc : ∀ a b, 0 ≤ s.part a → (s.part b = s.part a ↔ Reach G a b ∧ Reach G b a)
  most : ∀ a, s.part a < s.parts.length
  rows : ∀ p, (h : p < s.parts.length) → s.parts[p] = (List.range G.length).filter (fun i => decide (s.part i = p))
  some : ∀ p, p < s.parts.length → ∃ a, s.part a = p

/-- What a visit keeps of what was met. -/
structure Sub (s t : TS) (new : List Nat) : Prop where
  met : ∀ b, 0 < s.met b → t.met b = s.met b
  back : ∀ b, 0 < s.met b → t.back b = s.back b
  part : ∀ b, 0 < s.met b → t.part b = s.part b
  aside : t.aside = new ++ s.aside
  fresh : ∀ b ∈ new, s.met b = 0
  clock : s.clock ≤ t.clock

structure Post (G : List (List Nat)) (C : List Nat) (s : TS) (a : Nat) (t : TS) (new : List Nat) : Prop where
  wf : Wf G C t
  sub : Sub s t new
  done : 0 < t.met a
  over : ∀ x ∈ new, ∀ y ∈ row G x, y ∈ s.aside → t.part a < 0 ∧ t.back a ≤ t.met y

/-- Within the visit of one: so many of its edges are gone through. -/
structure Mid (G : List (List Nat)) (C : List Nat) (s : TS) (a : Nat) (j : List Nat) (t : TS) (new : List Nat) : Prop where
  wf : Wf G (a :: C) t
  sub : Sub (enterT s a) { t with back := upd t.back a (s.clock + 1) } new
  seen : ∀ b ∈ j, 0 < t.met b
  over : ∀ x, x ∈ new → ∀ y ∈ row G x, y ∈ s.aside → t.back a ≤ t.met y
  own : ∀ y ∈ j, y ∈ s.aside → t.back a ≤ t.met y

variable {G : List (List Nat)}

theorem Wf.met_of {C : List Nat} {s : TS} (h : Wf G C s) {a : Nat} (ha : a ∈ s.aside) : 0 < s.met a := ((h.on a).1 ha).1
theorem Wf.part_of {C : List Nat} {s : TS} (h : Wf G C s) {a : Nat} (ha : a ∈ s.aside) : s.part a < 0 := ((h.on a).1 ha).2
theorem Wf.reach {C : List Nat} {s : TS} (h : Wf G C s) {a b : Nat} (ha : 0 ≤ s.part a) (hr : Reach G a b) : 0 ≤ s.part b := hr.inv (P := fun x => 0 ≤ s.part x) ha (fun x hx y hy => (h.closed x hx y hy).1)

theorem enter_mid {C : List Nat} {s : TS} {a : Nat} (h : Wf G C s) (hm : s.met a = 0) (ha : a < G.length) (hC : ∀ g ∈ C, Reach G g a) : Mid G C s a [] (enterT s a) [] := by
  have hne : ∀ x, 0 < s.met x → x ≠ a := fun x hx e => by subst e; omega
  have hna : a ∉ s.aside := fun k => by have := h.met_of k; omega
  have hpa : s.part a = -1 := h.white a hm
  have hmet : ∀ x, 0 < s.met x → (enterT s a).met x = s.met x := fun x hx => upd_other _ _ (hne x hx)
  have hma : (enterT s a).met a = s.clock + 1 := upd_same _ _ _
  have hall : ∀ x ∈ s.aside, Reach G x a := fun x hx => by
    obtain ⟨g, hg, _, hr⟩ := h.up x hx
    exact hr.trans (hC g hg)
  refine ⟨⟨?_, ?_, ?_, ?_, h.neg, ?_, ?_, ?_, ?_, ?_, ?_, h.closed, h.scc, h.most, h.rows, h.some⟩, ⟨fun _ _ => rfl, fun b hb => ?_, fun _ _ => rfl, rfl, fun _ hb => (by cases hb), Nat.le_refl _⟩, fun _ hb => (by cases hb), fun _ hb => (by cases hb), fun _ hb => (by cases hb)⟩
  · intro x
    by_cases e : x = a
    · subst e; rw [hma]; exact Nat.le_refl _
    · rw [show (enterT s a).met x = s.met x from upd_other _ _ e]; have := h.clock x; show _ ≤ s.clock + 1; omega
  · intro x hx
    by_cases e : x = a
    · subst e; exact ha
    · rw [show (enterT s a).met x = s.met x from upd_other _ _ e] at hx; exact h.lt x hx
  · refine List.pairwise_cons.2 ⟨fun y hy => ?_, ?_⟩
    · rw [hma, hmet y (h.met_of hy)]; have := h.clock y; omega
    · refine h.sorted.imp_of_mem fun {x y} hx hy k => ?_
      rw [hmet x (h.met_of hx), hmet y (h.met_of hy)]; exact k
  · intro x
    by_cases e : x = a
    · subst e
      refine ⟨fun _ => ⟨by rw [hma]; omega, by show s.part x < 0; omega⟩, fun _ => List.mem_cons_self ..⟩
    · rw [show (enterT s a).met x = s.met x from upd_other _ _ e]
      exact ⟨fun k => (h.on x).1 ((List.mem_cons.1 k).resolve_left e), fun k => List.mem_cons_of_mem _ ((h.on x).2 k)⟩
  · intro x hx
    by_cases e : x = a
    · subst e; rw [hma] at hx; omega
    · rw [show (enterT s a).met x = s.met x from upd_other _ _ e] at hx; exact h.white x hx
  · intro x hx
    rcases List.mem_cons.1 hx with e | k
    · subst e; exact List.mem_cons_self ..
    · exact List.mem_cons_of_mem _ (h.gray x k)
  · intro x hx hxC b hb
    have e : x ≠ a := fun e => hxC (by subst e; exact List.mem_cons_self ..)
    rw [show (enterT s a).met x = s.met x from upd_other _ _ e] at hx
    have := h.nwb x hx (fun k => hxC (List.mem_cons_of_mem _ k)) b hb
    rw [hmet b this]; exact this
  · intro x hx y hy k
    rcases List.mem_cons.1 hx with e | hx'
    · subst e
      rcases List.mem_cons.1 hy with e | hy'
      · subst e; exact .refl _
      · rw [hma, hmet y (h.met_of hy')] at k; have := h.clock y; omega
    · rcases List.mem_cons.1 hy with e | hy'
      · subst e; exact hall x hx'
      · rw [hmet x (h.met_of hx'), hmet y (h.met_of hy')] at k; exact h.down x hx' y hy' k
  · intro y hy
    rcases List.mem_cons.1 hy with e | hy'
    · subst e; exact ⟨y, List.mem_cons_self .., Nat.le_refl _, .refl _⟩
    · obtain ⟨g, hg, hl, hr⟩ := h.up y hy'
      refine ⟨g, List.mem_cons_of_mem _ hg, ?_, hr⟩
      rw [hmet y (h.met_of hy'), hmet g (h.met_of (h.gray g hg))]; exact hl
  · intro x hx
    rcases List.mem_cons.1 hx with e | hx'
    · subst e
      have hba : (enterT s x).back x = s.clock + 1 := upd_same _ _ _
      exact ⟨by rw [hba, hma]; exact Nat.le_refl _, x, List.mem_cons_self .., by rw [hba, hma], .refl _⟩
    · obtain ⟨hl, y, hy, e, hr⟩ := h.low x hx'
      have hbx : (enterT s a).back x = s.back x := upd_other _ _ (hne x (h.met_of hx'))
      rw [hbx, hmet x (h.met_of hx')]
      exact ⟨hl, y, List.mem_cons_of_mem _ hy, by rw [hmet y (h.met_of hy)]; exact e, hr⟩
  · show upd (upd s.back a (s.clock+1)) a (s.clock + 1) b = upd s.back a (s.clock+1) b
    unfold upd; split <;> rfl

theorem Mid.met_a {C : List Nat} {s t : TS} {a : Nat} {j new : List Nat} (h : Mid G C s a j t new) : t.met a = s.clock + 1 := by
  have := h.sub.met a (by rw [show (enterT s a).met a = s.clock + 1 from upd_same _ _ _]; omega)
  exact this.trans (upd_same _ _ _)
theorem Mid.aside {C : List Nat} {s t : TS} {a : Nat} {j new : List Nat} (h : Mid G C s a j t new) : t.aside = new ++ a :: s.aside := h.sub.aside
theorem Mid.not_new {C : List Nat} {s t : TS} {a : Nat} {j new : List Nat} (h : Mid G C s a j t new) : a ∉ new := fun k => by
  have := h.sub.fresh a k
  rw [show (enterT s a).met a = s.clock + 1 from upd_same _ _ _] at this; omega
theorem enter_met {C : List Nat} {s : TS} {a : Nat} (h : Wf G C s) {x : Nat} (hm : s.met a = 0) (hx : 0 < s.met x) : (enterT s a).met x = s.met x := upd_other _ _ (fun e => by subst e; omega)

theorem see_back (t : TS) (a b : Nat) : (seeT t a b).back a ≤ t.back a := by
  unfold seeT; split
  · show upd _ _ _ a ≤ _; rw [upd_same]; exact Nat.min_le_left _ _
  · exact Nat.le_refl _
theorem see_back2 (t : TS) (a b : Nat) (h : t.part b < 0) : (seeT t a b).back a ≤ t.back b := by
  unfold seeT; rw [if_pos h]
  show upd _ _ _ a ≤ _; rw [upd_same]; exact Nat.min_le_right _ _
theorem see_other (t : TS) (a b : Nat) {x : Nat} (h : x ≠ a) : (seeT t a b).back x = t.back x := by
  unfold seeT; split
  · exact upd_other _ _ h
  · rfl
theorem see_met (t : TS) (a b : Nat) : (seeT t a b).met = t.met := by unfold seeT; split <;> rfl
theorem see_part (t : TS) (a b : Nat) : (seeT t a b).part = t.part := by unfold seeT; split <;> rfl
theorem see_aside (t : TS) (a b : Nat) : (seeT t a b).aside = t.aside := by unfold seeT; split <;> rfl
theorem see_parts (t : TS) (a b : Nat) : (seeT t a b).parts = t.parts := by unfold seeT; split <;> rfl
theorem see_clock (t : TS) (a b : Nat) : (seeT t a b).clock = t.clock := by unfold seeT; split <;> rfl

theorem see_wf {C : List Nat} {t : TS} {a b : Nat} (h : Wf G C t) (ha : a ∈ t.aside) (hb : b ∈ row G a) (hm : 0 < t.met b) : Wf G C (seeT t a b) := by
  refine ⟨?_, ?_, ?_, ?_, ?_, ?_, ?_, ?_, ?_, ?_, ?_, ?_, ?_, ?_, ?_, ?_⟩
  all_goals simp only [see_met, see_part, see_aside, see_parts, see_clock]
  · exact h.clock
  · exact h.lt
  · exact h.sorted
  · exact h.on
  · exact h.neg
  · exact h.white
  · exact h.gray
  · exact h.nwb
  · exact h.down
  · exact h.up
  · intro x hx
    by_cases e : x = a
    · subst e
      obtain ⟨hl, y, hy, hyb, hr⟩ := h.low x hx
      unfold seeT
      split
      · rename_i hp
        show upd t.back x (min (t.back x) (t.back b)) x ≤ _ ∧ ∃ y ∈ t.aside, t.met y = upd t.back x (min (t.back x) (t.back b)) x ∧ _
        rw [upd_same]
        refine ⟨Nat.le_trans (Nat.min_le_left _ _) hl, ?_⟩
        by_cases k : t.back x ≤ t.back b
        · rw [Nat.min_eq_left k]; exact ⟨y, hy, hyb, hr⟩
        · rw [Nat.min_eq_right (by omega)]
          obtain ⟨_, z, hz, hzb, hzr⟩ := h.low b ((h.on b).2 ⟨hm, hp⟩)
          exact ⟨z, hz, hzb, .step hb hzr⟩
      · exact ⟨hl, y, hy, hyb, hr⟩
    · rw [see_other t a b e]; exact h.low x hx
  · exact h.closed
  · exact h.scc
  · exact h.most
  · exact h.rows
  · exact h.some

theorem mid_step {C : List Nat} {s t t' : TS} {a b : Nat} {j new new' : List Nat} (h : Mid G C s a j t new) (hs : Wf G C s) (hm : s.met a = 0) (hb : b ∈ row G a) (hp : Post G (a :: C) t b t' new') : Mid G C s a (j ++ [b]) (seeT t' a b) (new' ++ new) := by
  have hma : t.met a = s.clock + 1 := h.met_a
  have hat : a ∈ t.aside := by rw [h.aside]; simp
  have hat' : a ∈ t'.aside := by rw [hp.sub.aside]; exact List.mem_append_right _ hat
  have hsub : ∀ y ∈ s.aside, y ∈ t.aside := fun y hy => by rw [h.aside]; simp [hy]
  have hsub' : ∀ y ∈ s.aside, y ∈ t'.aside := fun y hy => by rw [hp.sub.aside]; exact List.mem_append_right _ (hsub y hy)
  have hba : (seeT t' a b).back a ≤ t.back a := by
    have := see_back t' a b
    rw [hp.sub.back a (by omega)] at this; exact this
  have hold : ∀ x, 0 < (enterT s a).met x → t'.met x = (enterT s a).met x := fun x hx => by
    have e1 : t.met x = (enterT s a).met x := h.sub.met x hx
    rw [hp.sub.met x (by omega), e1]
  refine ⟨see_wf hp.wf hat' hb hp.done, ⟨fun x hx => ?_, fun x hx => ?_, fun x hx => ?_, ?_, fun x hx => ?_, ?_⟩, fun x hx => ?_, fun x hx y hy hys => ?_, fun y hy hys => ?_⟩
  · show (seeT t' a b).met x = _; rw [see_met]; exact hold x hx
  · by_cases e : x = a
    · subst e; exact (upd_same _ _ _).trans (upd_same _ _ _).symm
    · show upd _ _ _ x = _
      rw [upd_other _ _ e, see_other _ _ _ e]
      have e1 : t.met x = (enterT s a).met x := h.sub.met x hx
      rw [hp.sub.back x (by omega)]
      have := h.sub.back x hx
      rw [show ({ t with back := upd t.back a (s.clock + 1) } : TS).back x = t.back x from upd_other _ _ e] at this
      exact this
  · show (seeT t' a b).part x = _
    have e1 : t.met x = (enterT s a).met x := h.sub.met x hx
    rw [see_part, hp.sub.part x (by omega)]; exact h.sub.part x hx
  · show (seeT t' a b).aside = _
    rw [see_aside, hp.sub.aside, h.aside]; simp [enterT]
  · rcases List.mem_append.1 hx with k | k
    · have := hp.sub.fresh x k
      rcases Nat.eq_zero_or_pos ((enterT s a).met x) with e | e
      · exact e
      · have e1 : t.met x = (enterT s a).met x := h.sub.met x e
        omega
    · exact h.sub.fresh x k
  · show _ ≤ (seeT t' a b).clock
    rw [see_clock]; exact Nat.le_trans h.sub.clock hp.sub.clock
  · rw [see_met]
    rcases List.mem_append.1 hx with k | k
    · have := h.seen x k; rw [hp.sub.met x this]; exact this
    · rw [List.mem_singleton.1 k]; exact hp.done
  · rw [see_met]
    rcases List.mem_append.1 hx with k | k
    · obtain ⟨k1, k2⟩ := hp.over x k y hy (hsub y hys)
      exact Nat.le_trans (see_back2 _ _ _ k1) k2
    · have := h.over x k y hy hys
      rw [hp.sub.met y (h.wf.met_of (hsub y hys))]; omega
  · rw [see_met]
    rcases List.mem_append.1 hy with k | k
    · have := h.own y k hys
      rw [hp.sub.met y (h.wf.met_of (hsub y hys))]; omega
    · rw [List.mem_singleton.1 k] at hys ⊢
      exact Nat.le_trans (see_back2 _ _ _ (hp.wf.part_of (hsub' b hys))) (hp.wf.low b (hsub' b hys)).1

theorem takeWhile_ne {l m : List Nat} {a : Nat} (h : a ∉ l) : (l ++ a :: m).takeWhile (fun x => x != a) = l := by
  induction l with
  | nil => simp
  | cons x l ih =>
    have hx : x ≠ a := fun e => h (by simp [e])
    rw [List.cons_append, List.takeWhile_cons_of_pos (by simpa using hx), ih (fun k => h (List.mem_cons_of_mem _ k))]
theorem dropWhile_ne {l m : List Nat} {a : Nat} (h : a ∉ l) : (l ++ a :: m).dropWhile (fun x => x != a) = a :: m := by
  induction l with
  | nil => simp
  | cons x l ih =>
    have hx : x ≠ a := fun e => h (by simp [e])
    rw [List.cons_append, List.dropWhile_cons_of_pos (by simpa using hx), ih (fun k => h (List.mem_cons_of_mem _ k))]

theorem leave_post {C : List Nat} {s t : TS} {a : Nat} {new : List Nat} (hs : Wf G C s) (hm : s.met a = 0) (ha : a < G.length) (h : Mid G C s a (row G a) t new) (hC : ∀ g ∈ C, Reach G g a) : ∃ new', Post G C s a (leaveT G.length t a) new' := by
  have hma : t.met a = s.clock + 1 := h.met_a
  have has := h.aside
  have hnn := h.not_new
  have hold : ∀ x, 0 < s.met x → t.met x = s.met x := fun x hx => by
    have e := enter_met hs hm hx
    have := h.sub.met x (by omega)
    exact this.trans e
  have hsa : ∀ y ∈ s.aside, t.met y < t.met a := fun y hy => by
    have := hs.met_of hy
    rw [hold y this, hma]; have := hs.clock y; omega
  have hoback : ∀ x, 0 < s.met x → t.back x = s.back x := fun x hx => by
    have e := enter_met hs hm hx
    have hne : x ≠ a := fun e => by subst e; omega
    have := h.sub.back x (by omega)
    rw [show ({ t with back := upd t.back a (s.clock + 1) } : TS).back x = t.back x from upd_other _ _ hne] at this
    rw [this]; exact upd_other _ _ hne
  have hopart : ∀ x, 0 < s.met x → t.part x = s.part x := fun x hx => by
    have e := enter_met hs hm hx
    exact h.sub.part x (by omega)
  have hfresh : ∀ x ∈ new ++ [a], s.met x = 0 := fun x hx => by
    rcases List.mem_append.1 hx with k | k
    · have := h.sub.fresh x k
      rcases Nat.eq_zero_or_pos (s.met x) with e | e
      · exact e
      · have := enter_met hs hm e; omega
    · rw [List.mem_singleton.1 k]; exact hm
  have hclk : s.clock ≤ t.clock := Nat.le_trans (Nat.le_succ _) h.sub.clock
  have hnw : ∀ x, 0 < t.met x → x ∉ C → ∀ b ∈ row G x, 0 < t.met b := fun x hx hxC b hb => by
    by_cases e : x = a
    · subst e; exact h.seen b hb
    · exact h.wf.nwb x hx (fun k => (List.mem_cons.1 k).elim e hxC) b hb
  have hgray : ∀ g ∈ C, g ∈ s.aside := hs.gray
  by_cases hlt : t.back a < t.met a
  · refine ⟨new ++ [a], ?_⟩
    have hE : leaveT G.length t a = t := by unfold leaveT; rw [if_pos hlt]
    rw [hE]
    refine ⟨⟨h.wf.clock, h.wf.lt, h.wf.sorted, h.wf.on, h.wf.neg, h.wf.white, fun g hg => h.wf.gray g (List.mem_cons_of_mem _ hg), hnw, h.wf.down, ?_, h.wf.low, h.wf.closed, h.wf.scc, h.wf.most, h.wf.rows, h.wf.some⟩, ⟨hold, hoback, hopart, by rw [has]; simp, hfresh, hclk⟩, by omega, ?_⟩
    · intro y hy
      obtain ⟨g, hg, hl, hr⟩ := h.wf.up y hy
      rcases List.mem_cons.1 hg with e | k
      · subst e
        obtain ⟨_, z, hz, hzb, hzr⟩ := h.wf.low g (by rw [has]; simp)
        obtain ⟨g', hg', hl', hr'⟩ := h.wf.up z hz
        rcases List.mem_cons.1 hg' with e | k
        · subst e; omega
        · exact ⟨g', k, by omega, (hr.trans hzr).trans hr'⟩
      · exact ⟨g, k, hl, hr⟩
    · intro x hx y hy hys
      refine ⟨h.wf.part_of (by rw [has]; simp), ?_⟩
      rcases List.mem_append.1 hx with k | k
      · exact h.over x k y hy hys
      · rw [List.mem_singleton.1 k] at hy; exact h.own y hy hys
  · refine ⟨[], ?_⟩
    have htop : topT t.aside a = new ++ [a] := by unfold topT; rw [has, takeWhile_ne hnn]
    have hdrop : dropT t.aside a = s.aside := by unfold dropT; rw [has, dropWhile_ne hnn]; rfl
    have hE : leaveT G.length t a = { t with aside := s.aside, part := fun i => if i ∈ new ++ [a] then (t.parts.length : Int) else t.part i, parts := t.parts ++ [(List.range G.length).filter (fun i => decide (i ∈ new ++ [a]))] } := by
      unfold leaveT; rw [if_neg hlt, htop, hdrop]
    rw [hE]
    have hD : ∀ x ∈ new ++ [a], x ∈ t.aside := fun x hx => by
      rw [has]; rcases List.mem_append.1 hx with k | k
      · simp [k]
      · rw [List.mem_singleton.1 k]; simp
    have hDs : ∀ x ∈ new ++ [a], x ∉ s.aside := fun x hx k => by have := hs.met_of k; have := hfresh x hx; omega
    have hDp : ∀ x ∈ new ++ [a], t.part x < 0 := fun x hx => h.wf.part_of (hD x hx)
    have hsp : ∀ y ∈ t.aside, y ∉ new ++ [a] → y ∈ s.aside := fun y hy k => by
      rw [has] at hy
      rcases List.mem_append.1 hy with k' | k'
      · exact absurd (List.mem_append_left _ k') k
      · rcases List.mem_cons.1 k' with e | k''
        · exact absurd (by simp [e]) k
        · exact k''
    -- the part is left along no edge but to what is parted
    have hcl : ∀ x ∈ new ++ [a], ∀ y ∈ row G x, y ∈ new ++ [a] ∨ 0 ≤ t.part y := fun x hx y hy => by
      have hxC : x ∉ C := fun k => hDs x hx (hgray x k)
      have hmy := hnw x (h.wf.met_of (hD x hx)) hxC y hy
      rcases Int.lt_or_le (t.part y) 0 with k | k
      · have hyt := (h.wf.on y).2 ⟨hmy, k⟩
        by_cases hyD : y ∈ new ++ [a]
        · exact .inl hyD
        · have hys := hsp y hyt hyD
          have h1 := hsa y hys
          have h2 : t.back a ≤ t.met y := by
            rcases List.mem_append.1 hx with k | k
            · exact h.over x k y hy hys
            · rw [List.mem_singleton.1 k] at hy; exact h.own y hy hys
          omega
      · exact .inr k
    have hrD : ∀ x ∈ new ++ [a], ∀ z, Reach G x z → z ∈ new ++ [a] ∨ 0 ≤ t.part z := fun x hx z hr => by
      refine hr.inv (P := fun z => z ∈ new ++ [a] ∨ 0 ≤ t.part z) (.inl hx) (fun x hx y hy => ?_)
      rcases hx with k | k
      · exact hcl x k y hy
      · exact .inr (h.wf.closed x k y hy).1
    have hge : ∀ x ∈ new ++ [a], t.met a ≤ t.met x := fun x hx => by
      have hp := h.wf.sorted
      rw [has] at hp
      rcases List.mem_append.1 hx with k | k
      · exact Nat.le_of_lt ((List.pairwise_append.1 hp).2.2 x k a (List.mem_cons_self ..))
      · rw [List.mem_singleton.1 k]; exact Nat.le_refl _
    have hto : ∀ x ∈ new ++ [a], Reach G x a := fun x hx => by
      obtain ⟨g, hg, _, hr⟩ := h.wf.up x (hD x hx)
      rcases List.mem_cons.1 hg with e | k
      · subst e; exact hr
      · have hgs := hgray g k
        rcases hrD x hx g hr with k' | k'
        · exact absurd hgs (hDs g k')
        · have := h.wf.part_of (h.wf.gray g hg); omega
    have hfrom : ∀ x ∈ new ++ [a], Reach G a x := fun x hx => h.wf.down a (hD a (by simp)) x (hD x hx) (hge x hx)
    have hpos : ∀ i, 0 ≤ (if i ∈ new ++ [a] then (t.parts.length : Int) else t.part i) ↔ i ∈ new ++ [a] ∨ 0 ≤ t.part i := fun i => by
      split
      · rename_i k; simp only [k, true_or, iff_true]; omega
      · rename_i k; simp only [k, false_or]
    refine ⟨⟨h.wf.clock, h.wf.lt, hs.sorted.imp_of_mem (fun {x y} hx hy k => ?_), ?_, ?_, ?_, hgray, hnw, ?_, ?_, ?_, ?_, ?_, ?_, ?_, ?_⟩, ⟨hold, hoback, ?_, rfl, fun b hb => (by cases hb), hclk⟩, by show 0 < t.met a; omega, fun x hx => (by cases hx)⟩
    · show t.met y < t.met x
      rw [hold y (hs.met_of hy), hold x (hs.met_of hx)]; exact k
    · intro x
      show x ∈ s.aside ↔ 0 < t.met x ∧ (if x ∈ new ++ [a] then (t.parts.length : Int) else t.part x) < 0
      constructor
      · intro hx
        have hxt : x ∈ t.aside := by rw [has]; simp [hx]
        rw [if_neg (fun k => hDs x k hx)]
        exact ⟨h.wf.met_of hxt, h.wf.part_of hxt⟩
      · rintro ⟨k1, k2⟩
        split at k2
        · omega
        · rename_i k; exact hsp x ((h.wf.on x).2 ⟨k1, k2⟩) k
    · intro x hx
      replace hx : (if x ∈ new ++ [a] then (t.parts.length : Int) else t.part x) < 0 := hx
      show (if x ∈ new ++ [a] then (t.parts.length : Int) else t.part x) = -1
      split at hx
      · omega
      · rename_i k; rw [if_neg k]; exact h.wf.neg x hx
    · intro x hx
      show (if x ∈ new ++ [a] then (t.parts.length : Int) else t.part x) = -1
      rw [if_neg (fun k => by have := h.wf.met_of (hD x k); replace hx : t.met x = 0 := hx; omega)]
      exact h.wf.white x hx
    · intro x hx y hy k
      exact h.wf.down x (by rw [has]; exact List.mem_append_right _ (List.mem_cons_of_mem _ hx)) y (by rw [has]; exact List.mem_append_right _ (List.mem_cons_of_mem _ hy)) k
    · intro y hy
      have hyt : y ∈ t.aside := by rw [has]; exact List.mem_append_right _ (List.mem_cons_of_mem _ hy)
      obtain ⟨g, hg, hl, hr⟩ := h.wf.up y hyt
      rcases List.mem_cons.1 hg with e | k
      · subst e; have := hsa y hy; omega
      · exact ⟨g, k, hl, hr⟩
    · intro x hx
      have hxt : x ∈ t.aside := by rw [has]; exact List.mem_append_right _ (List.mem_cons_of_mem _ hx)
      obtain ⟨hl, y, hy, e, hr⟩ := h.wf.low x hxt
      refine ⟨hl, y, hsp y hy (fun k => ?_), e, hr⟩
      have := hge y k; have := hsa x hx; omega
    · intro x hx y hy
      replace hx := (hpos x).1 hx
      show 0 ≤ (if y ∈ new ++ [a] then (t.parts.length : Int) else t.part y) ∧ (if y ∈ new ++ [a] then (t.parts.length : Int) else t.part y) ≤ (if x ∈ new ++ [a] then (t.parts.length : Int) else t.part x)
      by_cases k : x ∈ new ++ [a]
      · refine ⟨(hpos y).2 (hcl x k y hy), ?_⟩
        rw [if_pos k]
        split
        · exact Int.le_refl _
        · exact Int.le_of_lt (h.wf.most y)
      · have hx' := hx.resolve_left k
        obtain ⟨k1, k2⟩ := h.wf.closed x hx' y hy
        have hyD : y ∉ new ++ [a] := fun k => by have := hDp y k; omega
        rw [if_neg hyD, if_neg k]; exact ⟨k1, k2⟩
    · intro x b hx
      replace hx := (hpos x).1 hx
      show (if b ∈ new ++ [a] then (t.parts.length : Int) else t.part b) = (if x ∈ new ++ [a] then (t.parts.length : Int) else t.part x) ↔ _
      by_cases k : x ∈ new ++ [a]
      · rw [if_pos k]
        constructor
        · intro e
          have hb : b ∈ new ++ [a] := by
            by_cases kb : b ∈ new ++ [a]
            · exact kb
            · rw [if_neg kb] at e; have := h.wf.most b; omega
          exact ⟨(hto x k).trans (hfrom b hb), (hto b hb).trans (hfrom x k)⟩
        · rintro ⟨r1, r2⟩
          rcases hrD x k b r1 with kb | kb
          · rw [if_pos kb]
          · have := h.wf.reach kb r2; have := hDp x k; omega
      · have hx' := hx.resolve_left k
        rw [if_neg k]
        by_cases kb : b ∈ new ++ [a]
        · rw [if_pos kb]
          constructor
          · intro e; have := h.wf.most x; omega
          · rintro ⟨r1, _⟩; have := h.wf.reach hx' r1; have := hDp b kb; omega
        · rw [if_neg kb]; exact h.wf.scc x b hx'
    · intro x
      show (if x ∈ new ++ [a] then (t.parts.length : Int) else t.part x) < ((t.parts ++ [_]).length : Nat)
      rw [List.length_append, List.length_singleton]
      have := h.wf.most x
      split <;> omega
    · intro p hp
      replace hp : p < (t.parts ++ [(List.range G.length).filter (fun i => decide (i ∈ new ++ [a]))]).length := hp
      show (t.parts ++ [(List.range G.length).filter (fun i => decide (i ∈ new ++ [a]))])[p] = (List.range G.length).filter (fun i => decide ((if i ∈ new ++ [a] then (t.parts.length : Int) else t.part i) = p))
      rw [List.length_append, List.length_singleton] at hp
      by_cases e : p < t.parts.length
      · rw [List.getElem_append_left e, h.wf.rows p e]
        apply List.filter_congr
        intro i _
        by_cases k : i ∈ new ++ [a]
        · rw [if_pos k]; have := hDp i k
          rw [decide_eq_false (by omega), decide_eq_false (by omega)]
        · rw [if_neg k]
      · obtain rfl : p = t.parts.length := by omega
        rw [List.getElem_append_right (Nat.le_refl _)]
        simp only [Nat.sub_self, List.getElem_cons_zero]
        apply List.filter_congr
        intro i _
        by_cases k : i ∈ new ++ [a]
        · rw [if_pos k, decide_eq_true k, decide_eq_true rfl]
        · rw [if_neg k, decide_eq_false k, decide_eq_false (by have := h.wf.most i; omega)]
    · intro p hp
      replace hp : p < (t.parts ++ [(List.range G.length).filter (fun i => decide (i ∈ new ++ [a]))]).length := hp
      rw [List.length_append, List.length_singleton] at hp
      show ∃ x, (if x ∈ new ++ [a] then (t.parts.length : Int) else t.part x) = p
      by_cases e : p < t.parts.length
      · obtain ⟨x, hx⟩ := h.wf.some p e
        exact ⟨x, by rw [if_neg (fun k => by have := hDp x k; omega)]; exact hx⟩
      · exact ⟨a, by rw [if_pos (by simp)]; omega⟩
    · intro b hb
      show (if b ∈ new ++ [a] then (t.parts.length : Int) else t.part b) = _
      rw [if_neg (fun k => by have := hfresh b k; omega)]; exact hopart b hb

/-- How many were not met. -/
def unmet (n : Nat) (s : TS) : Nat := (List.range n).countP (fun i => decide (s.met i = 0))
theorem countP_le_of {p q : Nat → Bool} {l : List Nat} (h : ∀ x ∈ l, p x = true → q x = true) : l.countP p ≤ l.countP q := by
  induction l with
  | nil => simp
  | cons x l ih =>
    have h1 := ih (fun y hy => h y (List.mem_cons_of_mem _ hy))
    have h2 := h x (List.mem_cons_self ..)
    rw [List.countP_cons, List.countP_cons]
    split <;> split <;> first | omega | (rename_i a b; exact absurd (h2 a) b)
theorem countP_lt_of {p q : Nat → Bool} {l : List Nat} (h : ∀ x ∈ l, p x = true → q x = true) {a : Nat} (ha : a ∈ l) (hp : p a = false) (hq : q a = true) : l.countP p < l.countP q := by
  induction l with
  | nil => cases ha
  | cons x l ih =>
    have h1 := countP_le_of (p := p) (q := q) (l := l) (fun y hy => h y (List.mem_cons_of_mem _ hy))
    have h2 := h x (List.mem_cons_self ..)
    rw [List.countP_cons, List.countP_cons]
    rcases List.mem_cons.1 ha with e | k
    · subst e; rw [hp, hq]; simp; omega
    · have := ih (fun y hy => h y (List.mem_cons_of_mem _ hy)) k
      split <;> split <;> first | omega | (rename_i a b; exact absurd (h2 a) b)
theorem unmet_sub {n : Nat} {s t : TS} (h : ∀ b, 0 < s.met b → 0 < t.met b) : unmet n t ≤ unmet n s := by
  refine countP_le_of (fun x _ k => ?_)
  rw [decide_eq_true_eq] at k ⊢
  rcases Nat.eq_zero_or_pos (s.met x) with e | e
  · exact e
  · have := h x e; omega
theorem unmet_enter {n : Nat} {s : TS} {a : Nat} (ha : a < n) (hm : s.met a = 0) : unmet n (enterT s a) < unmet n s := by
  refine countP_lt_of (a := a) (fun x _ k => ?_) (List.mem_range.2 ha) (decide_eq_false ?_) (decide_eq_true hm)
  · rw [decide_eq_true_eq] at k ⊢
    by_cases e : x = a
    · rw [e]; exact hm
    · rw [show (enterT s a).met x = s.met x from upd_other _ _ e] at k; exact k
  · rw [show (enterT s a).met a = s.clock + 1 from upd_same _ _ _]; omega

/-- So many edges of one gone through. -/
def midT (G : List (List Nat)) (k : Nat) (s : TS) (a j : Nat) : TS := ((row G a).take j).foldl (fun t b => seeT (visitT G k t b) a b) (enterT s a)
theorem midT_zero (G : List (List Nat)) (k : Nat) (s : TS) (a : Nat) : midT G k s a 0 = enterT s a := rfl
theorem midT_succ (G : List (List Nat)) (k : Nat) (s : TS) (a j : Nat) (hj : j < (row G a).length) : midT G k s a (j + 1) = seeT (visitT G k (midT G k s a j) (row G a)[j]) a (row G a)[j] := by
  unfold midT; rw [List.take_succ_eq_append_getElem hj, List.foldl_append]; rfl
theorem midT_all (G : List (List Nat)) (k : Nat) (s : TS) (a : Nat) : midT G k s a (row G a).length = (row G a).foldl (fun t b => seeT (visitT G k t b) a b) (enterT s a) := by unfold midT; rw [List.take_length]
theorem visitT_succ (G : List (List Nat)) (k : Nat) (s : TS) (a : Nat) (h : s.met a = 0) : visitT G (k + 1) s a = leaveT G.length (midT G k s a (row G a).length) a := by rw [midT_all]; exact if_neg (by omega)
theorem visitT_met (G : List (List Nat)) (k : Nat) (s : TS) (a : Nat) (h : 0 < s.met a) : visitT G k s a = s := by
  cases k
  · rfl
  · exact if_pos h

/-- What a visit wants. -/
structure Pre (G : List (List Nat)) (C : List Nat) (s : TS) (a k : Nat) : Prop where
  wf : Wf G C s
  lt : a < G.length
  gray : ∀ g ∈ C, Reach G g a
  fuel : unmet G.length s ≤ k
theorem Pre.next {C : List Nat} {s t : TS} {a k : Nat} {j new : List Nat} (hG : RG G) (h : Pre G C s a (k + 1)) (hm : s.met a = 0) (hM : Mid G C s a j t new) {b : Nat} (hb : b ∈ row G a) : Pre G (a :: C) t b k := by
  refine ⟨hM.wf, hG.lt a b hb, fun g hg => ?_, ?_⟩
  · rcases List.mem_cons.1 hg with e | k
    · subst e; exact .one hb
    · exact (h.gray g k).trans (.one hb)
  · have h1 := unmet_enter h.lt hm
    have h2 := unmet_sub (n := G.length) (s := enterT s a) (t := t) (fun b hb => by have : t.met b = _ := hM.sub.met b hb; omega)
    have := h.fuel
    omega
theorem Pre.pos {C : List Nat} {s : TS} {a k : Nat} (h : Pre G C s a k) (hm : s.met a = 0) : 0 < k := by
  have := unmet_enter h.lt hm
  have := h.fuel
  omega
theorem mid_of (hG : RG G) (k : Nat) (ih : ∀ C s a, Pre G C s a k → ∃ new, Post G C s a (visitT G k s a) new) {C : List Nat} {s : TS} {a : Nat} (h : Pre G C s a (k + 1)) (hm : s.met a = 0) (j : Nat) (hj : j ≤ (row G a).length) : ∃ new, Mid G C s a ((row G a).take j) (midT G k s a j) new := by
  induction j with
  | zero => exact ⟨[], enter_mid h.wf hm h.lt h.gray⟩
  | succ j ihj =>
    obtain ⟨new, hM⟩ := ihj (by omega)
    have hjl : j < (row G a).length := by omega
    obtain ⟨new', hP⟩ := ih (a :: C) _ _ (h.next hG hm hM (List.getElem_mem hjl))
    rw [midT_succ G k s a j hjl, List.take_succ_eq_append_getElem hjl]
    exact ⟨_, mid_step hM h.wf hm (List.getElem_mem hjl) hP⟩
theorem visit_post (hG : RG G) (k : Nat) : ∀ C s a, Pre G C s a k → ∃ new, Post G C s a (visitT G k s a) new := by
  induction k with
  | zero =>
    intro C s a h
    rcases Nat.eq_zero_or_pos (s.met a) with e | e
    · have := h.pos e; omega
    · exact ⟨[], h.wf, ⟨fun _ _ => rfl, fun _ _ => rfl, fun _ _ => rfl, rfl, fun b hb => (by cases hb), Nat.le_refl _⟩, e, fun x hx => (by cases hx)⟩
  | succ k ih =>
    intro C s a h
    rcases Nat.eq_zero_or_pos (s.met a) with e | e
    · rw [visitT_succ G k s a e]
      obtain ⟨new, hM⟩ := mid_of hG k ih h e (row G a).length (Nat.le_refl _)
      rw [List.take_length] at hM
      exact leave_post h.wf e h.lt hM h.gray
    · rw [visitT_met G _ s a e]
      exact ⟨[], h.wf, ⟨fun _ _ => rfl, fun _ _ => rfl, fun _ _ => rfl, rfl, fun b hb => (by cases hb), Nat.le_refl _⟩, e, fun x hx => (by cases hx)⟩
/-- Within a visit: the search so far, and what the next visit wants. -/
theorem mid_any (hG : RG G) {k : Nat} {C : List Nat} {s : TS} {a : Nat} (h : Pre G C s a (k + 1)) (hm : s.met a = 0) (j : Nat) (hj : j ≤ (row G a).length) : ∃ new, Mid G C s a ((row G a).take j) (midT G k s a j) new := mid_of hG k (visit_post hG k) h hm j hj

/-- The search of a graph: so many numbers visited. -/
def startT : TS := ⟨fun _ => 0, fun _ => 0, fun _ => -1, [], [], 0⟩
def searchT (G : List (List Nat)) (j : Nat) : TS := (List.range j).foldl (fun s a => visitT G G.length s a) startT
theorem searchT_succ (G : List (List Nat)) (j : Nat) : searchT G (j + 1) = visitT G G.length (searchT G j) j := by
  unfold searchT; rw [List.range_succ, List.foldl_append]; rfl
theorem start_wf (G : List (List Nat)) : Wf G [] startT :=
  ⟨fun _ => Nat.le_refl _, fun a h => absurd h (Nat.lt_irrefl _), .nil, fun a => ⟨fun h => (by cases h), fun h => absurd h.1 (Nat.lt_irrefl _)⟩, fun _ _ => rfl, fun _ _ => rfl, fun g h => (by cases h), fun a h => absurd h (Nat.lt_irrefl _), fun x h => (by cases h), fun x h => (by cases h), fun x h => (by cases h), fun a h => by replace h : (0:Int) ≤ -1 := h; omega, fun a b h => by replace h : (0:Int) ≤ -1 := h; omega, fun a => by show (-1:Int) < 0; omega, fun p h => absurd h (Nat.not_lt_zero _), fun p h => absurd h (Nat.not_lt_zero _)⟩
theorem unmet_le (n : Nat) (s : TS) : unmet n s ≤ n := by
  have := List.countP_le_length (p := fun i => decide (s.met i = 0)) (l := List.range n)
  rw [List.length_range] at this; exact this
theorem search_wf (hG : RG G) (j : Nat) (hj : j ≤ G.length) : Wf G [] (searchT G j) ∧ ∀ i, i < j → 0 < (searchT G j).met i := by
  induction j with
  | zero => exact ⟨start_wf G, fun i h => absurd h (Nat.not_lt_zero _)⟩
  | succ j ih =>
    obtain ⟨h1, h2⟩ := ih (by omega)
    obtain ⟨new, hP⟩ := visit_post hG G.length [] (searchT G j) j ⟨h1, by omega, fun g h => (by cases h), unmet_le _ _⟩
    rw [searchT_succ]
    refine ⟨hP.wf, fun i hi => ?_⟩
    by_cases e : i = j
    · subst e; exact hP.done
    · have := h2 i (by omega); rw [hP.sub.met i this]; exact this
theorem search_pre (hG : RG G) (j : Nat) (hj : j < G.length) : Pre G [] (searchT G j) j G.length :=
  ⟨(search_wf hG j (by omega)).1, hj, fun g h => (by cases h), unmet_le _ _⟩

/-- A graph in parts: what a search leaves. -/
structure Parted (G : List (List Nat)) (part : Nat → Int) (parts : List (List Nat)) : Prop where
  pos : ∀ a, a < G.length → 0 ≤ part a
  lt : ∀ a, 0 ≤ part a → a < G.length
  most : ∀ a, part a < parts.length
  down : ∀ a, a < G.length → ∀ b ∈ row G a, part b ≤ part a
  scc : ∀ a b, a < G.length → (part b = part a ↔ Reach G a b ∧ Reach G b a)
  rows : ∀ p, (h : p < parts.length) → parts[p] = (List.range G.length).filter (fun i => decide (part i = p))
  some : ∀ p, p < parts.length → ∃ a, a < G.length ∧ part a = p
theorem search_parted (hG : RG G) : Parted G (searchT G G.length).part (searchT G G.length).parts ∧ (searchT G G.length).aside = [] := by
  obtain ⟨h, hm⟩ := search_wf hG G.length (Nat.le_refl _)
  have hA : (searchT G G.length).aside = [] := by
    apply List.eq_nil_iff_forall_not_mem.2
    intro x hx
    obtain ⟨g, hg, _⟩ := h.up x hx
    cases hg
  have hpos : ∀ a, a < G.length → 0 ≤ (searchT G G.length).part a := fun a ha => by
    rcases Int.lt_or_le ((searchT G G.length).part a) 0 with k | k
    · have := (h.on a).2 ⟨hm a ha, k⟩; rw [hA] at this; cases this
    · exact k
  have hlt : ∀ a, 0 ≤ (searchT G G.length).part a → a < G.length := fun a ha => by
    refine h.lt a (Nat.pos_of_ne_zero fun e => ?_)
    have := h.white a e; omega
  exact ⟨⟨hpos, hlt, h.most, fun a ha b hb => (h.closed a (hpos a ha) b hb).2, fun a b ha => h.scc a b (hpos a ha), h.rows, fun p hp => by obtain ⟨x, hx⟩ := h.some p hp; exact ⟨x, hlt x (by omega), hx⟩⟩, hA⟩
end
section
variable {G : List (List Nat)}
/-! Who leads on to whom, number by number put between. -/
def wB (G : List (List Nat)) : Nat → Nat → Nat → Bool
  | 0, i, k => k == i || (row G i).contains k
  | m+1, i, k => wB G m i k || (wB G m i m && wB G m m k)
theorem wB_succ (m i k : Nat) : wB G (m + 1) i k = (wB G m i k || (wB G m i m && wB G m m k)) := rfl
theorem wB_mono {m i k : Nat} (h : wB G m i k = true) : wB G (m + 1) i k = true := by rw [wB_succ, h]; rfl
theorem wB_le {m m' i k : Nat} (hm : m ≤ m') (h : wB G m i k = true) : wB G m' i k = true := by
  induction hm with
  | refl => exact h
  | step _ ih => exact wB_mono ih
theorem wB_sound {m i k : Nat} (h : wB G m i k = true) : Reach G i k := by
  induction m generalizing i k with
  | zero =>
    have h' : (k == i || (row G i).contains k) = true := h
    rcases Bool.or_eq_true_iff.1 h' with e | e
    · rw [beq_iff_eq] at e; subst e; exact .refl _
    · exact .one (by simpa using e)
  | succ m ih =>
    rw [wB_succ] at h
    rcases Bool.or_eq_true_iff.1 h with e | e
    · exact ih e
    · rw [Bool.and_eq_true] at e; exact (ih e.1).trans (ih e.2)
theorem wB_in (m i : Nat) : wB G (m + 1) i m = wB G m i m := by rw [wB_succ]; cases wB G m i m <;> simp
theorem wB_out (m k : Nat) : wB G (m + 1) m k = wB G m m k := by rw [wB_succ]; cases wB G m m k <;> simp
theorem wB_trans {m i j k : Nat} (hj : j < m) (h1 : wB G m i j = true) (h2 : wB G m j k = true) : wB G m i k = true := by
  induction m generalizing i j k with
  | zero => omega
  | succ m ih =>
    by_cases e : j = m
    · subst e
      rw [wB_in] at h1; rw [wB_out] at h2
      rw [wB_succ, h1, h2]; simp
    · have hjm : j < m := by omega
      rw [wB_succ] at h1 h2 ⊢
      have e1 : wB G m i m = true ∨ wB G m i j = true := by cases h : wB G m i m <;> simp [h] at h1 ⊢; exact h1
      have e2 : wB G m m k = true ∨ wB G m j k = true := by cases h : wB G m m k <;> simp [h] at h2 ⊢; exact h2
      rcases Bool.or_eq_true_iff.1 h1 with a | a
      · rcases Bool.or_eq_true_iff.1 h2 with b | b
        · rw [ih hjm a b]; rfl
        · rw [Bool.and_eq_true] at b; rw [ih hjm a b.1, b.2]; simp
      · rw [Bool.and_eq_true] at a
        rcases Bool.or_eq_true_iff.1 h2 with b | b
        · rw [ih hjm a.2 b, a.1]; simp
        · rw [Bool.and_eq_true] at b; rw [a.1, b.2]; simp
theorem wB_refl (m i : Nat) : wB G m i i = true := wB_le (Nat.zero_le m) (by show (i == i || _) = true; simp)
theorem wB_iff (hG : RG G) {i k : Nat} : wB G G.length i k = true ↔ Reach G i k := by
  refine ⟨wB_sound, fun h => ?_⟩
  induction h with
  | refl a => exact wB_refl _ _
  | step e _ ih =>
    refine wB_trans (hG.lt _ _ e) (wB_le (Nat.zero_le _) ?_) ih
    show (_ || (row G _).contains _) = true
    simp [e]

/-! A search that puts numbers aside. -/
end
section
variable {G : List (List Nat)}
/-! The order of the parts: round by round, the part of the least number that may be put. -/
def openR (G : List (List Nat)) (put : Nat → Bool) (a : Nat) : Bool := !put a && (List.range G.length).all (fun k => !(wB G G.length a k && !put k && !wB G G.length k a))
def classR (G : List (List Nat)) (a : Nat) : List Nat := (List.range G.length).filter (fun k => wB G G.length a k && wB G G.length k a)
def pickR (G : List (List Nat)) (put : Nat → Bool) : Option Nat := (List.range G.length).find? (openR G put)
def putR (put : Nat → Bool) (l : List Nat) : Nat → Bool := fun k => put k || l.contains k
def roundR (G : List (List Nat)) (s : (Nat → Bool) × List (List Nat)) : (Nat → Bool) × List (List Nat) :=
  match pickR G s.1 with
  | none => s
  | some a => (putR s.1 (classR G a), s.2 ++ [classR G a])
def roundsR (G : List (List Nat)) : Nat → (Nat → Bool) × List (List Nat)
  | 0 => (fun _ => false, [])
  | r+1 => roundR G (roundsR G r)
def partsR (G : List (List Nat)) : List (List Nat) := (roundsR G G.length).2
def placeR : List (List Nat) → Nat → Int
  | [], _ => -1
  | l :: L, a => if l.contains a then 0 else if placeR L a < 0 then -1 else placeR L a + 1
theorem rounds_stop {r : Nat} (h : pickR G (roundsR G r).1 = none) (k : Nat) : roundsR G (r + k) = roundsR G r := by
  induction k with
  | zero => rfl
  | succ k ih =>
    show roundR G (roundsR G (r + k)) = _
    rw [ih]; unfold roundR; rw [h]

/-- The numbers of those parts that were put. -/
def putO (part : Nat → Int) (os : List Nat) (a : Nat) : Bool := os.any (fun p => part a == (p : Int))
theorem putO_iff {part : Nat → Int} {os : List Nat} {a : Nat} : putO part os a = true ↔ ∃ p ∈ os, part a = (p : Int) := by
  unfold putO; rw [List.any_eq_true]; simp only [beq_iff_eq]
/-- What is put leads to nothing that is not. -/
def Shut (G : List (List Nat)) (put : Nat → Bool) : Prop := ∀ a, a < G.length → put a = true → ∀ b, Reach G a b → put b = true
/-- May a part be put next? -/
def ready (G : List (List Nat)) (part : Nat → Int) (os : List Nat) (p : Nat) : Prop := p ∉ os ∧ ∀ a, a < G.length → part a = (p : Int) → ∀ b ∈ row G a, part b ≠ (p : Int) → putO part os b = true

variable {part : Nat → Int} {parts : List (List Nat)}
theorem ready_reach (hG : RG G) {os : List Nat} (hs : Shut G (putO part os)) {p a : Nat} (hr : ready G part os p) (ha : a < G.length) (hp : part a = (p : Int)) {k : Nat} (hk : Reach G a k) : part k = (p : Int) ∨ putO part os k = true := by
  have := hk.inv (P := fun x => x < G.length ∧ (part x = (p : Int) ∨ putO part os x = true)) ⟨ha, .inl hp⟩ (fun x hx y hy => by
    refine ⟨hG.lt x y hy, ?_⟩
    rcases hx.2 with e | e
    · by_cases h : part y = (p : Int)
      · exact .inl h
      · exact .inr (hr.2 x hx.1 e y hy h)
    · exact .inr (hs x hx.1 e y (.one hy)))
  exact this.2
theorem open_iff (hG : RG G) (hP : Parted G part parts) {os : List Nat} (hs : Shut G (putO part os)) {a p : Nat} (ha : a < G.length) (hp : part a = (p : Int)) : openR G (putO part os) a = true ↔ ready G part os p := by
  have hput : putO part os a = true ↔ p ∈ os := by
    rw [putO_iff]
    refine ⟨fun ⟨q, hq, e⟩ => ?_, fun h => ⟨p, h, hp⟩⟩
    obtain rfl : q = p := by omega
    exact hq
  unfold openR
  rw [Bool.and_eq_true, List.all_eq_true]
  simp only [Bool.not_eq_true', List.mem_range, Bool.and_eq_false_iff, Bool.not_eq_false']
  constructor
  · rintro ⟨h1, h2⟩
    refine ⟨fun k => (by rw [hput.2 k] at h1; cases h1), fun x hx hxp b hb hbp => ?_⟩
    have hab : Reach G a x ∧ Reach G x a := (hP.scc a x ha).1 (by rw [hxp, hp])
    have hrb : Reach G a b := hab.1.trans (.one hb)
    rcases h2 b (hG.lt x b hb) with (e | e) | e
    · rw [(wB_iff hG).2 hrb] at e; cases e
    · exact e
    · have := (hP.scc a b ha).2 ⟨hrb, (wB_iff hG).1 e⟩
      rw [hp] at this; exact absurd this hbp
  · intro hr
    refine ⟨?_, fun k hk => ?_⟩
    · cases h : putO part os a
      · rfl
      · exact absurd (hput.1 h) hr.1
    · cases hw : wB G G.length a k
      · exact .inl (.inl rfl)
      · rcases ready_reach hG hs hr ha hp ((wB_iff hG).1 hw) with e | e
        · exact .inr ((wB_iff hG).2 ((hP.scc a k ha).1 (by rw [e, hp])).2)
        · exact .inl (.inr e)
theorem exists_ready (hG : RG G) (hP : Parted G part parts) {os : List Nat} {a : Nat} (ha : a < G.length) (hn : putO part os a = false) : ∃ p, p < parts.length ∧ ready G part os p := by
  have key : ∀ m : Nat, ∀ a, a < G.length → putO part os a = false → part a = (m : Int) → ∃ p, p < parts.length ∧ ready G part os p := by
    intro m
    induction m using Nat.strongRecOn with
    | ind m ih =>
      intro a ha hn hm
      have hml : m < parts.length := by have := hP.most a; omega
      by_cases h : ready G part os m
      · exact ⟨m, hml, h⟩
      · have hmo : m ∉ os := fun k => by rw [putO_iff.2 ⟨m, k, hm⟩] at hn; cases hn
        have : ∃ x, x < G.length ∧ part x = (m : Int) ∧ ∃ b ∈ row G x, part b ≠ (m : Int) ∧ putO part os b = false := by
          apply Classical.byContradiction
          intro hx
          refine h ⟨hmo, fun x hxl hxp b hb hbp => ?_⟩
          cases hc : putO part os b
          · exact absurd ⟨x, hxl, hxp, b, hb, hbp, hc⟩ hx
          · rfl
        obtain ⟨x, hxl, hxp, b, hb, hbp, hbn⟩ := this
        have hbl := hG.lt x b hb
        have h1 := hP.down x hxl b hb
        have h2 := hP.pos b hbl
        exact ih (part b).toNat (by omega) b hbl hbn (by omega)
  exact key (part a).toNat a ha hn (by have := hP.pos a ha; omega)
/-- A part's least number. -/
def headO (parts : List (List Nat)) (p : Nat) : Nat := ((parts.getD p []).head?).getD 0
theorem head_of (hP : Parted G part parts) {p : Nat} (hp : p < parts.length) : headO parts p < G.length ∧ part (headO parts p) = (p : Int) ∧ ∀ a, a < G.length → part a = (p : Int) → headO parts p ≤ a := by
  obtain ⟨a, ha, hpa⟩ := hP.some p hp
  have hr := hP.rows p hp
  have hg : parts.getD p [] = parts[p] := by simp [hp]
  unfold headO
  rw [hg, hr]
  have hmem : a ∈ (List.range G.length).filter (fun i => decide (part i = (p : Int))) := by simp [ha, hpa]
  have hsort : ((List.range G.length).filter (fun i => decide (part i = (p : Int)))).Pairwise (· < ·) := List.Pairwise.filter _ List.pairwise_lt_range
  cases he : (List.range G.length).filter (fun i => decide (part i = (p : Int))) with
  | nil => rw [he] at hmem; cases hmem
  | cons x l =>
    have hx : x ∈ (List.range G.length).filter (fun i => decide (part i = (p : Int))) := by rw [he]; exact List.mem_cons_self ..
    have hx' := List.mem_filter.1 hx
    simp only [List.head?_cons, Option.getD_some]
    refine ⟨List.mem_range.1 hx'.1, by simpa using hx'.2, fun b hb hpb => ?_⟩
    have hbm : b ∈ x :: l := by rw [← he]; simp [hb, hpb]
    rw [he] at hsort
    rcases List.mem_cons.1 hbm with e | k
    · omega
    · exact Nat.le_of_lt ((List.pairwise_cons.1 hsort).1 b k)
/-- The part that is put next: of those that may be, the one with the least number. -/
def Next (G : List (List Nat)) (part : Nat → Int) (parts : List (List Nat)) (os : List Nat) (p : Nat) : Prop := p < parts.length ∧ ready G part os p ∧ ∀ q, q < parts.length → ready G part os q → headO parts p ≤ headO parts q
theorem class_eq (hG : RG G) (hP : Parted G part parts) {a p : Nat} (ha : a < G.length) (hp : part a = (p : Int)) (hpl : p < parts.length) : classR G a = parts[p] := by
  rw [hP.rows p hpl]
  unfold classR
  apply List.filter_congr
  intro k _
  rw [Bool.eq_iff_iff]
  simp only [Bool.and_eq_true, decide_eq_true_eq, wB_iff hG]
  rw [← hP.scc a k ha, hp]
theorem find_least {n : Nat} {q : Nat → Bool} {a : Nat} (ha : a < n) (hq : q a = true) (hl : ∀ b, b < a → q b = false) : (List.range n).find? q = some a := by
  rw [List.find?_range_eq_some]
  exact ⟨hq, List.mem_range.2 ha, fun j hj => by rw [hl j hj]; rfl⟩
theorem next_pick (hG : RG G) (hP : Parted G part parts) {os : List Nat} (hs : Shut G (putO part os)) {p : Nat} (h : Next G part parts os p) : pickR G (putO part os) = some (headO parts p) := by
  obtain ⟨h1, h2, h3⟩ := h
  obtain ⟨k1, k2, k3⟩ := head_of hP h1
  refine find_least k1 ((open_iff hG hP hs k1 k2).2 h2) (fun b hb => ?_)
  cases ho : openR G (putO part os) b
  · rfl
  · have hbl : b < G.length := by omega
    have hb0 := hP.pos b hbl
    have hbm := hP.most b
    have hr := (open_iff hG hP hs hbl (p := (part b).toNat) (by omega)).1 ho
    have := h3 (part b).toNat (by omega) hr
    have := (head_of hP (p := (part b).toNat) (by omega)).2.2 b hbl (by omega)
    omega
theorem next_shut (hG : RG G) (hP : Parted G part parts) {os : List Nat} (hs : Shut G (putO part os)) {p : Nat} (h : ready G part os p) : Shut G (putO part (os ++ [p])) := by
  intro a ha hp b hr
  obtain ⟨q, hq, e⟩ := putO_iff.1 hp
  rw [putO_iff]
  rcases List.mem_append.1 hq with k | k
  · obtain ⟨q', hq', e'⟩ := putO_iff.1 (hs a ha (putO_iff.2 ⟨q, k, e⟩) b hr)
    exact ⟨q', List.mem_append_left _ hq', e'⟩
  · rw [List.mem_singleton.1 k] at e
    rcases ready_reach hG hs h ha e hr with k | k
    · exact ⟨p, by simp, k⟩
    · obtain ⟨q', hq', e'⟩ := putO_iff.1 k
      exact ⟨q', List.mem_append_left _ hq', e'⟩

/-- So many parts put, one behind the other. -/
structure Ord (G : List (List Nat)) (part : Nat → Int) (parts : List (List Nat)) (os : List Nat) : Prop where
  shut : Shut G (putO part os)
  lt : ∀ p ∈ os, p < parts.length
  nodup : os.Nodup
  put : ∀ k, k < G.length → (roundsR G os.length).1 k = putO part os k
  out : (roundsR G os.length).2 = os.map (fun p => parts.getD p [])
  step : ∀ (i : Nat) (hi : i < os.length), Next G part parts (os.take i) os[i]
theorem ord_nil : Ord G part parts [] :=
  ⟨fun a _ h => (by cases h), fun p h => (by cases h), .nil, fun _ _ => rfl, rfl, fun i hi => absurd hi (Nat.not_lt_zero _)⟩
theorem all_congr {l : List Nat} {f g : Nat → Bool} (h : ∀ x ∈ l, f x = g x) : l.all f = l.all g := by
  induction l with
  | nil => rfl
  | cons x l ih => rw [List.all_cons, List.all_cons, h x (List.mem_cons_self ..), ih (fun y hy => h y (List.mem_cons_of_mem _ hy))]
theorem find_congr {l : List Nat} {f g : Nat → Bool} (h : ∀ x ∈ l, f x = g x) : l.find? f = l.find? g := by
  induction l with
  | nil => rfl
  | cons x l ih => rw [List.find?_cons, List.find?_cons, h x (List.mem_cons_self ..), ih (fun y hy => h y (List.mem_cons_of_mem _ hy))]
theorem pick_congr {put put' : Nat → Bool} (h : ∀ k, k < G.length → put k = put' k) : pickR G put = pickR G put' := by
  unfold pickR
  refine find_congr (fun a ha => ?_)
  unfold openR
  rw [h a (List.mem_range.1 ha), all_congr (fun k hk => by rw [h k (List.mem_range.1 hk)])]
theorem ord_next (hG : RG G) (hP : Parted G part parts) {os : List Nat} (h : Ord G part parts os) {p : Nat} (hn : Next G part parts os p) : Ord G part parts (os ++ [p]) := by
  have hpick := (pick_congr h.put).trans (next_pick hG hP h.shut hn)
  obtain ⟨k1, k2, k3⟩ := head_of hP hn.1
  have hcl := class_eq hG hP k1 k2 hn.1
  have hR : roundsR G (os ++ [p]).length = (putR (roundsR G os.length).1 (classR G (headO parts p)), (roundsR G os.length).2 ++ [classR G (headO parts p)]) := by
    rw [List.length_append, List.length_singleton]
    show roundR G (roundsR G os.length) = _
    unfold roundR; rw [hpick]
  refine ⟨next_shut hG hP h.shut hn.2.1, fun q hq => ?_, ?_, fun k hk => ?_, ?_, fun i hi => ?_⟩
  · rcases List.mem_append.1 hq with k | k
    · exact h.lt q k
    · rw [List.mem_singleton.1 k]; exact hn.1
  · rw [List.nodup_append]
    refine ⟨h.nodup, by simp, fun a ha b hb e => ?_⟩
    rw [List.mem_singleton.1 hb] at e; subst e; exact hn.2.1.1 ha
  · rw [hR]
    show putR _ _ k = _
    unfold putR putO
    rw [h.put k hk, List.any_append, hcl]
    congr 1
    rw [hP.rows p hn.1, Bool.eq_iff_iff]
    simp [hk]
  · rw [hR, List.map_append, h.out, hcl]
    simp [hn.1]
  · rw [List.length_append, List.length_singleton] at hi
    by_cases e : i < os.length
    · rw [List.getElem_append_left e, List.take_append_of_le_length (by omega)]; exact h.step i e
    · obtain rfl : i = os.length := by omega
      rw [List.getElem_append_right (Nat.le_refl _), List.take_append_of_le_length (Nat.le_refl _), List.take_length]
      simpa using hn
theorem len_sub {l : List Nat} : ∀ {m : List Nat}, l.Nodup → (∀ x ∈ l, x ∈ m) → l.length ≤ m.length := by
  induction l with
  | nil => intro m _ _; exact Nat.zero_le _
  | cons a l ih =>
    intro m hn h
    obtain ⟨h1, h2⟩ := List.nodup_cons.1 hn
    have ha := h a (List.mem_cons_self ..)
    have := ih (m := m.erase a) h2 (fun x hx => (List.mem_erase_of_ne (fun e => h1 (by rw [← e]; exact hx))).2 (h x (List.mem_cons_of_mem _ hx)))
    rw [List.length_erase_of_mem ha] at this
    have := List.length_pos_of_mem ha
    rw [List.length_cons]; omega
theorem nodup_len {l : List Nat} {m : Nat} (hn : l.Nodup) (h : ∀ p ∈ l, p < m) : l.length ≤ m ∧ (l.length = m → ∀ p, p < m → p ∈ l) := by
  have hsub : l.length ≤ (List.range m).length := len_sub hn (fun x hx => List.mem_range.2 (h x hx))
  rw [List.length_range] at hsub
  refine ⟨hsub, fun e p hp => ?_⟩
  apply Classical.byContradiction
  intro hpl
  have : (p :: l).length ≤ (List.range m).length := len_sub (List.nodup_cons.2 ⟨hpl, hn⟩) (fun x hx => by
    rcases List.mem_cons.1 hx with e | k
    · subst e; exact List.mem_range.2 hp
    · exact List.mem_range.2 (h x k))
  rw [List.length_range, List.length_cons] at this
  omega
theorem ord_more (hG : RG G) (hP : Parted G part parts) {os : List Nat} (h : Ord G part parts os) (hl : os.length < parts.length) : ∃ p, p < parts.length ∧ ready G part os p := by
  have : ∃ p, p < parts.length ∧ p ∉ os := by
    apply Classical.byContradiction
    intro hx
    have hall : ∀ p, p < parts.length → p ∈ os := fun p hp => Classical.byContradiction fun k => hx ⟨p, hp, k⟩
    have : (List.range parts.length).length ≤ os.length := len_sub List.nodup_range (fun x hx => hall x (List.mem_range.1 hx))
    rw [List.length_range] at this; omega
  obtain ⟨p, hp, hpo⟩ := this
  obtain ⟨a, ha, hpa⟩ := hP.some p hp
  refine exists_ready hG hP ha ?_
  cases e : putO part os a
  · rfl
  · obtain ⟨q, hq, e⟩ := putO_iff.1 e
    obtain rfl : q = p := by omega
    exact absurd hq hpo
theorem ord_all (hG : RG G) (hP : Parted G part parts) {os : List Nat} (h : Ord G part parts os) (hl : os.length = parts.length) : partsR G = os.map (fun p => parts.getD p []) := by
  have hall := (nodup_len h.nodup h.lt).2 hl
  have hput : ∀ k, k < G.length → putO part os k = true := fun k hk => by
    have h0 := hP.pos k hk; have h1 := hP.most k
    exact putO_iff.2 ⟨(part k).toNat, hall _ (by omega), by omega⟩
  have hpick : pickR G (roundsR G os.length).1 = none := by
    rw [pick_congr h.put]
    unfold pickR
    rw [List.find?_eq_none]
    intro a ha
    unfold openR
    rw [hput a (List.mem_range.1 ha)]; simp
  have hle : os.length ≤ G.length := by
    have hnd : (os.map (headO parts)).Nodup := by
      rw [List.nodup_iff_pairwise_ne, List.pairwise_map]
      refine (List.nodup_iff_pairwise_ne.1 h.nodup).imp_of_mem fun {x y} hx hy hxy e => hxy ?_
      have e1 := (head_of hP (h.lt x hx)).2.1
      have e2 := (head_of hP (h.lt y hy)).2.1
      rw [e] at e1; omega
    have := (nodup_len hnd (m := G.length) (fun p hp => by
      obtain ⟨q, hq, rfl⟩ := List.mem_map.1 hp
      exact (head_of hP (h.lt q hq)).1)).1
    simpa using this
  unfold partsR
  obtain ⟨d, hd⟩ : ∃ d, G.length = os.length + d := ⟨G.length - os.length, by omega⟩
  rw [hd, rounds_stop hpick, h.out]
end
section
variable {G : List (List Nat)} {part : Nat → Int} {parts : List (List Nat)}
/-! Edges that lead from part to part, counted. -/
def edges (G : List (List Nat)) : List (Nat × Nat) := (List.range G.length).flatMap (fun a => (row G a).map (fun b => (a, b)))
theorem mem_edges {e : Nat × Nat} : e ∈ edges G ↔ e.1 < G.length ∧ e.2 ∈ row G e.1 := by
  unfold edges
  rw [List.mem_flatMap]
  constructor
  · rintro ⟨a, ha, h⟩
    obtain ⟨b, hb, rfl⟩ := List.mem_map.1 h
    exact ⟨List.mem_range.1 ha, hb⟩
  · rintro ⟨h1, h2⟩
    exact ⟨e.1, List.mem_range.2 h1, List.mem_map.2 ⟨e.2, h2, rfl⟩⟩
def leftN (part : Nat → Int) (os : List Nat) (p : Nat) (es : List (Nat × Nat)) : Nat := es.countP (fun e => part e.1 == (p : Int) && (part e.2 != (p : Int) && !putO part os e.2))
/-- What counts the edges of a part to others that are not put; below 0 of one that is put. -/
def leftO (part : Nat → Int) (os : List Nat) (es : List (Nat × Nat)) (p : Nat) : Int := if p ∈ os then -1 else (leftN part os p es : Int)
def fromO (part : Nat → Int) (es : List (Nat × Nat)) (q : Nat) : List Int := (es.filter (fun e => part e.2 == (q : Int) && part e.1 != (q : Int))).map (fun e => part e.1)
theorem left_ready {os : List Nat} {p : Nat} : leftO part os (edges G) p = 0 ↔ ready G part os p := by
  unfold leftO ready
  by_cases h : p ∈ os
  · rw [if_pos h]; constructor
    · intro k; omega
    · intro k; exact absurd h k.1
  · rw [if_neg h]
    have : ((leftN part os p (edges G) : Int) = 0) ↔ leftN part os p (edges G) = 0 := by omega
    rw [this]
    unfold leftN
    rw [List.countP_eq_zero]
    constructor
    · intro k
      refine ⟨h, fun a ha hp b hb hbp => ?_⟩
      have := k (a, b) (mem_edges.2 ⟨ha, hb⟩)
      cases e : putO part os b
      · simp [hp, hbp, e] at this
      · rfl
    · rintro ⟨_, k⟩ ⟨a, b⟩ he
      obtain ⟨h1, h2⟩ := mem_edges.1 he
      by_cases hp : part a = (p : Int)
      · by_cases hb : part b = (p : Int)
        · simp [hb]
        · simp [k a h1 hp b h2 hb]
      · simp [hp]
/-- So many of the parts that lead to the one that was put are told. -/
theorem left_put (os : List Nat) {p q : Nat} (hq : q ∉ os) (hpq : p ≠ q) (hp : p ∉ os) (es : List (Nat × Nat)) : leftN part (os ++ [q]) p es + (fromO part es q).count (p : Int) = leftN part os p es := by
  unfold leftN fromO
  induction es with
  | nil => rfl
  | cons e es ih =>
    obtain ⟨a, b⟩ := e
    rw [List.countP_cons, List.countP_cons]
    have hput : putO part (os ++ [q]) b = (putO part os b || part b == (q : Int)) := by unfold putO; rw [List.any_append]; simp
    by_cases h1 : part b = (q : Int)
    · have hnb : putO part os b = false := by
        cases e : putO part os b
        · rfl
        · obtain ⟨r, hr, e⟩ := putO_iff.1 e
          obtain rfl : r = q := by omega
          exact absurd hr hq
      by_cases h2 : part a = (p : Int)
      · have hne : (p : Int) ≠ (q : Int) := by omega
        have hne' : (q : Int) ≠ (p : Int) := by omega
        have hpt : (part (a, b).2 == (q : Int) && part (a, b).1 != (q : Int)) = true := by simp [h1, h2, hne]
        rw [List.filter_cons_of_pos (p := fun e : Nat × Nat => part e.2 == (q : Int) && part e.1 != (q : Int)) hpt, List.map_cons, List.count_cons]
        simp only [hput, hnb, h1, h2, beq_self_eq_true, bne_iff_ne, Bool.true_and, Bool.or_true, Bool.not_true, Bool.and_false, Bool.false_eq_true, if_false, Bool.not_false, Bool.and_true, if_true]
        simp only [hne', ne_eq, not_false_eq_true, if_true]
        omega
      · have h2' : (part a == (p : Int)) = false := by simpa using h2
        have : (List.filter (fun e => part e.2 == (q : Int) && part e.1 != (q : Int)) ((a, b) :: es)).map (fun e => part e.1) = (if part a != (q : Int) then [part a] else []) ++ (List.filter (fun e => part e.2 == (q : Int) && part e.1 != (q : Int)) es).map (fun e => part e.1) := by
          by_cases h3 : part a = (q : Int)
          · simp [h1, h3]
          · simp [h1, h3]
        rw [this, List.count_append]
        have h0 : (if part a != (q : Int) then [part a] else []).count (p : Int) = 0 := by
          split
          · rw [List.count_cons]; simp [h2]
          · rfl
        rw [h0]
        simp only [h2', Bool.false_and, Bool.false_eq_true, if_false]
        omega
    · have hpf : (part (a, b).2 == (q : Int) && part (a, b).1 != (q : Int)) = false := by simp [h1]
      have h1' : (part b == (q : Int)) = false := by simpa using h1
      rw [List.filter_cons_of_neg (p := fun e : Nat × Nat => part e.2 == (q : Int) && part e.1 != (q : Int)) (by rw [hpf]; simp)]
      simp only [hput, h1', Bool.or_false]
      omega
/-- Who was put leads to none that was not. -/
theorem put_from (hG : RG G) (hP : Parted G part parts) {os : List Nat} (hs : Shut G (putO part os)) {p q : Nat} (hp : p ∈ os) (hq : q ∉ os) : (p : Int) ∉ fromO part (edges G) q := by
  intro h
  obtain ⟨e, he, hpe⟩ := List.mem_map.1 h
  obtain ⟨h1, h2⟩ := List.mem_filter.1 he
  obtain ⟨k1, k2⟩ := mem_edges.1 h1
  simp only [Bool.and_eq_true, beq_iff_eq, bne_iff_ne, ne_eq] at h2
  have := hs e.1 k1 (putO_iff.2 ⟨p, hp, hpe⟩) e.2 (.one k2)
  obtain ⟨r, hr, e'⟩ := putO_iff.1 this
  obtain rfl : r = q := by omega
  exact hq hr
/-- The counts behind a put one: 1 less for each told. -/
theorem leftO_put (hG : RG G) (hP : Parted G part parts) {os : List Nat} (hs : Shut G (putO part os)) {q : Nat} (hq : q ∉ os) (p : Nat) : leftO part (os ++ [q]) (edges G) p = (if p = q then -1 else leftO part os (edges G) p) - ((fromO part (edges G) q).count (p : Int) : Nat) := by
  unfold leftO
  by_cases hpq : p = q
  · subst hpq
    have : (fromO part (edges G) p).count (p : Int) = 0 := by
      rw [List.count_eq_zero]
      intro h
      obtain ⟨e, he, hpe⟩ := List.mem_map.1 h
      have h2 := (List.mem_filter.1 he).2
      simp only [Bool.and_eq_true, beq_iff_eq, bne_iff_ne, ne_eq] at h2
      exact h2.2 hpe
    rw [if_pos rfl, if_pos (by simp), this]; rfl
  · rw [if_neg hpq]
    by_cases hp : p ∈ os
    · rw [if_pos (by simp [hp]), if_pos hp, List.count_eq_zero.2 (put_from hG hP hs hp hq)]; rfl
    · rw [if_neg (by simp [hp, hpq]), if_neg hp]
      have := left_put (part := part) os hq hpq hp (edges G)
      omega
/-- A count that is decreased for each told. -/
def decO (f : Nat → Int) : List Int → Nat → Int
  | [], p => f p
  | x :: l, p => decO (upd f x.toNat (f x.toNat - 1)) l p
theorem decO_count (l : List Int) (hl : ∀ x ∈ l, 0 ≤ x) (f : Nat → Int) (p : Nat) : decO f l p = f p - (l.count (p : Int) : Nat) := by
  induction l generalizing f with
  | nil => simp [decO]
  | cons x l ih =>
    have hx := hl x (List.mem_cons_self ..)
    show decO (upd f x.toNat (f x.toNat - 1)) l p = _
    rw [ih (fun y hy => hl y (List.mem_cons_of_mem _ hy)), List.count_cons]
    by_cases e : x = (p : Int)
    · have : x.toNat = p := by omega
      rw [this, upd_same]; simp [e]; omega
    · have : p ≠ x.toNat := by omega
      rw [upd_other _ _ this]; simp [e]
/-- Where a number's part stands in the order. -/
theorem place_of (hP : Parted G part parts) {a p : Nat} (ha : a < G.length) (hp : part a = (p : Int)) : ∀ (os : List Nat), (∀ q ∈ os, q < parts.length) → os.Nodup → ∀ (i : Nat) (hi : i < os.length), os[i] = p → placeR (os.map (fun p => parts.getD p [])) a = (i : Int) := by
  intro os
  induction os with
  | nil => intro _ _ i hi; exact absurd hi (Nat.not_lt_zero _)
  | cons q os ih =>
    intro hl hn i hi he
    have hq := hl q (List.mem_cons_self ..)
    have hc : (parts.getD q []).contains a = decide (part a = (q : Int)) := by
      rw [show parts.getD q [] = parts[q] by simp [hq], hP.rows q hq, Bool.eq_iff_iff]
      simp [ha]
    rw [List.map_cons]
    unfold placeR
    cases i with
    | zero =>
      simp only [List.getElem_cons_zero] at he
      rw [hc, decide_eq_true (by rw [he]; exact hp)]; simp
    | succ i =>
      simp only [List.getElem_cons_succ] at he
      have hi' : i < os.length := by simpa using hi
      obtain ⟨h1, h2⟩ := List.nodup_cons.1 hn
      have hqp : q ≠ p := fun e => h1 (by rw [e, ← he]; exact List.getElem_mem _)
      rw [hc, decide_eq_false (by omega), ih (fun x hx => hl x (List.mem_cons_of_mem _ hx)) h2 i hi' he]
      simp
      omega
theorem place_out {L : List (List Nat)} {a : Nat} (h : ∀ l ∈ L, a ∉ l) : placeR L a = -1 := by
  induction L with
  | nil => rfl
  | cons l L ih =>
    unfold placeR
    rw [ih (fun m hm => h m (List.mem_cons_of_mem _ hm))]
    simp [h l (List.mem_cons_self ..)]
end
end Go.Proofs.YtlklmpjakeedcaaGreatDoor.Cp

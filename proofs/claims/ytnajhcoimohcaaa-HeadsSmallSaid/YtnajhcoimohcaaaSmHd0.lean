/-
  Package heads, plain: activations, one on top of the other; what is done to them; sets of rules as rising rows.
  Conditions: none.
-/
import Derived.Test.YtnajhcoimohcaaaSmBase
set_option linter.unusedVariables false
set_option linter.unusedSimpArgs false
set_option linter.unnecessarySimpa false
namespace Go.Proofs.Ytnajhcoimohcaaa
open Go.RowKit Go.MapKept

/-! ### Rising rows -/
def addS : List Int → Int → List Int
  | [], x => [x]
  | y :: l, x => if y < x then y :: addS l x else if y = x then y :: l else x :: y :: l
theorem mem_addS {z : Int} : ∀ {l : List Int} {x : Int}, z ∈ addS l x ↔ z = x ∨ z ∈ l := by
  intro l x
  induction l with
  | nil => simp [addS]
  | cons y l ih =>
    unfold addS
    split
    · simp only [List.mem_cons, ih]
      constructor
      · rintro (h | h | h)
        · exact .inr (.inl h)
        · exact .inl h
        · exact .inr (.inr h)
      · rintro (h | h | h)
        · exact .inr (.inl h)
        · exact .inl h
        · exact .inr (.inr h)
    · split
      · rename_i h
        subst h
        simp
      · simp
abbrev Rises (l : List Int) : Prop := l.Pairwise (· < ·)
theorem addS_rises : ∀ {l : List Int} {x : Int}, Rises l → Rises (addS l x) := by
  intro l x
  induction l with
  | nil => intro _; simp [addS]
  | cons y l ih =>
    intro h
    obtain ⟨h1, h2⟩ := List.pairwise_cons.1 h
    unfold addS
    split
    · rename_i hlt
      refine List.pairwise_cons.2 ⟨fun z hz => ?_, ih h2⟩
      rcases mem_addS.1 hz with rfl | hz
      · exact hlt
      · exact h1 z hz
    · split
      · exact h
      · refine List.pairwise_cons.2 ⟨fun z hz => ?_, h⟩
        rcases List.mem_cons.1 hz with rfl | hz
        · omega
        · have := h1 z hz; omega
theorem addS_len {l : List Int} {x : Int} : (addS l x).length ≤ l.length + 1 := by
  induction l with
  | nil => simp [addS]
  | cons y l ih =>
    unfold addS
    split
    · simp only [List.length_cons]; omega
    · split
      · simp
      · simp
theorem rises_nodup {l : List Int} (h : Rises l) : l.Nodup := h.imp fun hab => by omega
theorem rises_ext {l m : List Int} (hl : Rises l) (hm : Rises m) (h : ∀ z, z ∈ l ↔ z ∈ m) : l = m :=
  List.Perm.eq_of_pairwise (le := fun a b => a < b) (fun a b _ _ h1 h2 => by omega) hl hm ((List.perm_ext_iff_of_nodup (rises_nodup hl) (rises_nodup hm)).2 h)
def addL (l xs : List Int) : List Int := xs.foldl addS l
theorem mem_addL {z : Int} : ∀ {xs l : List Int}, z ∈ addL l xs ↔ z ∈ l ∨ z ∈ xs := by
  intro xs
  induction xs with
  | nil => intro l; simp [addL]
  | cons x xs ih =>
    intro l
    show z ∈ addL (addS l x) xs ↔ _
    rw [ih, mem_addS, List.mem_cons]
    constructor
    · rintro ((h | h) | h)
      · exact .inr (.inl h)
      · exact .inl h
      · exact .inr (.inr h)
    · rintro (h | h | h)
      · exact .inl (.inr h)
      · exact .inl (.inl h)
      · exact .inr h
theorem addL_rises : ∀ {xs l : List Int}, Rises l → Rises (addL l xs) := by
  intro xs
  induction xs with
  | nil => intro l h; exact h
  | cons x xs ih => intro l h; exact ih (addS_rises h)
theorem addL_len : ∀ {xs l : List Int}, (addL l xs).length ≤ l.length + xs.length := by
  intro xs
  induction xs with
  | nil => intro l; simp [addL]
  | cons x xs ih =>
    intro l
    have := ih (l := addS l x)
    have := addS_len (l := l) (x := x)
    show (addL (addS l x) xs).length ≤ _
    simp only [List.length_cons]
    omega
theorem addL_snoc (l xs : List Int) (x : Int) : addL l (xs ++ [x]) = addS (addL l xs) x := by simp [addL]

/-! ### Activations -/
structure Fm where
  rule : Int
  place : Int
  tch : List Int
  inv : List Int
  tnt : Bool
/-- Where a pair stands, or -1. -/
def atI : List Fm → Int → Int → Int
  | [], _, _ => -1
  | f :: s, r, p => if f.rule = r ∧ f.place = p then 0 else if atI s r p < 0 then -1 else atI s r p + 1
theorem atI_none {r p : Int} : ∀ {s : List Fm}, (∀ f ∈ s, ¬ (f.rule = r ∧ f.place = p)) → atI s r p = -1 := by
  intro s
  induction s with
  | nil => intro _; rfl
  | cons f s ih =>
    intro h
    unfold atI
    rw [if_neg (h f (by simp)), ih (fun g hg => h g (by simp [hg]))]
    rfl
theorem atI_some {r p : Int} : ∀ {s : List Fm} {k : Nat} (hk : k < s.length), (s[k].rule = r ∧ s[k].place = p) → (∀ j (h : j < k), ¬ ((s[j]'(by omega)).rule = r ∧ (s[j]'(by omega)).place = p)) → atI s r p = k := by
  intro s
  induction s with
  | nil => intro k hk; cases hk
  | cons f s ih =>
    intro k hk h1 h2
    cases k with
    | zero => unfold atI; rw [if_pos (show f.rule = r ∧ f.place = p from h1)]; rfl
    | succ k =>
      have h0 : ¬ (f.rule = r ∧ f.place = p) := h2 0 (by omega)
      have := ih (k := k) (by simpa using hk) h1 (fun j hj => h2 (j + 1) (by omega))
      unfold atI
      rw [if_neg h0, this, if_neg (by omega)]
      omega
theorem atI_cases (s : List Fm) (r p : Int) : (atI s r p = -1 ∧ ∀ f ∈ s, ¬ (f.rule = r ∧ f.place = p)) ∨ ∃ k, ∃ h : k < s.length, atI s r p = k ∧ s[k].rule = r ∧ s[k].place = p := by
  induction s with
  | nil => exact .inl ⟨rfl, by simp⟩
  | cons f s ih =>
    by_cases h : f.rule = r ∧ f.place = p
    · exact .inr ⟨0, by simp, by unfold atI; rw [if_pos h]; rfl, h⟩
    · rcases ih with ⟨h1, h2⟩ | ⟨k, hk, h1, h2⟩
      · refine .inl ⟨by unfold atI; rw [if_neg h, h1]; rfl, fun g hg => ?_⟩
        rcases List.mem_cons.1 hg with rfl | hg
        · exact h
        · exact h2 g hg
      · exact .inr ⟨k + 1, by simpa using hk, by unfold atI; rw [if_neg h, h1, if_neg (by omega)]; omega, h2⟩
def lowB (s : List Fm) (p : Int) : Bool := match s.getLast? with | none => false | some f => decide (p < f.place)
def touchF (p : Int) (l : List Int) (f : Fm) : Fm := if f.place = p then { f with tch := addL f.tch l } else f
def touchS (s : List Fm) (p : Int) (l : List Int) : List Fm := s.map (touchF p l)
def enterS (s : List Fm) (r p : Int) : List Fm × Int := if 0 ≤ atI s r p then (s, 8) else if lowB s p then (s, 2) else (touchS (s ++ [⟨r, p, [], [], false⟩]) p [r], 0)
def taintF (k : Int) (i : Nat) (f : Fm) : Fm := if k < i then { f with tnt := true } else f
def readS (s : List Fm) (r p : Int) : List Fm × Int :=
  if atI s r p < 0 then (s, 5) else
    (touchS (s.mapIdx fun i f => if (i : Int) = atI s r p then { f with inv := addL f.inv ((s.drop (i + 1)).map (·.rule)) } else if atI s r p < i then { f with tnt := true } else f) p [r], 0)
def useS (s : List Fm) (p : Int) (l : List Int) : List Fm × Int := if lowB s p then (s, 2) else (touchS s p l, 0)
def freeB (s : List Fm) (p : Int) (l : List Int) : Bool := l.all fun r => decide (atI s r p < 0)
def invL (s : List Fm) (r p : Int) : List Int := if atI s r p < 0 then [] else match s[(atI s r p).toNat]? with | none => [] | some f => f.inv
def tntB (s : List Fm) : Bool := match s.getLast? with | none => false | some f => f.tnt
theorem touchS_len (s : List Fm) (p : Int) (l : List Int) : (touchS s p l).length = s.length := by simp [touchS]
end Go.Proofs.Ytnajhcoimohcaaa

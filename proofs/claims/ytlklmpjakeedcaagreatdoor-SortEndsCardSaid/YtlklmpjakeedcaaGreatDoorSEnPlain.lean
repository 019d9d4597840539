/-
 Grammars as plain data: which are right, by the document's definition and by a table of sizes and heights; both are one.
 Conditions: none.
-/
set_option linter.unusedVariables false
set_option linter.unusedSimpArgs false
namespace Go.Proofs.YtlklmpjakeedcaaGreatDoor

structure Rl where
 name : ByteArray
 body : Int
structure Nd where
 k : Int
 c0 : Int
 c1 : Int
 c2 : Int
 c3 : Int
 s : ByteArray
 r : Int
 l : Int
 kids : List Int
structure Gr where
 rules : List Rl
 nodes : List Nd

/-! ### 1. The node behind a node, by the document -/

def kidsAft (F : Nat → Option (Nat × Nat)) : List Int → Nat → Nat → Option (Nat × Nat)
 | [], next, high => some (next, high)
 | k :: ks, next, high => if k = (next : Int) then (match F next with | none => none | some (to, h) => kidsAft F ks to (max high (1 + h))) else none
def aft (ns : List Nd) : Nat → Nat → Option (Nat × Nat)
 | 0, _ => none
 | f + 1, n => match ns[n]? with | none => none | some x => kidsAft (aft ns f) x.kids (n + 1) 1

/-! ### 2. The table of sizes and heights -/

def kidsTab (t : List (Nat × Nat)) (base : Nat) : List Int → Nat → Nat → Option (Nat × Nat)
 | [], next, high => some (next, high)
 | k :: ks, next, high => if k = (next : Int) then (match t[next - base]? with | none => none | some (z, h) => kidsTab t base ks (next + z) (max high h)) else none
def tabFrom : List Nd → Nat → Option (List (Nat × Nat))
 | [], _ => some []
 | x :: r, n => match tabFrom r (n + 1) with
  | none => none
  | some t => match kidsTab t (n + 1) x.kids (n + 1) 0 with
   | none => none
   | some (next, high) => some ((next - n, high + 1) :: t)
def tab (ns : List Nd) : Option (List (Nat × Nat)) := tabFrom ns 0

theorem kidsTab_le {t : List (Nat × Nat)} {base : Nat} : ∀ {ks : List Int} {next high e hh : Nat}, kidsTab t base ks next high = some (e, hh) → next ≤ e ∧ high ≤ hh := by
 intro ks
 induction ks with
 | nil => intro next high e hh h; simp only [kidsTab, Option.some.injEq, Prod.mk.injEq] at h; omega
 | cons k ks ih =>
  intro next high e hh h
  simp only [kidsTab] at h
  split at h
  ·split at h
   ·cases h
   ·have := ih h; omega
  ·cases h

theorem kidsAft_le {F : Nat → Option (Nat × Nat)} (hF : ∀ n e h, F n = some (e, h) → n ≤ e) : ∀ {ks : List Int} {next high e hh : Nat}, kidsAft F ks next high = some (e, hh) → next ≤ e ∧ high ≤ hh := by
 intro ks
 induction ks with
 | nil => intro next high e hh h; simp only [kidsAft, Option.some.injEq, Prod.mk.injEq] at h; omega
 | cons k ks ih =>
  intro next high e hh h
  simp only [kidsAft] at h
  split at h
  ·split at h
   ·cases h
   ·rename_i to h' hf
    have h1 := ih h
    have h2 := hF _ _ _ hf
    omega
  ·cases h

theorem aft_lt {ns : List Nd} : ∀ {f n e h : Nat}, aft ns f n = some (e, h) → n < e ∧ n < ns.length ∧ 1 ≤ h ∧ 1 ≤ f := by
 intro f
 induction f with
 | zero => intro n e h h0; cases h0
 | succ f ih =>
  intro n e h h0
  simp only [aft] at h0
  split at h0
  ·cases h0
  ·rename_i x hx
   have h1 := kidsAft_le (fun n e h h' => Nat.le_of_lt (ih h').1) h0
   have h2 := (List.getElem?_eq_some_iff.1 hx).1
   omega

/-- What the table says of the nodes from n on is what the document's definition says. -/
def TabOk (ns : List Nd) (n : Nat) (t : List (Nat × Nat)) : Prop :=
 t.length = ns.length - n ∧ ∀ m, n ≤ m → m < ns.length → ∃ z h, t[m - n]? = some (z, h) ∧ 1 ≤ z ∧ 1 ≤ h ∧ ∀ f, aft ns f m = if h ≤ f then some (m + z, h) else none

theorem kids_same {ns : List Nd} {n : Nat} {t : List (Nat × Nat)} (ht : TabOk ns n t) (f : Nat) : ∀ (ks : List Int) (next high : Nat), n ≤ next → high ≤ f →
  kidsAft (aft ns f) ks next (1 + high) = match kidsTab t n ks next high with | none => none | some (e, hh) => if hh ≤ f then some (e, 1 + hh) else none := by
 intro ks
 induction ks with
 | nil => intro next high _ hf; simp [kidsAft, kidsTab, hf]
 | cons k ks ih =>
  intro next high hn hf
  simp only [kidsAft, kidsTab]
  by_cases hk : k = (next : Int)
  ·simp only [hk, if_true]
   by_cases hl : next < ns.length
   ·obtain ⟨z, h, h1, hz, hh, h2⟩ := ht.2 next hn hl
    rw [h2, h1]
    by_cases hhf : h ≤ f
    ·simp only [if_pos hhf]
     rw [show max (1 + high) (1 + h) = 1 + max high h by omega]
     exact ih (next + z) (max high h) (by omega) (by omega)
    ·simp only [if_neg hhf]
     cases hkt : kidsTab t n ks (next + z) (max high h) with
     | none => rfl
     | some p =>
      obtain ⟨e, hh'⟩ := p
      have := kidsTab_le hkt
      simp only
      rw [if_neg (by omega)]
   ·have h1 : t[next - n]? = none := by rw [List.getElem?_eq_none_iff]; rw [ht.1]; omega
    rw [h1]
    cases f with
    | zero => simp [aft]
    | succ f => simp [aft, List.getElem?_eq_none (Nat.le_of_not_lt hl)]
  ·simp [hk]

theorem drop_split {ns : List Nd} {n : Nat} (h : n < ns.length) : ns.drop n = ns[n] :: ns.drop (n + 1) := by rw [List.drop_eq_getElem_cons h]

theorem tabOk_step {ns : List Nd} {n : Nat} {t : List (Nat × Nat)} (ht : TabOk ns (n + 1) t) (hn : n < ns.length) {e hh : Nat} (hk : kidsTab t (n + 1) ns[n].kids (n + 1) 0 = some (e, hh)) :
  TabOk ns n ((e - n, hh + 1) :: t) := by
 have hle := kidsTab_le hk
 refine ⟨by simp [ht.1]; omega, fun m hm hl => ?_⟩
 by_cases hmn : m = n
 ·subst hmn
  refine ⟨e - m, hh + 1, by simp, by omega, by omega, fun f => ?_⟩
  cases f with
  | zero => simp [aft]
  | succ f =>
   simp only [aft, List.getElem?_eq_getElem hn]
   have := kids_same ht f ns[m].kids (m + 1) 0 (Nat.le_refl _) (Nat.zero_le _)
   rw [hk] at this
   simp only [Nat.add_zero] at this
   rw [this]
   by_cases h : hh ≤ f
   ·rw [if_pos h, if_pos (by omega)]
    simp; omega
   ·rw [if_neg h, if_neg (by omega)]
 ·obtain ⟨z, h, h1, r⟩ := ht.2 m (by omega) hl
  refine ⟨z, h, ?_, r⟩
  rw [show m - n = (m - (n + 1)) + 1 by omega]
  simpa using h1

theorem tabFrom_ok {ns : List Nd} : ∀ (d n : Nat), d = ns.length - n → n ≤ ns.length → ∀ t, tabFrom (ns.drop n) n = some t → TabOk ns n t := by
 intro d
 induction d with
 | zero =>
  intro n hd hn t h
  obtain rfl : n = ns.length := by omega
  simp [tabFrom] at h
  subst h
  exact ⟨by simp, fun m hm hl => by omega⟩
 | succ d ih =>
  intro n hd hn t h
  have hlt : n < ns.length := by omega
  rw [drop_split hlt] at h
  simp only [tabFrom] at h
  split at h
  ·cases h
  ·rename_i t' ht'
   split at h
   ·cases h
   ·rename_i e hh hk
    simp only [Option.some.injEq] at h
    subst h
    exact tabOk_step (ih (n + 1) (by omega) (by omega) t' ht') hlt hk

theorem tab_ok {ns : List Nd} {t : List (Nat × Nat)} (h : tab ns = some t) : TabOk ns 0 t := tabFrom_ok ns.length 0 (by omega) (Nat.zero_le _) t (by simpa [tab] using h)

/-- Where the definition is met at every node, there is a table. -/
theorem tabFrom_some {ns : List Nd} (hall : ∀ m, m < ns.length → ∃ f e h, aft ns f m = some (e, h)) : ∀ (d n : Nat), d = ns.length - n → n ≤ ns.length → ∃ t, tabFrom (ns.drop n) n = some t := by
 intro d
 induction d with
 | zero =>
  intro n hd hn
  obtain rfl : n = ns.length := by omega
  exact ⟨[], by simp [tabFrom]⟩
 | succ d ih =>
  intro n hd hn
  have hlt : n < ns.length := by omega
  obtain ⟨t, ht⟩ := ih (n + 1) (by omega) (by omega)
  have hok := tabFrom_ok d (n + 1) (by omega) (by omega) t ht
  obtain ⟨f, e, h, hf⟩ := hall n hlt
  cases f with
  | zero => cases hf
  | succ f =>
   simp only [aft, List.getElem?_eq_getElem hlt] at hf
   have hs := kids_same hok f ns[n].kids (n + 1) 0 (Nat.le_refl _) (Nat.zero_le _)
   simp only [Nat.add_zero] at hs
   rw [hs] at hf
   rw [drop_split hlt]
   simp only [tabFrom, ht]
   split at hf
   ·cases hf
   ·rename_i e' hh' hk
    exact ⟨_, rfl⟩

theorem kidsAft_cover {ns : List Nd} {f : Nat} (hF : ∀ n e h, aft ns f n = some (e, h) → e ≤ ns.length ∧ ∀ m, n ≤ m → m < e → ∃ e' h', aft ns f m = some (e', h') ∧ e' ≤ e) :
  ∀ {ks : List Int} {next high e hh : Nat}, kidsAft (aft ns f) ks next high = some (e, hh) → next ≤ ns.length → e ≤ ns.length ∧ ∀ m, next ≤ m → m < e → ∃ e' h', aft ns f m = some (e', h') ∧ e' ≤ e := by
 intro ks
 induction ks with
 | nil => intro next high e hh h hn; simp only [kidsAft, Option.some.injEq, Prod.mk.injEq] at h; exact ⟨by omega, fun m _ _ => by omega⟩
 | cons k ks ih =>
  intro next high e hh h hn
  simp only [kidsAft] at h
  split at h
  ·split at h
   ·cases h
   ·rename_i to h' hf
    have h1 := hF _ _ _ hf
    have h2 := ih h h1.1
    have h3 := (kidsAft_le (fun n e h h' => Nat.le_of_lt (aft_lt h').1) h).1
    refine ⟨h2.1, fun m hm hme => ?_⟩
    by_cases hc : m < to
    ·obtain ⟨e', h'', h4, h5⟩ := h1.2 m hm hc
     exact ⟨e', h'', h4, by omega⟩
    ·exact h2.2 m (by omega) hme
  ·cases h

theorem kidsAft_mono {F G : Nat → Option (Nat × Nat)} (h : ∀ n p, F n = some p → G n = some p) : ∀ {ks : List Int} {next high : Nat} {p}, kidsAft F ks next high = some p → kidsAft G ks next high = some p := by
 intro ks
 induction ks with
 | nil => intro next high p hp; exact hp
 | cons k ks ih =>
  intro next high p hp
  simp only [kidsAft] at hp ⊢
  split at hp
  ·rename_i hk
   rw [if_pos hk]
   split at hp
   ·cases hp
   ·rename_i to h' hf
    rw [h _ _ hf]
    exact ih hp
  ·cases hp

theorem aft_mono1 {ns : List Nd} : ∀ {f n : Nat} {p}, aft ns f n = some p → aft ns (f + 1) n = some p := by
 intro f
 induction f with
 | zero => intro n p h; cases h
 | succ f ih =>
  intro n p h
  rw [aft] at h ⊢
  split at h
  ·cases h
  ·rename_i x hx
   exact kidsAft_mono (fun n p hp => ih hp) h
theorem aft_mono {ns : List Nd} {f g n : Nat} {p} (hfg : f ≤ g) (h : aft ns f n = some p) : aft ns g n = some p := by
 induction hfg with
 | refl => exact h
 | step _ ih => exact aft_mono1 ih

/-- Each node of a node's nodes meets the definition, too. -/
theorem aft_cover {ns : List Nd} : ∀ {f n e h : Nat}, aft ns f n = some (e, h) → e ≤ ns.length ∧ ∀ m, n ≤ m → m < e → ∃ e' h', aft ns f m = some (e', h') ∧ e' ≤ e := by
 intro f
 induction f with
 | zero => intro n e h h0; cases h0
 | succ f ih =>
  intro n e h h0
  have h00 := h0
  simp only [aft] at h0
  split at h0
  ·cases h0
  ·rename_i x hx
   have hl := (List.getElem?_eq_some_iff.1 hx).1
   have hc := kidsAft_cover (fun n e h => ih) h0 (by omega)
   refine ⟨hc.1, fun m hm hme => ?_⟩
   by_cases hmn : m = n
   ·subst hmn
    exact ⟨e, h, h00, Nat.le_refl _⟩
   ·obtain ⟨e', h', h1, h2⟩ := hc.2 m (by omega) hme
    exact ⟨e', h', aft_mono1 h1, h2⟩

theorem kidsAft_height {F : Nat → Option (Nat × Nat)} (hF : ∀ n e h, F n = some (e, h) → h + n ≤ e) : ∀ {ks : List Int} {next high e hh : Nat}, kidsAft F ks next high = some (e, hh) → next ≤ e ∧ (hh ≤ high ∨ hh + next ≤ e + 1) := by
 intro ks
 induction ks with
 | nil => intro next high e hh h; simp only [kidsAft, Option.some.injEq, Prod.mk.injEq] at h; omega
 | cons k ks ih =>
  intro next high e hh h
  simp only [kidsAft] at h
  split at h
  ·split at h
   ·cases h
   ·rename_i to h' hf
    have h1 := ih h
    have h2 := hF _ _ _ hf
    omega
  ·cases h
theorem aft_height {ns : List Nd} : ∀ {f n e h : Nat}, aft ns f n = some (e, h) → h + n ≤ e := by
 intro f
 induction f with
 | zero => intro n e h h0; cases h0
 | succ f ih =>
  intro n e h h0
  simp only [aft] at h0
  split at h0
  ·cases h0
  ·have h1 := kidsAft_height (fun n e h h' => ih h') h0
   omega
/-- What stands in the table stays within the row. -/
theorem tabOk_le {ns : List Nd} {n : Nat} {t : List (Nat × Nat)} (ht : TabOk ns n t) {m : Nat} (hm : n ≤ m) (hl : m < ns.length) : ∃ z h, t[m - n]? = some (z, h) ∧ 1 ≤ z ∧ m + z ≤ ns.length ∧ h ≤ z := by
 obtain ⟨z, h, h1, h2, h3, h4⟩ := ht.2 m hm hl
 have h5 := h4 h
 rw [if_pos (Nat.le_refl _)] at h5
 have h6 := (aft_cover h5).1
 have h7 := aft_height h5
 exact ⟨z, h, h1, h2, h6, by omega⟩
theorem kidsTab_snoc {t : List (Nat × Nat)} {b : Nat} {k : Int} : ∀ {ks : List Int} {next high : Nat}, kidsTab t b (ks ++ [k]) next high = match kidsTab t b ks next high with | none => none | some (e, hh) => kidsTab t b [k] e hh := by
 intro ks
 induction ks with
 | nil => intro next high; rfl
 | cons j ks ih =>
  intro next high
  simp only [List.cons_append, kidsTab]
  split
  ·split
   ·rfl
   ·exact ih
  ·rfl
theorem kidsTab_none {t : List (Nat × Nat)} {b : Nat} {l : List Int} : ∀ {ks : List Int} {next high : Nat}, kidsTab t b ks next high = none → kidsTab t b (ks ++ l) next high = none := by
 intro ks
 induction ks with
 | nil => intro next high h; cases h
 | cons j ks ih =>
  intro next high h
  simp only [List.cons_append, kidsTab] at h ⊢
  split
  ·rename_i hj
   rw [if_pos hj] at h
   split
   ·rfl
   ·rename_i z hh he
    rw [he] at h
    exact ih h
  ·rfl
theorem tabFrom_none {ns : List Nd} {n : Nat} (hn : n ≤ ns.length) (h : tabFrom (ns.drop n) n = none) : ∀ (d m : Nat), m + d = n → tabFrom (ns.drop m) m = none := by
 intro d
 induction d with
 | zero =>
  intro m hm
  obtain rfl : m = n := by omega
  exact h
 | succ d ih =>
  intro m hm
  rw [drop_split (by omega : m < ns.length)]
  simp only [tabFrom, ih (m + 1) (by omega)]
theorem tab_none {ns : List Nd} {n : Nat} (hn : n ≤ ns.length) (h : tabFrom (ns.drop n) n = none) : tab ns = none := by
 have := tabFrom_none hn h n 0 (by omega)
 simpa [tab] using this
theorem tabFrom_step_none {ns : List Nd} {n : Nat} (hn : n < ns.length) {t : List (Nat × Nat)} (ht : tabFrom (ns.drop (n + 1)) (n + 1) = some t) (hk : kidsTab t (n + 1) ns[n].kids (n + 1) 0 = none) : tabFrom (ns.drop n) n = none := by
 rw [drop_split hn]
 simp only [tabFrom, ht, hk]
theorem tabFrom_step_some {ns : List Nd} {n e hh : Nat} (hn : n < ns.length) {t : List (Nat × Nat)} (ht : tabFrom (ns.drop (n + 1)) (n + 1) = some t) (hk : kidsTab t (n + 1) ns[n].kids (n + 1) 0 = some (e, hh)) : tabFrom (ns.drop n) n = some ((e - n, hh + 1) :: t) := by
 rw [drop_split hn]
 simp only [tabFrom, ht, hk]

/-! ### 3. Names, nodes, rules -/

def letterB (c : UInt8) : Bool := (97 ≤ c && c ≤ 122) || (65 ≤ c && c ≤ 90) || c == 95
def digitB (c : UInt8) : Bool := 48 ≤ c && c ≤ 57
def nameL : List UInt8 → Bool
 | [] => false
 | c :: r => letterB c && r.all (fun c => letterB c || digitB c) && decide (r.length + 1 ≤ 32)
def nameB (s : ByteArray) : Bool := nameL s.data.toList

def plainB (c0 c1 c2 c3 r l : Int) (s : ByteArray) : Bool := decide (c0 = 0 ∧ c1 = 0 ∧ c2 = 0 ∧ c3 = 0) && decide (s.toList = []) && decide (r = 0) && decide (l = 0)
def bareB (c0 c1 c2 c3 r l : Int) (s : ByteArray) (n : Nat) : Bool := plainB c0 c1 c2 c3 r l s && decide (n = 0)
def nodeN (k c0 c1 c2 c3 r l q : Int) (s : ByteArray) (n : Nat) : Bool :=
 if k = 1 ∨ k = 2 then bareB c0 c1 c2 c3 r l s n
 else if k = 3 then !decide (c0 = 0 ∧ c1 = 0 ∧ c2 = 0 ∧ c3 = 0) && bareB 0 0 0 0 r l s n
 else if k = 4 then decide (0 < s.size) && decide (s.size ≤ 64) && bareB c0 c1 c2 c3 r l ⟨#[]⟩ n
 else if k = 5 then decide (0 ≤ r ∧ r < q ∧ 0 ≤ l ∧ l ≤ 99) && bareB c0 c1 c2 c3 0 0 s n
 else if k = 6 ∨ k = 7 then plainB c0 c1 c2 c3 r l s && decide (2 ≤ n) && decide (n ≤ 64)
 else if 8 ≤ k ∧ k ≤ 12 then plainB c0 c1 c2 c3 r l s && decide (n = 1)
 else false
def nodeB (x : Nd) (q : Int) : Bool := nodeN x.k x.c0 x.c1 x.c2 x.c3 x.r x.l q x.s x.kids.length

/-- The place of the first rule of a name; as many as there are, if there is none. -/
def ruleN (rs : List Rl) (s : ByteArray) : Nat := rs.findIdx fun r => r.name.toList == s.toList
def ruleI (rs : List Rl) (s : ByteArray) : Int := if ruleN rs s < rs.length then (ruleN rs s : Int) else -1

/-! ### 4. Right grammars -/

/-- The document's row of rules: each body where the last one ended. -/
def chain (g : Gr) : List Rl → Nat → Nat → Option Nat
 | [], _, next => some next
 | r :: rs, i, next => if nameB r.name && decide (ruleI g.rules r.name = (i : Int)) && decide (r.body = (next : Int)) then
   (match aft g.nodes 16 next with | none => none | some (to, _) => chain g rs (i + 1) to) else none
def sizesB (g : Gr) : Bool := decide (1 ≤ g.rules.length) && decide (g.rules.length ≤ 32) && decide (g.nodes.length ≤ 2048)
def allB (g : Gr) : Bool := g.nodes.all fun x => nodeB x (g.rules.length : Int)
def rightB (g : Gr) : Bool := sizesB g && allB g && (chain g g.rules 0 0 == some g.nodes.length)
/-- The program's, by a table. -/
def chainT (g : Gr) (t : List (Nat × Nat)) : List Rl → Nat → Nat → Option Nat
 | [], _, next => some next
 | r :: rs, i, next => if nameB r.name && decide (ruleI g.rules r.name = (i : Int)) && decide (r.body = (next : Int)) then
   (match t[next]? with | none => none | some (z, h) => if h ≤ 16 then chainT g t rs (i + 1) (next + z) else none) else none
def wholeT (g : Gr) : Option (List (Nat × Nat)) :=
 if sizesB g && allB g then (match tab g.nodes with | none => none | some t => if chainT g t g.rules 0 0 == some g.nodes.length then some t else none) else none

theorem chain_eq {g : Gr} {t : List (Nat × Nat)} (ht : TabOk g.nodes 0 t) : ∀ (rs : List Rl) (i next : Nat), chain g rs i next = chainT g t rs i next := by
 intro rs
 induction rs with
 | nil => intro i next; rfl
 | cons r rs ih =>
  intro i next
  simp only [chain, chainT]
  split
  ·by_cases hl : next < g.nodes.length
   ·obtain ⟨z, h, h1, _, _, h2⟩ := ht.2 next (Nat.zero_le _) hl
    simp only [Nat.sub_zero] at h1
    rw [h1, h2]
    by_cases hh : h ≤ 16
    ·simp only [if_pos hh]; exact ih _ _
    ·simp only [if_neg hh]
   ·have h1 : t[next]? = none := by rw [List.getElem?_eq_none_iff, ht.1]; omega
    rw [h1]
    simp [aft, List.getElem?_eq_none (Nat.le_of_not_lt hl)]
  ·rfl

/-- What a row of rules covers. -/
theorem chain_cover {g : Gr} : ∀ {rs : List Rl} {i next e : Nat}, chain g rs i next = some e → next ≤ g.nodes.length →
  next ≤ e ∧ e ≤ g.nodes.length ∧ ∀ m, next ≤ m → m < e → ∃ e' h', aft g.nodes 16 m = some (e', h') := by
 intro rs
 induction rs with
 | nil => intro i next e h hn; simp only [chain, Option.some.injEq] at h; exact ⟨by omega, by omega, fun m _ _ => by omega⟩
 | cons r rs ih =>
  intro i next e h hn
  simp only [chain] at h
  split at h
  ·split at h
   ·cases h
   ·rename_i to hh hf
    have h1 := aft_cover hf
    have h2 := ih h h1.1
    have h3 := (aft_lt hf).1
    refine ⟨by omega, h2.2.1, fun m hm hme => ?_⟩
    by_cases hc : m < to
    ·obtain ⟨e', h', h4, _⟩ := h1.2 m hm hc
     exact ⟨e', h', h4⟩
    ·exact h2.2.2 m (by omega) hme
  ·cases h

theorem wholeT_some {g : Gr} {t : List (Nat × Nat)} (h : wholeT g = some t) : rightB g = true ∧ tab g.nodes = some t := by
 unfold wholeT at h
 split at h
 ·rename_i hs
  split at h
  ·cases h
  ·rename_i t' ht'
   split at h
   ·rename_i hc
    simp only [Option.some.injEq] at h
    subst h
    rw [← chain_eq (tab_ok ht')] at hc
    exact ⟨by simp only [rightB, hs, hc, Bool.and_self], ht'⟩
   ·cases h
 ·cases h
theorem wholeT_none {g : Gr} (h : wholeT g = none) : rightB g = false := by
 cases hr : rightB g with
 | false => rfl
 | true =>
  exfalso
  simp only [rightB, Bool.and_eq_true, beq_iff_eq] at hr
  obtain ⟨⟨hs, ha⟩, hc⟩ := hr
  have hcov := chain_cover hc (Nat.zero_le _)
  obtain ⟨t, ht⟩ := tabFrom_some (ns := g.nodes) (fun m hm => by obtain ⟨e, hh, h1⟩ := hcov.2.2 m (Nat.zero_le _) hm; exact ⟨16, e, hh, h1⟩) g.nodes.length 0 (by omega) (Nat.zero_le _)
  have ht' : tab g.nodes = some t := by simpa [tab] using ht
  unfold wholeT at h
  rw [if_pos (by simp only [hs, ha, Bool.and_self])] at h
  simp only [ht'] at h
  rw [← chain_eq (tab_ok ht'), hc] at h
  simp at h
theorem rightB_iff (g : Gr) : rightB g = (wholeT g).isSome := by
 cases h : wholeT g with
 | none => exact wholeT_none h
 | some t => exact (wholeT_some h).1
theorem right_tab {g : Gr} (h : rightB g = true) : ∃ t, wholeT g = some t ∧ tab g.nodes = some t ∧ TabOk g.nodes 0 t := by
 rw [rightB_iff] at h
 obtain ⟨t, ht⟩ := Option.isSome_iff_exists.1 h
 exact ⟨t, ht, (wholeT_some ht).2, tab_ok (wholeT_some ht).2⟩

/-! ### 5. Sizes, heights, owners -/
def sizeG (g : Gr) (n : Int) : Int := match wholeT g with | none => 0 | some t => if 0 ≤ n ∧ n < g.nodes.length then (((t[n.toNat]?).getD (0, 0)).1 : Int) else 0
/-- Of a right grammar: what the definition says of each node. -/
theorem right_aft {g : Gr} {t : List (Nat × Nat)} (h : wholeT g = some t) {n : Nat} (hn : n < g.nodes.length) : ∃ z h', t[n]? = some (z, h') ∧ 1 ≤ z ∧ 1 ≤ h' ∧ h' ≤ 16 ∧ aft g.nodes 16 n = some (n + z, h') := by
 obtain ⟨hr, ht⟩ := wholeT_some h
 obtain ⟨z, h', h1, hz, hh, h2⟩ := (tab_ok ht).2 n (Nat.zero_le _) hn
 simp only [rightB, Bool.and_eq_true, beq_iff_eq] at hr
 obtain ⟨e, h'', h3⟩ := (chain_cover hr.2 (Nat.zero_le _)).2.2 n (Nat.zero_le _) hn
 rw [h2] at h3
 split at h3
 ·rename_i hle
  exact ⟨z, h', by simpa using h1, hz, hh, hle, by rw [h2, if_pos hle]⟩
 ·cases h3
/-- Of a right grammar: each kid of a node stands behind it. -/
theorem kids_gt {F : Nat → Option (Nat × Nat)} (hF : ∀ n e h, F n = some (e, h) → n < e) : ∀ {ks : List Int} {next high e hh : Nat}, kidsAft F ks next high = some (e, hh) → ∀ k ∈ ks, (next : Int) ≤ k ∧ k < e := by
 intro ks
 induction ks with
 | nil => intro next high e hh h k hk; cases hk
 | cons k ks ih =>
  intro next high e hh h j hj
  simp only [kidsAft] at h
  split at h
  ·rename_i hk
   split at h
   ·cases h
   ·rename_i to h' hf
    have h1 := hF _ _ _ hf
    have h2 := (kidsAft_le (fun n e h h' => Nat.le_of_lt (hF n e h h')) h).1
    rcases List.mem_cons.1 hj with rfl | hj
    ·omega
    ·have := ih h j hj; omega
  ·cases h
theorem right_kids {g : Gr} (h : rightB g = true) {n : Nat} (hn : n < g.nodes.length) : ∀ k ∈ g.nodes[n].kids, (n : Int) < k ∧ k < g.nodes.length := by
 obtain ⟨t, ht, _, _⟩ := right_tab h
 obtain ⟨z, h', _, _, _, _, ha⟩ := right_aft ht hn
 have hc := (aft_cover ha).1
 rw [show (16 : Nat) = 15 + 1 from rfl, aft, List.getElem?_eq_getElem hn] at ha
 intro k hk
 have := kids_gt (fun n e h h' => (aft_lt h').1) ha k hk
 omega
theorem right_node {g : Gr} (h : rightB g = true) {n : Nat} (hn : n < g.nodes.length) : nodeB g.nodes[n] (g.rules.length : Int) = true := by
 simp only [rightB, allB, Bool.and_eq_true, List.all_eq_true] at h
 exact h.1.2 _ (List.getElem_mem hn)
theorem right_sizes {g : Gr} (h : rightB g = true) : 1 ≤ g.rules.length ∧ g.rules.length ≤ 32 ∧ g.nodes.length ≤ 2048 := by
 simp only [rightB, sizesB, Bool.and_eq_true, decide_eq_true_eq] at h
 exact ⟨h.1.1.1.1, h.1.1.1.2, h.1.1.2⟩
end Go.Proofs.YtlklmpjakeedcaaGreatDoor

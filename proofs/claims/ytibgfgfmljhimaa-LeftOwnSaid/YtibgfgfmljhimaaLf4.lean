/-
  The nodes at a node's own place, marked node by node, rise; a right grammar is a tree.
  Conditions: none.
-/
import Derived.Test.YtibgfgfmljhimaaLf0
import Derived.Test.YtibgfgfmljhimaaLfK
set_option linter.unusedVariables false
set_option linter.unusedSimpArgs false
set_option linter.unnecessarySimpa false
namespace Go.Proofs.Ytibgfgfmljhimaa

/-! ### A tree's kids, one behind the other -/
def Cov (E : Nat → Nat) (len : Nat) : List Int → Nat → Nat → Prop
  | [], a, e => a = e
  | k :: ks, a, e => k = (a : Int) ∧ a < len ∧ a < E a ∧ Cov E len ks (E a) e
theorem Cov.le {E : Nat → Nat} {len : Nat} : ∀ {ks : List Int} {a e : Nat}, Cov E len ks a e → a ≤ e := by
  intro ks
  induction ks with
  | nil => intro a e h; exact Nat.le_of_eq h
  | cons k ks ih => intro a e h; obtain ⟨_, _, h1, h2⟩ := h; have := ih h2; omega
theorem Cov.mem {E : Nat → Nat} {len : Nat} : ∀ {ks : List Int} {a e : Nat}, Cov E len ks a e → ∀ z ∈ ks, ∃ q : Nat, z = q ∧ q < len ∧ a ≤ q ∧ q < E q ∧ E q ≤ e := by
  intro ks
  induction ks with
  | nil => intro a e _ z hz; cases hz
  | cons k ks ih =>
    intro a e h z hz
    obtain ⟨h0, h1, h2, h3⟩ := h
    rcases List.mem_cons.1 hz with rfl | hz
    · exact ⟨a, h0, h1, Nat.le_refl _, h2, h3.le⟩
    · obtain ⟨q, e1, e2, e3, e4, e5⟩ := ih h3 z hz
      exact ⟨q, e1, e2, by omega, e4, e5⟩
theorem Cov.find {E : Nat → Nat} {len : Nat} : ∀ {ks : List Int} {a e : Nat}, Cov E len ks a e → ∀ j, a ≤ j → j < e → ∃ q : Nat, (q : Int) ∈ ks ∧ q ≤ j ∧ j < E q := by
  intro ks
  induction ks with
  | nil => intro a e h j h1 h2; have : a = e := h; omega
  | cons k ks ih =>
    intro a e h j h1 h2
    obtain ⟨h0, _, _, h3⟩ := h
    by_cases hj : j < E a
    · exact ⟨a, by simp [h0], h1, hj⟩
    · obtain ⟨q, q1, q2, q3⟩ := ih h3 j (by omega) h2
      exact ⟨q, by simp [q1], q2, q3⟩
theorem Cov.inside {E : Nat → Nat} {len : Nat} : ∀ {ks : List Int} {a e : Nat}, Cov E len ks a e → ∀ q : Nat, (q : Int) ∈ ks → ∀ j : Nat, q < j → j < E q → (j : Int) ∉ ks := by
  intro ks
  induction ks with
  | nil => intro a e h q hq; cases hq
  | cons k ks ih =>
    intro a e h q hq j h1 h2 hj
    obtain ⟨h0, _, h4, h3⟩ := h
    rcases List.mem_cons.1 hq with e1 | hq
    · obtain rfl : q = a := by omega
      rcases List.mem_cons.1 hj with e2 | hj
      · omega
      · obtain ⟨z, z1, _, z3, _⟩ := h3.mem _ hj; omega
    · obtain ⟨z, z1, _, z3, _⟩ := h3.mem _ hq
      rcases List.mem_cons.1 hj with e2 | hj
      · omega
      · exact ih h3 q hq j h1 h2 hj
/-- A tree of nodes. -/
structure TreeOk (ns : List Nd) (E : Nat → Nat) : Prop where
  cov : ∀ n (h : n < ns.length), Cov E ns.length ns[n].kids (n + 1) (E n)
  le : ∀ n, n < ns.length → n < E n ∧ E n ≤ ns.length
theorem TreeOk.falls {ns : List Nd} {E : Nat → Nat} (h : TreeOk ns E) : Falls ns := fun n hn k hk => by
  obtain ⟨q, rfl, h1, h2, _⟩ := (h.cov n hn).mem k hk
  omega
theorem TreeOk.nest {ns : List Nd} {E : Nat → Nat} (h : TreeOk ns E) : ∀ (d q p : Nat), ns.length - q ≤ d → q < ns.length → q ≤ p → p < E q → E p ≤ E q := by
  intro d
  induction d with
  | zero => intro q p _ _; omega
  | succ d ih =>
    intro q p hd hq h1 h2
    by_cases e : p = q
    · rw [e]; exact Nat.le_refl _
    · obtain ⟨z, z1, z2, z3⟩ := (h.cov q hq).find p (by omega) h2
      obtain ⟨y, y1, y2, y3, y4, y5⟩ := (h.cov q hq).mem _ z1
      obtain rfl : y = z := by omega
      exact Nat.le_trans (ih y p (by omega) y2 z2 z3) y5
theorem TreeOk.lone {ns : List Nd} {E : Nat → Nat} (h : TreeOk ns E) {p p' : Nat} (hp : p < ns.length) (hp' : p' < ns.length) {z : Int} (hz : z ∈ ns[p].kids) (hz' : z ∈ ns[p'].kids) : p = p' := by
  have key : ∀ {p p' : Nat} (hp : p < ns.length) (hp' : p' < ns.length) {z : Int}, z ∈ ns[p].kids → z ∈ ns[p'].kids → ¬ p < p' := by
    intro p p' hp hp' z hz hz' hlt
    obtain ⟨q, rfl, q2, q3, q4, q5⟩ := (h.cov p hp).mem z hz
    obtain ⟨q', e, r2, r3, r4, r5⟩ := (h.cov p' hp').mem _ hz'
    obtain rfl : q' = q := by omega
    obtain ⟨y, y1, y2, y3⟩ := (h.cov p hp).find p' (by omega) (by omega)
    obtain ⟨x, x1, x2, x3, x4, x5⟩ := (h.cov p hp).mem _ y1
    obtain rfl : x = y := by omega
    have := h.nest ns.length x p' (by omega) x2 y2 y3
    exact (h.cov p hp).inside x y1 q' (by omega) (by omega) hz
  rcases Nat.lt_trichotomy p p' with h1 | h1 | h1
  · exact absurd h1 (key hp hp' hz hz')
  · exact h1
  · exact absurd h1 (key hp' hp hz' hz)
/-- The open kids. -/
def openK (k : Int) (N : Int → Bool) : List Int → List Int
  | [] => []
  | z :: zs => z :: (if k = 6 ∧ N z = false then [] else openK k N zs)
theorem openK_sub (k : Int) (N : Int → Bool) : ∀ (zs : List Int), ∀ z ∈ openK k N zs, z ∈ zs := by
  intro zs
  induction zs with
  | nil => intro z h; cases h
  | cons y zs ih =>
    intro z h
    simp only [openK] at h
    rcases List.mem_cons.1 h with rfl | h
    · simp
    · split at h
      · cases h
      · simp [ih z h]
theorem kidsOwn_mem_iff {k : Int} {N : Int → Bool} {F : Int → List Int} {x : Int} : ∀ (zs : List Int), x ∈ kidsOwn k N F zs ↔ ∃ z ∈ openK k N zs, x ∈ F z := by
  intro zs
  induction zs with
  | nil => simp [kidsOwn, openK]
  | cons z zs ih =>
    simp only [kidsOwn, openK, List.mem_append, List.mem_cons]
    split
    · simp
    · rw [ih]
      constructor
      · rintro (h | ⟨y, h1, h2⟩)
        · exact ⟨z, .inl rfl, h⟩
        · exact ⟨y, .inr h1, h2⟩
      · rintro ⟨y, rfl | h1, h2⟩
        · exact .inl h2
        · exact .inr ⟨y, h1, h2⟩
theorem kidsOwn_sorted {E : Nat → Nat} {len : Nat} {k : Int} {N : Int → Bool} {F : Int → List Int} : ∀ {ks : List Int} {a e : Nat}, Cov E len ks a e → (∀ q : Nat, (q : Int) ∈ ks → (F q).Pairwise (· < ·) ∧ ∀ x ∈ F q, (q : Int) ≤ x ∧ x < E q) →
    (kidsOwn k N F ks).Pairwise (· < ·) ∧ ∀ x ∈ kidsOwn k N F ks, (a : Int) ≤ x ∧ x < e := by
  intro ks
  induction ks with
  | nil => intro a e _ _; exact ⟨.nil, fun x hx => by cases hx⟩
  | cons z ks ih =>
    intro a e h hF
    obtain ⟨rfl, h1, h2, h3⟩ := h
    have hz := hF a (by simp)
    obtain ⟨i1, i2⟩ := ih h3 (fun q hq => hF q (by simp [hq]))
    have hle := h3.le
    simp only [kidsOwn]
    constructor
    · rw [List.pairwise_append]
      refine ⟨hz.1, ?_, fun x hx y hy => ?_⟩
      · split
        · exact .nil
        · exact i1
      · split at hy
        · cases hy
        · have := i2 y hy
          have := hz.2 x hx
          omega
    · intro x hx
      rcases List.mem_append.1 hx with hx | hx
      · have := hz.2 x hx; omega
      · split at hx
        · cases hx
        · have := i2 x hx; omega
theorem ownN_sorted {ns : List Nd} {E : Nat → Nat} (h : TreeOk ns E) (N : Int → Bool) : ∀ (d n : Nat), ns.length - n ≤ d → n < ns.length → (ownN ns N n).Pairwise (· < ·) ∧ ∀ x ∈ ownN ns N n, (n : Int) ≤ x ∧ x < E n := by
  intro d
  induction d with
  | zero => intro n _ _; omega
  | succ d ih =>
    intro n hd hn
    rw [ownN_eq h.falls N hn]
    have hk := kidsOwn_sorted (k := ns[n].k) (N := N) (F := ownN ns N) (h.cov n hn) (fun q hq => by
      obtain ⟨y, y1, y2, y3, _⟩ := (h.cov n hn).mem _ hq
      obtain rfl : y = q := by omega
      exact ih y (by omega) y2)
    have hle := h.le n hn
    refine ⟨List.pairwise_cons.2 ⟨fun x hx => by have := hk.2 x hx; omega, hk.1⟩, fun x hx => ?_⟩
    rcases List.mem_cons.1 hx with rfl | hx
    · omega
    · have := hk.2 x hx; omega
theorem ownN_self {ns : List Nd} (hf : Falls ns) (N : Int → Bool) {n : Nat} (hn : n < ns.length) : (n : Int) ∈ ownN ns N n := by
  rw [ownN_eq hf N hn]; simp
/-- Who is at a node's own place: it, and the open kids of those there. -/
theorem ownN_iff {ns : List Nd} (hf : Falls ns) (N : Int → Bool) : ∀ (d n : Nat), ns.length - n ≤ d → n < ns.length → ∀ x : Int, x ∈ ownN ns N n ↔ x = n ∨ ∃ p : Nat, ∃ h : p < ns.length, (p : Int) ∈ ownN ns N n ∧ x ∈ openK ns[p].k N ns[p].kids := by
  intro d
  induction d with
  | zero => intro n _ _; omega
  | succ d ih =>
    intro n hd hn x
    rw [ownN_eq hf N hn]
    simp only [List.mem_cons, kidsOwn_mem_iff]
    have hz : ∀ z ∈ openK ns[n].k N ns[n].kids, ∃ q : Nat, z = q ∧ n < q ∧ q < ns.length := fun z hz => by
      obtain ⟨h1, h2⟩ := hf n hn z (openK_sub _ _ _ z hz)
      exact ⟨z.toNat, by omega, by omega, by omega⟩
    constructor
    · rintro (h | ⟨z, h1, h2⟩)
      · exact .inl h
      · obtain ⟨q, rfl, q1, q2⟩ := hz z h1
        rcases (ih q (by omega) q2 x).1 h2 with h3 | ⟨p, h3, h4, h5⟩
        · subst h3
          exact .inr ⟨n, hn, .inl rfl, h1⟩
        · exact .inr ⟨p, h3, .inr ⟨q, h1, h4⟩, h5⟩
    · rintro (h | ⟨p, h1, h2 | ⟨z, h2, h3⟩, h4⟩)
      · exact .inl h
      · obtain rfl : p = n := by omega
        obtain ⟨q, rfl, q1, q2⟩ := hz x h4
        exact .inr ⟨q, h4, ownN_self hf N q2⟩
      · obtain ⟨q, rfl, q1, q2⟩ := hz z h2
        exact .inr ⟨q, h2, (ih q (by omega) q2 x).2 (.inr ⟨p, h1, h3, h4⟩)⟩
/-! ### Marks -/
/-- Who is marked behind the nodes n to m. -/
def markM (ns : List Nd) (N : Int → Bool) (n m : Nat) (j : Nat) : Bool :=
  decide (j = n) || (List.range m).any fun p => decide ((p : Int) ∈ ownN ns N n) && match ns[p]? with | none => false | some x => decide ((j : Int) ∈ openK x.k N x.kids)
theorem markM_iff {ns : List Nd} {N : Int → Bool} {n m j : Nat} : markM ns N n m j = true ↔ j = n ∨ ∃ p, p < m ∧ ∃ h : p < ns.length, (p : Int) ∈ ownN ns N n ∧ (j : Int) ∈ openK ns[p].k N ns[p].kids := by
  simp only [markM, Bool.or_eq_true, decide_eq_true_eq, List.any_eq_true, List.mem_range, Bool.and_eq_true]
  refine or_congr Iff.rfl ⟨?_, ?_⟩
  · rintro ⟨p, h1, h2, h3⟩
    split at h3
    · cases h3
    · rename_i x hx
      obtain ⟨hl, rfl⟩ := List.getElem?_eq_some_iff.1 hx
      exact ⟨p, h1, hl, h2, by simpa using h3⟩
  · rintro ⟨p, h1, hl, h2, h3⟩
    refine ⟨p, h1, h2, ?_⟩
    rw [List.getElem?_eq_getElem hl]
    simpa using h3
/-- At its turn a node is marked just if it is there. -/
theorem markM_now {ns : List Nd} {E : Nat → Nat} (h : TreeOk ns E) (N : Int → Bool) {n m : Nat} (hn : n < ns.length) {j : Nat} (hj : j ≤ m) : markM ns N n m j = decide ((j : Int) ∈ ownN ns N n) := by
  rw [Bool.eq_iff_iff, markM_iff, decide_eq_true_eq, ownN_iff h.falls N ns.length n (by omega) hn]
  constructor
  · rintro (h1 | ⟨p, h1, h2, h3, h4⟩)
    · exact .inl (by omega)
    · exact .inr ⟨p, h2, h3, h4⟩
  · rintro (h1 | ⟨p, h2, h3, h4⟩)
    · exact .inl (by omega)
    · have := h.falls p h2 _ (openK_sub _ _ _ _ h4)
      exact .inr ⟨p, by omega, h2, h3, h4⟩
theorem markM_end {ns : List Nd} {E : Nat → Nat} (h : TreeOk ns E) (N : Int → Bool) {n : Nat} (hn : n < ns.length) (j : Nat) : markM ns N n (E n) j = decide ((j : Int) ∈ ownN ns N n) := by
  rw [Bool.eq_iff_iff, markM_iff, decide_eq_true_eq, ownN_iff h.falls N ns.length n (by omega) hn]
  constructor
  · rintro (h1 | ⟨p, h1, h2, h3, h4⟩)
    · exact .inl (by omega)
    · exact .inr ⟨p, h2, h3, h4⟩
  · rintro (h1 | ⟨p, h2, h3, h4⟩)
    · exact .inl (by omega)
    · have := (ownN_sorted h N ns.length n (by omega) hn).2 _ h3
      exact .inr ⟨p, by omega, h2, h3, h4⟩
/-- The first t kids of a node there. -/
def openT (k : Int) (N : Int → Bool) (zs : List Int) (t : Nat) : Bool := (zs.take t).all fun z => decide (k ≠ 6) || N z
theorem openT_succ {k : Int} {N : Int → Bool} {zs : List Int} {t : Nat} (ht : t < zs.length) : openT k N zs (t + 1) = (openT k N zs t && (decide (k ≠ 6) || N zs[t])) := by
  rw [openT, List.take_succ_eq_append_getElem ht, List.all_append]
  simp [openT]
theorem openK_at {k : Int} {N : Int → Bool} : ∀ {zs : List Int}, zs.Nodup → ∀ {t : Nat} (ht : t < zs.length), zs[t] ∈ openK k N zs ↔ openT k N zs t = true := by
  intro zs
  induction zs with
  | nil => intro _ t ht; cases ht
  | cons z zs ih =>
    intro hd t ht
    rw [List.nodup_cons] at hd
    cases t with
    | zero => simp [openK, openT]
    | succ t =>
      have ht' : t < zs.length := by simpa using ht
      have hne : zs[t] ≠ z := fun e => hd.1 (e ▸ List.getElem_mem ht')
      have h1 := ih hd.2 ht'
      simp only [List.getElem_cons_succ, openK, List.mem_cons, hne, false_or]
      have e : openT k N (z :: zs) (t + 1) = ((decide (k ≠ 6) || N z) && openT k N zs t) := by simp [openT]
      rw [e]
      by_cases hc : k = 6 ∧ N z = false
      · rw [if_pos hc]
        simp [hc.1, hc.2]
      · rw [if_neg hc, h1]
        have : (decide (k ≠ 6) || N z) = true := by
          rw [Bool.or_eq_true, decide_eq_true_eq]
          by_cases hk : k = 6
          · cases hN : N z with
            | true => exact .inr rfl
            | false => exact absurd ⟨hk, hN⟩ hc
          · exact .inl hk
        rw [this, Bool.true_and]
/-- Marks while a node's kids are gone through. -/
def markT (ns : List Nd) (N : Int → Bool) (n m t : Nat) (j : Nat) : Bool :=
  markM ns N n m j || match ns[m]? with | none => false | some x => decide ((j : Int) ∈ x.kids.take t) && decide ((j : Int) ∈ openK x.k N x.kids)
theorem markT_zero (ns : List Nd) (N : Int → Bool) (n m : Nat) (j : Nat) : markT ns N n m 0 j = markM ns N n m j := by
  unfold markT
  split <;> simp
theorem TreeOk.nodup {ns : List Nd} {E : Nat → Nat} (h : TreeOk ns E) {m : Nat} (hm : m < ns.length) : ns[m].kids.Nodup := by
  have key : ∀ (ks : List Int) (a e : Nat), Cov E ns.length ks a e → ks.Nodup := by
    intro ks
    induction ks with
    | nil => intro a e _; exact .nil
    | cons k ks ih =>
      intro a e hc
      obtain ⟨rfl, _, h2, h3⟩ := hc
      refine List.nodup_cons.2 ⟨fun hm => ?_, ih _ _ h3⟩
      obtain ⟨q, q1, _, q3, _⟩ := h3.mem _ hm
      omega
  exact key _ _ _ (h.cov m hm)
theorem markT_succ {ns : List Nd} {E : Nat → Nat} (h : TreeOk ns E) {N : Int → Bool} {n m t : Nat} (hn : n < ns.length) (hm : m < ns.length) (hnm : n ≤ m) (ht : t < ns[m].kids.length) {q : Nat} (hq : ns[m].kids[t] = (q : Int)) (j : Nat) :
    markT ns N n m (t + 1) j = if j = q then openT ns[m].k N ns[m].kids t else markT ns N n m t j := by
  have hx : ns[m]? = some ns[m] := List.getElem?_eq_getElem hm
  have hqm : (q : Int) ∈ ns[m].kids := by rw [← hq]; exact List.getElem_mem ht
  have hgt := h.falls m hm _ hqm
  have hno := openK_at (k := ns[m].k) (N := N) (h.nodup hm) ht
  rw [hq] at hno
  unfold markT
  rw [hx]
  simp only
  rw [List.take_succ_eq_append_getElem ht, hq]
  by_cases e : j = q
  · subst e
    rw [if_pos rfl]
    have hmark : markM ns N n m j = false := by
      rw [Bool.eq_false_iff]
      intro hmk
      rcases markM_iff.1 hmk with h1 | ⟨p, h1, h2, _, h4⟩
      · omega
      · have := h.lone h2 hm (openK_sub _ _ _ _ h4) hqm
        omega
    rw [hmark, Bool.false_or, Bool.eq_iff_iff]
    simp only [List.mem_append, List.mem_singleton, or_true, decide_true, Bool.true_and, decide_eq_true_eq]
    exact hno
  · rw [if_neg e]
    congr 1
    have : ¬ ((j : Int) = (q : Int)) := by omega
    simp [this]
theorem markT_end {ns : List Nd} {N : Int → Bool} {n m : Nat} (hm : m < ns.length) (hin : (m : Int) ∈ ownN ns N n) {t : Nat} (ht : ns[m].kids.length ≤ t) (j : Nat) : markT ns N n m t j = markM ns N n (m + 1) j := by
  have hx : ns[m]? = some ns[m] := List.getElem?_eq_getElem hm
  unfold markT
  rw [hx]
  simp only
  rw [List.take_of_length_le ht, Bool.eq_iff_iff, Bool.or_eq_true, markM_iff, markM_iff, Bool.and_eq_true, decide_eq_true_eq, decide_eq_true_eq]
  constructor
  · rintro ((h1 | ⟨p, h1, h2⟩) | ⟨_, h2⟩)
    · exact .inl h1
    · exact .inr ⟨p, by omega, h2⟩
    · exact .inr ⟨m, by omega, hm, hin, h2⟩
  · rintro (h1 | ⟨p, h1, h2, h3, h4⟩)
    · exact .inl (.inl h1)
    · by_cases e : p = m
      · subst e; exact .inr ⟨openK_sub _ _ _ _ h4, h4⟩
      · exact .inl (.inr ⟨p, by omega, h2, h3, h4⟩)
theorem markM_skip {ns : List Nd} {N : Int → Bool} {n m : Nat} (hin : (m : Int) ∉ ownN ns N n) (j : Nat) : markM ns N n m j = markM ns N n (m + 1) j := by
  rw [Bool.eq_iff_iff, markM_iff, markM_iff]
  constructor
  · rintro (h1 | ⟨p, h1, h2⟩)
    · exact .inl h1
    · exact .inr ⟨p, by omega, h2⟩
  · rintro (h1 | ⟨p, h1, h2, h3, h4⟩)
    · exact .inl h1
    · by_cases e : p = m
      · subst e; exact absurd h3 hin
      · exact .inr ⟨p, by omega, h2, h3, h4⟩
/-! ### A rising row is what it picks -/
theorem sorted_ext : ∀ {l m : List Int}, l.Pairwise (· < ·) → m.Pairwise (· < ·) → (∀ x, x ∈ l ↔ x ∈ m) → l = m := by
  intro l
  induction l with
  | nil =>
    intro m _ _ h
    cases m with
    | nil => rfl
    | cons b m => exact absurd ((h b).2 (by simp)) (by simp)
  | cons a l ih =>
    intro m hl hm h
    cases m with
    | nil => exact absurd ((h a).1 (by simp)) (by simp)
    | cons b m =>
      rw [List.pairwise_cons] at hl hm
      have e : a = b := by
        have h1 := (h a).1 (by simp)
        have h2 := (h b).2 (by simp)
        rcases List.mem_cons.1 h1 with h1 | h1
        · exact h1
        · rcases List.mem_cons.1 h2 with h2 | h2
          · exact h2.symm
          · have := hl.1 b h2
            have := hm.1 a h1
            omega
      subst e
      congr 1
      refine ih hl.2 hm.2 fun x => ?_
      constructor
      · intro hx
        rcases List.mem_cons.1 ((h x).1 (by simp [hx])) with h1 | h1
        · have := hl.1 x hx; omega
        · exact h1
      · intro hx
        rcases List.mem_cons.1 ((h x).2 (by simp [hx])) with h1 | h1
        · have := hm.1 x hx; omega
        · exact h1
theorem ownN_pick {ns : List Nd} {E : Nat → Nat} (h : TreeOk ns E) (N : Int → Bool) {n : Nat} (hn : n < ns.length) : ownN ns N n = pickL ns.length (fun j => decide ((j : Int) ∈ ownN ns N n)) := by
  refine sorted_ext (ownN_sorted h N ns.length n (by omega) hn).1 (pickL_sorted _ _) fun x => ?_
  rw [mem_pickL]
  constructor
  · intro hx
    obtain ⟨q, rfl, _, h2⟩ := ownN_in h.falls N hn x hx
    exact ⟨q, rfl, h2, by simpa using hx⟩
  · rintro ⟨q, rfl, _, h2⟩
    simpa using h2
/-! ### A right grammar is a tree -/
theorem kidsAft_cov {F : Nat → Option (Nat × Nat)} {E : Nat → Nat} {len : Nat} (hF : ∀ n e h, F n = some (e, h) → e = E n ∧ n < len ∧ n < e) : ∀ {ks : List Int} {next high e hh : Nat}, kidsAft F ks next high = some (e, hh) → Cov E len ks next e := by
  intro ks
  induction ks with
  | nil => intro next high e hh h; simp only [kidsAft, Option.some.injEq, Prod.mk.injEq] at h; exact h.1
  | cons k ks ih =>
    intro next high e hh h
    simp only [kidsAft] at h
    split at h
    · rename_i hk
      split at h
      · cases h
      · rename_i to h' hf
        obtain ⟨rfl, h1, h2⟩ := hF _ _ _ hf
        exact ⟨hk, h1, h2, ih h⟩
    · cases h
def endsG (g : Gr) (n : Nat) : Nat := n + (sizeG g n).toNat
theorem right_tree {g : Gr} (hr : rightB g = true) : TreeOk g.nodes (endsG g) := by
  obtain ⟨t, ht, _, _⟩ := right_tab hr
  have hsz : ∀ n, n < g.nodes.length → ∃ z h', 1 ≤ z ∧ endsG g n = n + z ∧ aft g.nodes 16 n = some (n + z, h') := by
    intro n hn
    obtain ⟨z, h', h1, h2, _, _, h5⟩ := right_aft ht hn
    refine ⟨z, h', h2, ?_, h5⟩
    unfold endsG sizeG
    rw [ht]
    simp only
    rw [if_pos (by omega), Int.toNat_natCast, Int.toNat_natCast, h1]
    simp
  refine ⟨fun n hn => ?_, fun n hn => ?_⟩
  · obtain ⟨z, h', h1, h2, h3⟩ := hsz n hn
    rw [h2]
    rw [show (16 : Nat) = 15 + 1 from rfl, aft, List.getElem?_eq_getElem hn] at h3
    refine kidsAft_cov (fun m e h hm => ?_) h3
    have hm16 := aft_mono (show 15 ≤ 16 by omega) hm
    have hml : m < g.nodes.length := by
      cases hx : g.nodes[m]? with
      | none => rw [show (16 : Nat) = 15 + 1 from rfl, aft, hx] at hm16; cases hm16
      | some x => exact (List.getElem?_eq_some_iff.1 hx).1
    obtain ⟨z', h'', k1, k2, k3⟩ := hsz m hml
    rw [k3] at hm16
    simp only [Option.some.injEq, Prod.mk.injEq] at hm16
    omega
  · obtain ⟨z, h', h1, h2, h3⟩ := hsz n hn
    rw [h2]
    have := (aft_cover h3).1
    omega
end Go.Proofs.Ytibgfgfmljhimaa
set_option linter.unusedVariables false
set_option linter.unusedSimpArgs false
set_option linter.unnecessarySimpa false
namespace Go.Proofs.Ytibgfgfmljhimaa

/-! ### A segment stands elsewhere -/
theorem kindMay_shift {x : Nd} {d : Int} {C D F G : Int → Bool} (hC : C x.r = D x.r) (hF : ∀ k ∈ x.kids, F (k + d) = G k) : kindMay (x.shift d) C F = kindMay x D G := by
  have h1 : (x.kids.map (· + d)).all F = x.kids.all G := by
    rw [List.all_map, Bool.eq_iff_iff, List.all_eq_true, List.all_eq_true]
    exact ⟨fun h k hk => by rw [← hF k hk]; exact h k hk, fun h k hk => by show F (k + d) = true; rw [hF k hk]; exact h k hk⟩
  have h2 : (x.kids.map (· + d)).any F = x.kids.any G := by
    rw [List.any_map, Bool.eq_iff_iff, List.any_eq_true, List.any_eq_true]
    exact ⟨fun ⟨k, hk, h⟩ => ⟨k, hk, by rw [← hF k hk]; exact h⟩, fun ⟨k, hk, h⟩ => ⟨k, hk, by show F (k + d) = true; rw [hF k hk]; exact h⟩⟩
  simp only [kindMay, Nd.shift, h1, h2, hC]
/-- The nodes from q to its end stand δ further on. -/
def SegAt (ns xs : List Nd) (E : Nat → Nat) (q : Nat) (δ : Int) : Prop := ∀ m p : Nat, q ≤ m → m < E q → (p : Int) = m + δ → xs[p]? = (ns[m]?).map (Nd.shift δ)
theorem seg_may {ns xs : List Nd} {E : Nat → Nat} (h : TreeOk ns E) (hx : Falls xs) {q : Nat} {δ : Int} (hq : q < ns.length) (hs : SegAt ns xs E q δ) {C D : Int → Bool} (hC : ∀ r, D r = C r) :
    ∀ (e n p : Nat), ns.length - n ≤ e → q ≤ n → n < E q → (p : Int) = n + δ → mayN xs D p = mayN ns C n := by
  have hE := (h.le q hq).2
  intro e
  induction e with
  | zero => intro n p h1 h2 h3; omega
  | succ e ih =>
    intro n p h1 h2 h3 hp
    have hn : n < ns.length := by omega
    have e1 := hs n p h2 h3 hp
    rw [List.getElem?_eq_getElem hn, Option.map_some] at e1
    obtain ⟨l1, e1⟩ := List.getElem?_eq_some_iff.1 e1
    rw [mayN_eq hx _ l1, mayN_eq h.falls _ hn, e1]
    refine kindMay_shift (hC _) (fun k hk => ?_)
    obtain ⟨j, rfl, j1, j2, j3, j4⟩ := (h.cov n hn).mem k hk
    have j5 := h.nest ns.length q n (by omega) hq h2 h3
    have hf := hx p l1 ((j : Int) + δ) (by rw [e1]; simp only [Nd.shift]; exact List.mem_map_of_mem hk)
    obtain ⟨r, hr⟩ : ∃ r : Nat, (j : Int) + δ = r := ⟨((j : Int) + δ).toNat, by omega⟩
    rw [hr]
    exact ih j r (by omega) (by omega) (by omega) hr.symm
theorem kidsOwn_shift {k : Int} {M N : Int → Bool} {F G : Int → List Int} {d : Int} : ∀ (zs : List Int), (∀ z ∈ zs, F (z + d) = (G z).map (· + d)) → (∀ z ∈ zs, M (z + d) = N z) → kidsOwn k M F (zs.map (· + d)) = (kidsOwn k N G zs).map (· + d) := by
  intro zs
  induction zs with
  | nil => intro _ _; rfl
  | cons z zs ih =>
    intro h1 h2
    simp only [List.map_cons, kidsOwn, List.map_append]
    rw [h1 z (by simp), h2 z (by simp), ih (fun q hq => h1 q (by simp [hq])) (fun q hq => h2 q (by simp [hq]))]
    congr 1
    split <;> simp
theorem seg_own {ns xs : List Nd} {E : Nat → Nat} (h : TreeOk ns E) (hx : Falls xs) {q : Nat} {δ : Int} (hq : q < ns.length) (hs : SegAt ns xs E q δ) {M N : Int → Bool} (hM : ∀ n p : Nat, q ≤ n → n < E q → (p : Int) = n + δ → M p = N n) :
    ∀ (e n p : Nat), ns.length - n ≤ e → q ≤ n → n < E q → (p : Int) = n + δ → ownN xs M p = (ownN ns N n).map (· + δ) := by
  have hE := (h.le q hq).2
  intro e
  induction e with
  | zero => intro n p h1 h2 h3; omega
  | succ e ih =>
    intro n p h1 h2 h3 hp
    have hn : n < ns.length := by omega
    have e1 := hs n p h2 h3 hp
    rw [List.getElem?_eq_getElem hn, Option.map_some] at e1
    obtain ⟨l1, e1⟩ := List.getElem?_eq_some_iff.1 e1
    rw [ownN_eq hx _ l1, ownN_eq h.falls _ hn, e1, List.map_cons, ← hp]
    congr 1
    have key : ∀ k ∈ ns[n].kids, ∃ j r : Nat, k = j ∧ n < j ∧ j < E q ∧ q ≤ j ∧ (r : Int) = j + δ := by
      intro k hk
      obtain ⟨j, rfl, j1, j2, j3, j4⟩ := (h.cov n hn).mem k hk
      have j5 := h.nest ns.length q n (by omega) hq h2 h3
      have hf := hx p l1 ((j : Int) + δ) (by rw [e1]; simp only [Nd.shift]; exact List.mem_map_of_mem hk)
      exact ⟨j, ((j : Int) + δ).toNat, rfl, by omega, by omega, by omega, by omega⟩
    refine kidsOwn_shift _ (fun z hz => ?_) (fun z hz => ?_)
    · obtain ⟨j, r, rfl, k1, k2, k3, k4⟩ := key z hz
      rw [← k4]
      exact ih j r (by omega) k3 k2 k4
    · obtain ⟨j, r, rfl, k1, k2, k3, k4⟩ := key z hz
      rw [← k4]
      exact hM j r k3 k2 k4
theorem wrap_seg {P : List Nd} {g : Gr} (hr : rightB g = true) {i : Nat} (hi : i < g.rules.length) : ∃ (oi q : Nat) (h : i < (wrapG P g).rules.length), g.rules[i].body = (q : Int) ∧ q < g.nodes.length ∧ (wrapG P g).rules[i].body = (oi : Int) ∧
    (∀ j (hj : j < P.length), (wrapG P g).nodes[oi + j]? = some (P[j].shift oi)) ∧ SegAt g.nodes (wrapG P g).nodes (endsG g) q ((oi : Int) + P.length - q) := by
  obtain ⟨q, hq, hqn⟩ := right_body hr hi
  obtain ⟨t, ht, htab, -⟩ := right_tab hr
  obtain ⟨z, hh, hz0, hz1, -, -, hz2⟩ := right_aft ht hqn
  obtain ⟨e1, e2⟩ := bodyOf_at hr hz2
  obtain ⟨s1, s2, s3⟩ := size_aft hr hz2
  have hE : endsG g q = q + z := by unfold endsG; rw [s1]; simp
  have hl : i < (wrapL P g).length := by simpa [wrapL] using hi
  obtain ⟨oi, h1, h2, h3⟩ := gram_at (wrapL P g) 0 i hl
  obtain ⟨h4, h5⟩ := List.getElem?_eq_some_iff.1 h1
  have hrl : i < (wrapG P g).rules.length := by rw [wrap_rules]; exact hi
  have hw : (wrapL P g)[i] = P ++ movedL (bodyOf g q) P.length := by simp [wrapL, hq]
  have hbl : (P ++ movedL (bodyOf g q) P.length).length = P.length + (q + z - q) := by rw [List.length_append, movedL_len, e2]
  have hget : ∀ j (hj : j < (P ++ movedL (bodyOf g q) P.length).length), (wrapG P g).nodes[oi + j]? = some (((P ++ movedL (bodyOf g q) P.length)[j]).shift oi) := by
    intro j hj
    have := h3 j (by rw [hw]; exact hj)
    rw [Nat.sub_zero] at this
    simp only [hw] at this
    exact this
  refine ⟨oi, q, hrl, hq, hqn, by simp only [wrapG, wrapR, List.getElem_zipWith]; exact h5, fun j hj => ?_, fun m p hm1 hm2 hp => ?_⟩
  · rw [hget j (by rw [hbl]; omega)]
    congr 2
    rw [List.getElem_append_left hj]
  · rw [hE] at hm2
    rw [show p = oi + (P.length + (m - q)) by omega, hget _ (by rw [hbl]; omega)]
    rw [List.getElem_append_right (by omega)]
    simp only [Nat.add_sub_cancel_left]
    have hml : m < g.nodes.length := by omega
    rw [List.getElem?_eq_getElem hml, Option.map_some]
    congr 1
    have h9 : (movedL (bodyOf g q) (P.length : Int)) = ((g.nodes.drop q).take (q + z - q)).map (Nd.shift (-(q : Int) + (P.length : Int))) := by
      rw [e1, movedL_movedL]; rfl
    simp only [h9, List.getElem_map, List.getElem_take, List.getElem_drop, shift_shift]
    simp only [show q + (m - q) = m by omega]
    congr 1
    omega
/-! ### A byte ahead: none is called -/
theorem hard_own {g : Gr} (hr : rightB g = true) (hx : rightB (wrapG hardP g) = true) : ∀ r ∈ (wrapG hardP g).rules, callsG (wrapG hardP g) r.body = [] := by
  intro r hm
  obtain ⟨i, hi, rfl⟩ := List.mem_iff_getElem.1 hm
  obtain ⟨oi, q, h, h1, h2, h3, h4, h5⟩ := wrap_seg (P := hardP) hr (i := i) (by rw [← wrap_rules hardP]; exact hi)
  have n0 : (wrapG hardP g).nodes[oi]? = some (Nd.shift oi { bareN 6 with kids := [1, 2] }) := h4 0 (by decide)
  have n1 : (wrapG hardP g).nodes[oi + 1]? = some (Nd.shift oi (bareN 2)) := h4 1 (by decide)
  obtain ⟨l0, n0⟩ := List.getElem?_eq_some_iff.1 n0
  obtain ⟨l1, n1⟩ := List.getElem?_eq_some_iff.1 n1
  have hf := falls_right hx
  have m1 : mayG (wrapG hardP g) ((oi + 1 : Nat) : Int) = false := by rw [mayG, mayR, mayN_eq hf _ l1, n1]; rfl
  have o1 : ownG (wrapG hardP g) ((oi + 1 : Nat) : Int) = [((oi + 1 : Nat) : Int)] := by rw [ownG, ownN_eq hf _ l1, n1]; rfl
  have e : ∀ k : Int, 1 + k = k + 1 := fun k => by omega
  have o0 : ownG (wrapG hardP g) (oi : Int) = [(oi : Int), ((oi + 1 : Nat) : Int)] := by
    rw [ownG, ownN_eq hf _ l0, n0]
    simp only [Nd.shift, bareN, List.map_cons, List.map_nil, kidsOwn]
    rw [show (1 : Int) + oi = ((oi + 1 : Nat) : Int) by omega, m1, if_pos ⟨trivial, rfl⟩]
    have := o1
    rw [ownG] at this
    rw [this]; rfl
  rw [h3]
  unfold callsG
  rw [o0]
  have c0 : ∀ r, isCall (wrapG hardP g).nodes oi r = false := fun r => by rw [isCall_at l0, n0]; rfl
  have c1 : ∀ r, isCall (wrapG hardP g).nodes ((oi + 1 : Nat) : Int) r = false := fun r => by rw [isCall_at l1, n1]; rfl
  simp only [List.any_cons, List.any_nil, c0, c1, Bool.or_false, pickL]
  decide
theorem hard_graph {g : Gr} (hr : rightB g = true) (hx : rightB (wrapG hardP g) = true) : graphG (wrapG hardP g) = List.replicate g.rules.length [] := by
  rw [graphG, if_pos hx]
  refine List.ext_getElem (by simp [wrap_rules]) (fun i h1 h2 => ?_)
  rw [List.getElem_map, List.getElem_replicate]
  exact hard_own hr hx _ (List.getElem_mem _)
theorem hard_goes {g : Gr} (hr : rightB g = true) (hx : rightB (wrapG hardP g) = true) (i : Nat) (hi : i < g.rules.length) : goesB (wrapG hardP g) i = false := by
  rw [Bool.eq_false_iff]
  intro h
  have hl : i < (wrapG hardP g).rules.length := by rw [wrap_rules]; exact hi
  have t := (goesB_iff hx hl).1 h
  rw [hard_graph hr hx] at t
  have key : ∀ {a b : Nat}, Tr (List.replicate g.rules.length []) a b → False := by
    intro a b t
    have e : ∀ a : Nat, (List.replicate g.rules.length ([] : List Int)).getD a [] = [] := fun a => by
      rw [List.getD, List.getElem?_replicate]
      split <;> rfl
    cases t with
    | one h => rw [e] at h; cases h
    | step h _ => rw [e] at h; cases h
  exact key t
/-! ### Nothing ahead, looked at: the same are called -/
def softQ : List Nd := [{ bareN 6 with kids := [1, 3] }, { bareN 12 with kids := [2] }, bareN 1]
theorem softQ_rk {g : Gr} (hr : rightB g = true) (hx : rightB (wrapG softQ g) = true) : ∀ j i, rk (wrapG softQ g) j i = rk g j i := by
  have hf := falls_right hx
  intro j
  induction j with
  | zero => intro i; rfl
  | succ j ih =>
    intro i
    by_cases hi : i < g.rules.length
    · obtain ⟨oi, q, h, h1, h2, h3, h4, h5⟩ := wrap_seg (P := softQ) hr hi
      have n0 : (wrapG softQ g).nodes[oi]? = some (Nd.shift oi { bareN 6 with kids := [1, 3] }) := h4 0 (by decide)
      have n1 : (wrapG softQ g).nodes[oi + 1]? = some (Nd.shift oi { bareN 12 with kids := [2] }) := h4 1 (by decide)
      obtain ⟨l0, n0⟩ := List.getElem?_eq_some_iff.1 n0
      obtain ⟨l1, n1⟩ := List.getElem?_eq_some_iff.1 n1
      have hC : ∀ r, callsR (wrapG softQ g) j r = callsR g j r := fun r => by simp only [callsR, ih]
      have hE := (right_tree hr).le q h2
      have m1 : mayN (wrapG softQ g).nodes (callsR (wrapG softQ g) j) ((oi + 1 : Nat) : Int) = true := by rw [mayN_eq hf _ l1, n1]; rfl
      have m3 : mayN (wrapG softQ g).nodes (callsR (wrapG softQ g) j) ((oi + 3 : Nat) : Int) = mayN g.nodes (callsR g j) q :=
        seg_may (right_tree hr) hf h2 h5 hC g.nodes.length q (oi + 3) (by omega) (Nat.le_refl _) hE.1 (by simp [softQ]; omega)
      have m0 : mayR (wrapG softQ g) j (oi : Int) = mayR g j q := by
        rw [mayR, mayN_eq hf _ l0, n0]
        simp only [kindMay, easyK, Nd.shift, bareN, List.map_cons, List.map_nil, List.all_cons, List.all_nil]
        rw [show (1 : Int) + oi = ((oi + 1 : Nat) : Int) by omega, show (3 : Int) + oi = ((oi + 3 : Nat) : Int) by omega, m1, m3]
        simp [mayR]
      rw [rk_step _ j h, rk_step _ j hi, ih i, h3, h1, m0]
    · rw [rk_out (wrapG softQ g) _ (by rw [wrap_rules]; omega), rk_out g _ (by omega)]
theorem softQ_calls {g : Gr} (hr : rightB g = true) (hx : rightB (wrapG softQ g) = true) {i : Nat} (hi : i < g.rules.length) (h' : i < (wrapG softQ g).rules.length) : callsG (wrapG softQ g) (wrapG softQ g).rules[i].body = callsG g g.rules[i].body := by
  have hf := falls_right hx
  have ht := right_tree hr
  obtain ⟨oi, q, h, h1, h2, h3, h4, h5⟩ := wrap_seg (P := softQ) hr hi
  have n0 : (wrapG softQ g).nodes[oi]? = some (Nd.shift oi { bareN 6 with kids := [1, 3] }) := h4 0 (by decide)
  have n1 : (wrapG softQ g).nodes[oi + 1]? = some (Nd.shift oi { bareN 12 with kids := [2] }) := h4 1 (by decide)
  have n2 : (wrapG softQ g).nodes[oi + 2]? = some (Nd.shift oi (bareN 1)) := h4 2 (by decide)
  obtain ⟨l0, n0⟩ := List.getElem?_eq_some_iff.1 n0
  obtain ⟨l1, n1⟩ := List.getElem?_eq_some_iff.1 n1
  obtain ⟨l2, n2⟩ := List.getElem?_eq_some_iff.1 n2
  have hC : ∀ r, callsR (wrapG softQ g) (wrapG softQ g).rules.length r = callsR g g.rules.length r := fun r => by simp only [callsR, wrap_rules, softQ_rk hr hx]
  have hE := ht.le q h2
  have hlen : ((oi + 3 : Nat) : Int) = (q : Int) + ((oi : Int) + softQ.length - q) := by simp [softQ]; omega
  have hM : ∀ n p : Nat, q ≤ n → n < endsG g q → (p : Int) = n + ((oi : Int) + softQ.length - q) → mayG (wrapG softQ g) p = mayG g n := fun n p k1 k2 k3 =>
    seg_may ht hf h2 h5 hC g.nodes.length n p (by omega) k1 k2 k3
  have m1 : mayG (wrapG softQ g) ((oi + 1 : Nat) : Int) = true := by rw [mayG, mayR, mayN_eq hf _ l1, n1]; rfl
  have o2 : ownG (wrapG softQ g) ((oi + 2 : Nat) : Int) = [((oi + 2 : Nat) : Int)] := by rw [ownG, ownN_eq hf _ l2, n2]; rfl
  have o1 : ownG (wrapG softQ g) ((oi + 1 : Nat) : Int) = [((oi + 1 : Nat) : Int), ((oi + 2 : Nat) : Int)] := by
    rw [ownG, ownN_eq hf _ l1, n1]
    simp only [Nd.shift, bareN, List.map_cons, List.map_nil, kidsOwn]
    rw [show (2 : Int) + oi = ((oi + 2 : Nat) : Int) by omega]
    have := o2
    rw [ownG] at this
    rw [this]; simp
  have o3 : ownG (wrapG softQ g) ((oi + 3 : Nat) : Int) = (ownG g q).map (· + ((oi : Int) + softQ.length - q)) :=
    seg_own ht hf h2 h5 hM g.nodes.length q (oi + 3) (by omega) (Nat.le_refl _) hE.1 hlen
  have o0 : ownG (wrapG softQ g) (oi : Int) = (oi : Int) :: ((oi + 1 : Nat) : Int) :: ((oi + 2 : Nat) : Int) :: (ownG g q).map (· + ((oi : Int) + softQ.length - q)) := by
    rw [← o3]
    rw [ownG, ownN_eq hf _ l0, n0]
    simp only [Nd.shift, bareN, List.map_cons, List.map_nil, kidsOwn]
    rw [show (1 : Int) + oi = ((oi + 1 : Nat) : Int) by omega, show (3 : Int) + oi = ((oi + 3 : Nat) : Int) by omega, m1, if_neg (by simp)]
    have := o1
    rw [ownG] at this
    rw [this]
    simp [ownG]
  rw [h3, h1]
  unfold callsG
  rw [o0]
  have c0 : ∀ r, isCall (wrapG softQ g).nodes oi r = false := fun r => by rw [isCall_at l0, n0]; rfl
  have c1 : ∀ r, isCall (wrapG softQ g).nodes ((oi + 1 : Nat) : Int) r = false := fun r => by rw [isCall_at l1, n1]; rfl
  have c2 : ∀ r, isCall (wrapG softQ g).nodes ((oi + 2 : Nat) : Int) r = false := fun r => by rw [isCall_at l2, n2]; rfl
  simp only [List.any_cons, c0, c1, c2, Bool.false_or, List.any_map]
  congr 1
  funext r
  rw [Bool.eq_iff_iff, List.any_eq_true, List.any_eq_true]
  have hsub : ∀ x ∈ ownG g q, isCall (wrapG softQ g).nodes (x + ((oi : Int) + softQ.length - q)) r = isCall g.nodes x r := by
    intro x hx2
    obtain ⟨n, rfl, k1, k2⟩ := ownN_in ht.falls (mayG g) h2 x hx2
    have k3 := (ownN_sorted ht (mayG g) g.nodes.length q (by omega) h2).2 _ hx2
    obtain ⟨p, hp⟩ : ∃ p : Nat, (n : Int) + ((oi : Int) + softQ.length - q) = p := ⟨((n : Int) + ((oi : Int) + softQ.length - q)).toNat, by simp [softQ]; omega⟩
    have hs := h5 n p k1 (by omega) hp.symm
    rw [hp]
    simp only [isCall, Int.toNat_natCast, hs]
    rw [List.getElem?_eq_getElem k2]
    rfl
  constructor
  · rintro ⟨x, hx2, hc⟩
    exact ⟨x, hx2, by rw [← hsub x hx2]; exact hc⟩
  · rintro ⟨x, hx2, hc⟩
    exact ⟨x, hx2, by show isCall _ _ _ = true; rw [hsub x hx2]; exact hc⟩
theorem softQ_graph {g : Gr} (hr : rightB g = true) (hx : rightB (wrapG softQ g) = true) : graphG (wrapG softQ g) = graphG g := by
  rw [graphG, if_pos hx, graphG, if_pos hr]
  refine List.ext_getElem (by simp [wrap_rules]) (fun i h1 h2 => ?_)
  rw [List.getElem_map, List.getElem_map]
  exact softQ_calls hr hx (by simpa using h2) _
end Go.Proofs.Ytibgfgfmljhimaa

/-
  The walk comes to each rule by the shortest row, the first of the shortest.
  Conditions: none.
-/
import Derived.Test.YtibgfgfmljhimaaGreatLeLfH
import Derived.Test.YtibgfgfmljhimaaGreatLeLf4
import Derived.Test.YtibgfgfmljhimaaGreatLeGRule
set_option linter.unusedVariables false
set_option linter.unusedSimpArgs false
set_option linter.unnecessarySimpa false
namespace Go.Proofs.YtibgfgfmljhimaaGreat

/-! ### Rows of rules, the last one first: which is shorter, or asx short and ahead -/
def LT : List Int → List Int → Prop
  | a :: asx, b :: bs => LT asx bs ∨ (asx = bs ∧ a < b)
  | _, _ => False
def SL (p q : List Int) : Prop := p.length < q.length ∨ (p.length = q.length ∧ LT p q)
def SLe (p q : List Int) : Prop := SL p q ∨ p = q
theorem LT.irr : ∀ (p : List Int), ¬ LT p p := by
  intro p
  induction p with
  | nil => intro h; cases h
  | cons a asx ih =>
    intro h
    rcases h with h | ⟨_, h⟩
    · exact ih h
    · omega
theorem LT.trans : ∀ {p q r : List Int}, LT p q → LT q r → LT p r := by
  intro p
  induction p with
  | nil => intro q r h; cases h
  | cons a asx ih =>
    intro q r h k
    cases q with
    | nil => cases h
    | cons b bs =>
      cases r with
      | nil => cases k
      | cons c cs =>
        rcases h with h | ⟨rfl, h⟩
        · rcases k with k | ⟨rfl, k⟩
          · exact .inl (ih h k)
          · exact .inl h
        · rcases k with k | ⟨rfl, k⟩
          · exact .inl k
          · exact .inr ⟨rfl, by omega⟩
theorem SL.irr (p : List Int) : ¬ SL p p := by
  rintro (h | ⟨_, h⟩)
  · omega
  · exact LT.irr p h
theorem SL.trans {p q r : List Int} (h : SL p q) (k : SL q r) : SL p r := by
  rcases h with h | ⟨h1, h2⟩
  · rcases k with k | ⟨k1, k2⟩
    · exact .inl (by omega)
    · exact .inl (by omega)
  · rcases k with k | ⟨k1, k2⟩
    · exact .inl (by omega)
    · exact .inr ⟨by omega, h2.trans k2⟩
theorem SLe.trans {p q r : List Int} (h : SLe p q) (k : SLe q r) : SLe p r := by
  rcases h with h | rfl
  · rcases k with k | rfl
    · exact .inl (h.trans k)
    · exact .inl h
  · exact k
theorem SLe.anti {p q : List Int} (h : SLe p q) (k : SLe q p) : p = q := by
  rcases h with h | rfl
  · rcases k with k | rfl
    · exact absurd (h.trans k) (SL.irr p)
    · rfl
  · rfl
theorem SL.cons {p q : List Int} (h : SL p q) (a b : Int) : SL (a :: p) (b :: q) := by
  rcases h with h | ⟨h1, h2⟩
  · exact .inl (by simpa using h)
  · exact .inr ⟨by simpa using h1, .inl h2⟩
theorem SLe.cons {p q : List Int} (h : SLe p q) (a : Int) : SLe (a :: p) (a :: q) := by
  rcases h with h | rfl
  · exact .inl (h.cons a a)
  · exact .inr rfl
theorem SL.head {a b : Int} (h : a < b) (p : List Int) : SL (a :: p) (b :: p) := .inr ⟨rfl, .inr ⟨rfl, h⟩⟩
theorem LT.snoc : ∀ {p q : List Int} (a b : Int), p.length = q.length → (LT (p ++ [a]) (q ++ [b]) ↔ a < b ∨ (a = b ∧ LT p q)) := by
  intro p
  induction p with
  | nil =>
    intro q a b h
    cases q with
    | nil => simp [LT]
    | cons => cases h
  | cons x xs ih =>
    intro q a b h
    cases q with
    | nil => cases h
    | cons y ys =>
      have hl : xs.length = ys.length := by simpa using h
      simp only [List.cons_append, LT]
      rw [ih a b hl]
      constructor
      · rintro ((h | ⟨h1, h2⟩) | ⟨h1, h2⟩)
        · exact .inl h
        · exact .inr ⟨h1, .inl h2⟩
        · obtain ⟨e1, e2⟩ := List.append_inj h1 hl
          simp only [List.cons.injEq, and_true] at e2
          exact .inr ⟨e2, .inr ⟨e1, h2⟩⟩
      · rintro (h | ⟨h1, h2 | ⟨h2, h3⟩⟩)
        · exact .inl (.inl h)
        · exact .inl (.inr ⟨h1, h2⟩)
        · exact .inr ⟨by rw [h1, h2], h3⟩
theorem SLe.snoc {p q : List Int} {a : Int} : SLe (p ++ [a]) (q ++ [a]) ↔ SLe p q := by
  constructor
  · rintro ((h | ⟨h1, h2⟩) | h)
    · exact .inl (.inl (by simpa using h))
    · have hl : p.length = q.length := by simpa using h1
      rcases (LT.snoc a a hl).1 h2 with h | ⟨_, h⟩
      · omega
      · exact .inl (.inr ⟨hl, h⟩)
    · exact .inr (List.append_cancel_right h)
  · rintro ((h | ⟨h1, h2⟩) | h)
    · exact .inl (.inl (by simpa using h))
    · exact .inl (.inr ⟨by simpa using h1, (LT.snoc a a h1).2 (.inr ⟨rfl, h2⟩)⟩)
    · exact .inr (by rw [h])

/-- A way on, the last rule first. -/
inductive Wks (G : List (List Int)) (i : Nat) : List Int → Prop
  | one {z : Int} (h : z ∈ G.getD i []) : Wks G i [z]
  | more {z y : Int} {p : List Int} (w : Wks G i (y :: p)) (h : z ∈ G.getD y.toNat []) : Wks G i (z :: y :: p)
theorem Wks.ne {G : List (List Int)} {i : Nat} {p : List Int} (h : Wks G i p) : p ≠ [] := by cases h <;> simp
/-- Its far end. -/
theorem Wks.first {G : List (List Int)} {i : Nat} {p : List Int} (h : Wks G i p) : ∃ q v, p = q ++ [v] ∧ v ∈ G.getD i [] ∧ (q = [] ∨ Wks G v.toNat q) := by
  induction h with
  | one h => exact ⟨[], _, rfl, h, .inl rfl⟩
  | @more z y p w h ih =>
    obtain ⟨q, v, e, hv, hq⟩ := ih
    refine ⟨z :: q, v, by rw [e]; rfl, hv, .inr ?_⟩
    rcases hq with rfl | hq
    · simp only [List.nil_append, List.cons.injEq] at e
      obtain ⟨rfl, rfl⟩ := e
      exact .one h
    · cases q with
      | nil => cases hq.ne rfl
      | cons y' q' =>
        simp only [List.cons_append, List.cons.injEq] at e
        obtain ⟨rfl, _⟩ := e
        exact .more hq h
theorem Wks.ahead {G : List (List Int)} {i : Nat} {v : Int} {q : List Int} (hv : v ∈ G.getD i []) (h : Wks G v.toNat q) : Wks G i (q ++ [v]) := by
  induction h with
  | one h => exact .more (.one hv) h
  | more w h ih => exact .more ih h

/-! ### The walk's steps, with the row of each -/
structure Link (ss : List Stp) (P : List (List Int)) : Prop where
  len : P.length = ss.length
  back : ∀ j (h : j < ss.length), -1 ≤ ss[j].2 ∧ ss[j].2 < j
  at_ : ∀ j (h : j < ss.length) (h' : j < P.length), P[j] = ss[j].1 :: (if ss[j].2 < 0 then [] else P.getD ss[j].2.toNat [])
structure BInv (G : List (List Int)) (i : Nat) (ss : List Stp) (P : List (List Int)) : Prop where
  link : Link ss P
  wk : ∀ p ∈ P, Wks G i p
  sorted : P.Pairwise SL
def Met (P : List (List Int)) (z : Int) (p : List Int) : Prop := ∃ q ∈ P, q.head? = some z ∧ SLe q p
theorem Met.more {P Q : List (List Int)} {z : Int} {p : List Int} (h : Met P z p) (hs : ∀ q ∈ P, q ∈ Q) : Met Q z p := by
  obtain ⟨q, h1, h2⟩ := h
  exact ⟨q, hs q h1, h2⟩
theorem on1_inv {n : Nat} {G : List (List Int)} {i : Nat} {st : Bst} {P : List (List Int)} (hok : BstOk n st) (h : BInv G i st.2 P) {fr z : Int} (h0 : 0 ≤ z) (hz : z < n) {q : List Int} (hf1 : -1 ≤ fr) (hf2 : fr < st.2.length)
    (hq : q = if fr < 0 then [] else P.getD fr.toNat []) (hw : Wks G i (z :: q)) (hp : ∀ p ∈ P, SL p (z :: q)) :
    ∃ P', BInv G i (on1 fr z st).2 P' ∧ P <+: P' ∧ Met P' z (z :: q) ∧ (∀ p ∈ P', p ∈ P ∨ p = z :: q) ∧ st.2.length ≤ (on1 fr z st).2.length := by
  by_cases hm : st.1.getD z.toNat false = true
  · have e : on1 fr z st = st := by unfold on1; rw [if_pos hm]
    rw [e]
    refine ⟨P, h, List.prefix_refl _, ?_, fun p hp => .inl hp, Nat.le_refl _⟩
    have hr := (hok.met z.toNat).1 hm
    rw [Int.toNat_of_nonneg h0] at hr
    obtain ⟨s, hs, hsz⟩ := List.mem_map.1 hr
    obtain ⟨j, hj, rfl⟩ := List.mem_iff_getElem.1 hs
    have hj' : j < P.length := by rw [h.link.len]; exact hj
    refine ⟨P[j], List.getElem_mem hj', ?_, .inl (hp _ (List.getElem_mem hj'))⟩
    rw [h.link.at_ j hj hj', hsz]
    rfl
  · have e : (on1 fr z st).2 = st.2 ++ [(z, fr)] := by unfold on1; rw [if_neg hm]
    rw [e]
    have hP := h.link.len
    refine ⟨P ++ [z :: q], ⟨⟨by simp [hP], ?_, ?_⟩, ?_, ?_⟩, List.prefix_append _ _, ⟨z :: q, by simp, rfl, .inr rfl⟩, ?_, by simp⟩
    · intro j hj
      by_cases hl : j < st.2.length
      · rw [List.getElem_append_left hl]; exact h.link.back j hl
      · obtain rfl : j = st.2.length := by simp at hj; omega
        rw [List.getElem_append_right (Nat.le_refl _)]
        simp only [Nat.sub_self, List.getElem_cons_zero]
        exact ⟨hf1, hf2⟩
    · intro j hj hj'
      by_cases hl : j < st.2.length
      · have hb := h.link.back j hl
        rw [List.getElem_append_left hl, List.getElem_append_left (by omega), h.link.at_ j hl (by omega)]
        congr 1
        split
        · rfl
        · rw [List.getD, List.getD, List.getElem?_append_left (by omega)]
      · obtain rfl : j = st.2.length := by simp at hj; omega
        rw [List.getElem_append_right (Nat.le_refl _), List.getElem_append_right (by omega)]
        simp only [Nat.sub_self, List.getElem_cons_zero, hP]
        rw [hq]
        split
        · rfl
        · rw [List.getD, List.getD, List.getElem?_append_left (by omega)]
    · intro p hpm
      rcases List.mem_append.1 hpm with hpm | hpm
      · exact h.wk p hpm
      · simp only [List.mem_singleton] at hpm
        subst hpm
        exact hw
    · rw [List.pairwise_append]
      refine ⟨h.sorted, by simp, fun a ha b hb => ?_⟩
      simp only [List.mem_singleton] at hb
      subst hb
      exact hp a ha
    · intro p hpm
      rcases List.mem_append.1 hpm with hpm | hpm
      · exact .inl hpm
      · simp only [List.mem_singleton] at hpm
        exact .inr hpm
theorem onL_inv {n : Nat} {G : List (List Int)} {i : Nat} {fr : Int} {q : List Int} (hf1 : -1 ≤ fr) : ∀ (zs : List Int) {st : Bst} {P : List (List Int)}, BstOk n st → BInv G i st.2 P → fr < st.2.length →
    (q = if fr < 0 then [] else P.getD fr.toNat []) → (∀ z ∈ zs, 0 ≤ z ∧ z < n ∧ Wks G i (z :: q)) → zs.Pairwise (· < ·) → (∀ p ∈ P, ∀ z ∈ zs, SL p (z :: q)) →
    ∃ P', BInv G i (onL fr zs st).2 P' ∧ P <+: P' ∧ (∀ z ∈ zs, Met P' z (z :: q)) ∧ (∀ p ∈ P', p ∈ P ∨ ∃ z ∈ zs, p = z :: q) := by
  intro zs
  induction zs with
  | nil => intro st P _ h _ _ _ _ _; exact ⟨P, h, List.prefix_refl _, fun z hz => (by cases hz), fun p hp => .inl hp⟩
  | cons z zs ih =>
    intro st P hok h hf2 hq hz hs hp
    obtain ⟨z0, z1, hw⟩ := hz z (by simp)
    rw [List.pairwise_cons] at hs
    obtain ⟨P1, h1, h2, h3, h4, h5⟩ := on1_inv hok h z0 z1 hf1 hf2 hq hw (fun p hpm => hp p hpm z (by simp))
    have hq1 : q = if fr < 0 then [] else P1.getD fr.toNat [] := by
      rw [hq]
      split
      · rfl
      · have hl : fr.toNat < P.length := by rw [h.link.len]; omega
        rw [List.getD, List.getD, List.getElem?_eq_getElem hl, List.getElem?_eq_getElem (Nat.lt_of_lt_of_le hl h2.length_le), h2.getElem hl]
    obtain ⟨P2, k1, k2, k3, k4⟩ := ih (on1_ok hok fr z0 z1) h1 (by omega) hq1 (fun y hy => hz y (by simp [hy])) hs.2 (fun p hpm y hy => by
      rcases h4 p hpm with hpm | rfl
      · exact hp p hpm y (by simp [hy])
      · exact SL.head (hs.1 y hy) q)
    refine ⟨P2, k1, h2.trans k2, ?_, ?_⟩
    · intro y hy
      rcases List.mem_cons.1 hy with rfl | hy
      · exact h3.more fun p hpm => k2.subset hpm
      · exact k3 y hy
    · intro p hpm
      rcases k4 p hpm with hpm | ⟨y, hy, rfl⟩
      · rcases h4 p hpm with hpm | rfl
        · exact .inl hpm
        · exact .inr ⟨z, by simp, rfl⟩
      · exact .inr ⟨y, by simp [hy], rfl⟩
/-- What the walk has met, by the shortest rows. -/
structure Done (G : List (List Int)) (i : Nat) (st : Bst) (P : List (List Int)) (k : Nat) : Prop where
  inv : BInv G i st.2 P
  tails : ∀ p ∈ P, p.tail = [] ∨ ∃ j, j < k ∧ ∃ h : j < P.length, p.tail = P[j]
  src : ∀ z ∈ G.getD i [], Met P z [z]
  closed : ∀ j, j < k → ∀ (h : j < P.length), ∀ z ∈ G.getD (P[j].headD 0).toNat [], Met P z (z :: P[j])
theorem walkF_done {n : Nat} {G : List (List Int)} (hG : GraphOk n G) (hr : ∀ zs ∈ G, zs.Pairwise (· < ·)) (i : Nat) : ∀ (d k : Nat) (st : Bst) (P : List (List Int)), n - k ≤ d → BstOk n st → Done G i st P k →
    ∃ P', Done G i (walkF G 33 k st) P' P'.length := by
  have hrow : ∀ r : Nat, (G.getD r []).Pairwise (· < ·) := fun r => by
    by_cases hr2 : r < G.length
    · rw [List.getD, List.getElem?_eq_getElem hr2]; exact hr _ (List.getElem_mem hr2)
    · rw [List.getD, List.getElem?_eq_none (by omega)]; exact .nil
  intro d
  induction d with
  | zero =>
    intro k st P hd hok h
    have hle : st.2.length ≤ k := by have := hok.few_steps; omega
    rw [walkF_end hle]
    have hl := h.inv.link.len
    refine ⟨P, h.inv, fun p hp => ?_, h.src, fun j hj hj' => h.closed j (by omega) hj'⟩
    rcases h.tails p hp with h1 | ⟨j, h1, h2, h3⟩
    · exact .inl h1
    · exact .inr ⟨j, h2, h2, h3⟩
  | succ d ih =>
    intro k st P hd hok h
    have hl := h.inv.link.len
    by_cases hk : k < st.2.length
    · rw [walkF_next hG hok hk]
      have hkP : k < P.length := by omega
      have hat := h.inv.link.at_ k hk hkP
      have hhd : P[k].headD 0 = (st.2[k]).1 := by rw [hat]; rfl
      have hzs := hG.at (st.2[k]).1.toNat
      have hwk := h.inv.wk _ (List.getElem_mem hkP)
      have hq : P[k] = if (k : Int) < 0 then [] else P.getD (k : Int).toNat [] := by
        rw [if_neg (by omega), Int.toNat_natCast, List.getD, List.getElem?_eq_getElem hkP]; rfl
      obtain ⟨P', k1, k2, k3, k4⟩ := onL_inv (n := n) (G := G) (i := i) (fr := (k : Int)) (q := P[k]) (by omega) (G.getD (st.2[k]).1.toNat []) hok h.inv (by omega) hq
        (fun z hz => ⟨(hzs z hz).1, (hzs z hz).2, by
          have hz' : z ∈ G.getD (P[k].headD 0).toNat [] := by rw [hhd]; exact hz
          cases hPk : P[k] with
          | nil => exact absurd hPk hwk.ne
          | cons y p =>
            rw [hPk] at hwk hz'
            exact .more hwk hz'⟩) (hrow _) (fun p hp z hz => by
          rcases h.tails p hp with h1 | ⟨j, h1, h2, h3⟩
          · cases p with
            | nil => exact absurd rfl (h.inv.wk _ hp).ne
            | cons a asx =>
              simp only [List.tail_cons] at h1
              subst h1
              refine .inl ?_
              have := hwk.ne
              cases hPk : P[k] with
              | nil => exact absurd hPk this
              | cons y p => simp
          · cases p with
            | nil => exact absurd rfl (h.inv.wk _ hp).ne
            | cons a asx =>
              simp only [List.tail_cons] at h3
              subst h3
              exact (List.pairwise_iff_getElem.1 h.inv.sorted j k h2 hkP h1).cons a z)
      refine ih (k + 1) _ P' (by have := hok.few_steps; omega) (onL_ok _ _ hok hzs) ⟨k1, ?_, ?_, ?_⟩
      · intro p hp
        rcases k4 p hp with hp | ⟨z, hz, rfl⟩
        · rcases h.tails p hp with h1 | ⟨j, h1, h2, h3⟩
          · exact .inl h1
          · exact .inr ⟨j, by omega, Nat.lt_of_lt_of_le h2 k2.length_le, by rw [h3, k2.getElem h2]⟩
        · exact .inr ⟨k, by omega, Nat.lt_of_lt_of_le hkP k2.length_le, by rw [List.tail_cons, k2.getElem hkP]⟩
      · intro z hz
        exact (h.src z hz).more fun p hp => k2.subset hp
      · intro j hj hj' z hz
        by_cases hjk : j < k
        · have hjP : j < P.length := by omega
          have e := k2.getElem hjP
          rw [← e] at hz ⊢
          exact (h.closed j hjk hjP z hz).more fun p hp => k2.subset hp
        · obtain rfl : j = k := by omega
          have e := k2.getElem hkP
          rw [← e] at hz ⊢
          rw [hhd] at hz
          exact k3 z hz
    · have hle : st.2.length ≤ k := by omega
      rw [walkF_end hle]
      refine ⟨P, h.inv, fun p hp => ?_, h.src, fun j hj hj' => h.closed j (by omega) hj'⟩
      rcases h.tails p hp with h1 | ⟨j, h1, h2, h3⟩
      · exact .inl h1
      · exact .inr ⟨j, h2, h2, h3⟩
theorem walkL_done {n : Nat} {G : List (List Int)} (hG : GraphOk n G) (hr : ∀ zs ∈ G, zs.Pairwise (· < ·)) (i : Nat) : ∃ P, Done G i (walkL G i) P P.length := by
  have hrow : (G.getD i []).Pairwise (· < ·) := by
    by_cases hr2 : i < G.length
    · rw [List.getD, List.getElem?_eq_getElem hr2]; exact hr _ (List.getElem_mem hr2)
    · rw [List.getD, List.getElem?_eq_none (by omega)]; exact .nil
  have h0 : BInv G i start0.2 [] := ⟨⟨rfl, fun j h => (by simp [start0] at h), fun j h => (by simp [start0] at h)⟩, fun p hp => (by cases hp), .nil⟩
  obtain ⟨P, k1, k2, k3, k4⟩ := onL_inv (n := n) (G := G) (i := i) (fr := -1) (q := []) (by omega) (G.getD i []) (bst_start hG.few) h0 (by simp [start0]) (by simp) (fun z hz => ⟨(hG.at i z hz).1, (hG.at i z hz).2, .one hz⟩) hrow (fun p hp => by cases hp)
  refine walkF_done hG hr i n 0 _ P (by omega) (onL_ok (-1) _ (bst_start hG.few) (hG.at i)) ⟨k1, fun p hp => ?_, k3, fun j hj => by omega⟩
  rcases k4 p hp with hp | ⟨z, hz, rfl⟩
  · cases hp
  · exact .inl rfl
theorem Done.best {G : List (List Int)} {i : Nat} {st : Bst} {P : List (List Int)} (h : Done G i st P P.length) {p : List Int} (hw : Wks G i p) : ∃ q ∈ P, q.head? = p.head? ∧ SLe q p := by
  induction hw with
  | one hz => exact h.src _ hz
  | @more z y p w hz ih =>
    obtain ⟨q, hq, h1, h2⟩ := ih
    obtain ⟨j, hj, rfl⟩ := List.mem_iff_getElem.1 hq
    have hh : P[j].headD 0 = y := by
      cases hP : P[j] with
      | nil => rw [hP] at h1; cases h1
      | cons a asx => rw [hP] at h1; simpa using h1
    obtain ⟨q', k1, k2, k3⟩ := h.closed j hj hj z (by rw [hh]; exact hz)
    exact ⟨q', k1, k2, k3.trans (h2.cons z)⟩
/-- The shortest row of a rule, the first of the shortest. -/
structure Best (G : List (List Int)) (i : Nat) (k : Int) (p : List Int) : Prop where
  wk : Wks G i p
  head : p.head? = some k
  least : ∀ q, Wks G i q → q.head? = some k → SLe p q
theorem Best.uniq {G : List (List Int)} {i : Nat} {k : Int} {p q : List Int} (h : Best G i k p) (h' : Best G i k q) : p = q := (h.least q h'.wk h'.head).anti (h'.least p h.wk h.head)
theorem backL_link {ss : List Stp} {P : List (List Int)} (h : Link ss P) (hb : BackOk ss) : ∀ (j : Nat) (hj : j < ss.length) (hj' : j < P.length), backL ss j = P[j] := by
  intro j
  induction j using Nat.strongRecOn with
  | ind j ih =>
    intro hj hj'
    rw [backL_at hb hj, h.at_ j hj hj']
    congr 1
    have := h.back j hj
    split
    · rename_i h0; exact backL_neg h0
    · rename_i h0
      obtain ⟨m, hm⟩ : ∃ m : Nat, ss[j].2 = m := ⟨ss[j].2.toNat, by omega⟩
      have hl := h.len
      rw [hm, Int.toNat_natCast, ih m (by omega) (by omega) (by omega), List.getD, List.getElem?_eq_getElem (show m < P.length by omega)]; rfl
theorem wayAt_spec {n : Nat} {G : List (List Int)} (hG : GraphOk n G) (hr : ∀ zs ∈ G, zs.Pairwise (· < ·)) (i : Nat) (k : Int) :
    (wayAt (walkL G i).2 i k = [] ∧ ∀ p, Wks G i p → p.head? ≠ some k) ∨ ∃ p, Best G i k p ∧ wayAt (walkL G i).2 i k = (i : Int) :: p.reverse := by
  obtain ⟨P, hd⟩ := walkL_done hG hr i
  have hb := walkL_back G i
  have hl := hd.inv.link.len
  unfold wayAt idxI
  by_cases hf : (walkL G i).2.findIdx (fun s => s.1 == k) < (walkL G i).2.length
  · refine .inr ?_
    obtain ⟨j, hj⟩ : ∃ j, j = (walkL G i).2.findIdx (fun s => s.1 == k) := ⟨_, rfl⟩
    rw [← hj] at hf ⊢
    have hjP : j < P.length := by omega
    have hs : ((walkL G i).2[j]).1 = k := by
      have := @List.findIdx_getElem _ (fun s : Stp => s.1 == k) (walkL G i).2 (by rw [← hj]; exact hf)
      simp only [← hj] at this
      simpa using this
    rw [if_pos hf, if_neg (by omega), backL_link hd.inv.link hb j hf hjP]
    refine ⟨P[j], ⟨hd.inv.wk _ (List.getElem_mem hjP), by rw [hd.inv.link.at_ j hf hjP, hs]; rfl, fun q hq hqk => ?_⟩, by simp⟩
    obtain ⟨q', k1, k2, k3⟩ := hd.best hq
    obtain ⟨m, hm, rfl⟩ := List.mem_iff_getElem.1 k1
    have hms : m < (walkL G i).2.length := by omega
    rw [hqk, hd.inv.link.at_ m hms hm] at k2
    simp only [List.head?_cons, Option.some.injEq] at k2
    have hnd := (walkL_ok hG i).nodup
    have e : m = j := by
      have h1 : ((walkL G i).2.map (·.1))[m]'(by simpa using hms) = ((walkL G i).2.map (·.1))[j]'(by simpa using hf) := by simp [k2, hs]
      exact (List.getElem_inj (hnd)).1 h1
    subst e
    exact k3
  · refine .inl ?_
    rw [if_neg hf, if_pos (by omega)]
    refine ⟨rfl, fun p hp hpk => hf ?_⟩
    obtain ⟨q', k1, k2, _⟩ := hd.best hp
    obtain ⟨m, hm, rfl⟩ := List.mem_iff_getElem.1 k1
    have hms : m < (walkL G i).2.length := by omega
    rw [hpk, hd.inv.link.at_ m hms hm] at k2
    simp only [List.head?_cons, Option.some.injEq] at k2
    exact List.findIdx_lt_length_of_exists ⟨_, List.getElem_mem hms, by simp [k2]⟩
end Go.Proofs.YtibgfgfmljhimaaGreat
set_option linter.unusedVariables false
set_option linter.unusedSimpArgs false
set_option linter.unnecessarySimpa false
namespace Go.Proofs.YtibgfgfmljhimaaGreat

/-! ### The way asx it is asked for -/
def wayI (G : List (List Int)) (i : Nat) (k : Int) : List Int := wayAt (walkL G i).2 i k
theorem Best.tail {G : List (List Int)} {i : Nat} {k v : Int} {q : List Int} (h : Best G i k (q ++ [v])) (hv : v ∈ G.getD i []) (hq : Wks G v.toNat q) : Best G v.toNat k q := by
  have hne := hq.ne
  refine ⟨hq, ?_, fun r hr hrk => ?_⟩
  · have := h.head
    cases q with
    | nil => exact absurd rfl hne
    | cons a asx => simpa using this
  · refine SLe.snoc.1 (h.least (r ++ [v]) (hr.ahead hv) ?_)
    cases r with
    | nil => exact absurd rfl hr.ne
    | cons a asx => simpa using hrk
theorem wayI_spec {n : Nat} {G : List (List Int)} (hG : GraphOk n G) (hr : ∀ zs ∈ G, zs.Pairwise (· < ·)) (i : Nat) (k : Int) :
    (wayI G i k = [] ∧ ∀ p, Wks G i p → p.head? ≠ some k) ∨ ∃ p, Best G i k p ∧ wayI G i k = (i : Int) :: p.reverse := wayAt_spec hG hr i k
theorem wayI_best {n : Nat} {G : List (List Int)} (hG : GraphOk n G) (hr : ∀ zs ∈ G, zs.Pairwise (· < ·)) {i : Nat} {k : Int} {p : List Int} (h : Best G i k p) : wayI G i k = (i : Int) :: p.reverse := by
  rcases wayI_spec hG hr i k with ⟨_, h1⟩ | ⟨q, h1, h2⟩
  · exact absurd h.head (h1 p h.wk)
  · rw [h2, h1.uniq h]
theorem wayI_shape {n : Nat} {G : List (List Int)} (hG : GraphOk n G) (hr : ∀ zs ∈ G, zs.Pairwise (· < ·)) {i : Nat} {k : Int} (h : wayI G i k ≠ []) :
    ∃ v q, wayI G i k = (i : Int) :: v :: q ∧ v ∈ G.getD i [] ∧ (v :: q).getLast? = some k ∧ (q ≠ [] → wayI G v.toNat k = v :: q) := by
  rcases wayI_spec hG hr i k with ⟨h1, _⟩ | ⟨p, hb, h2⟩
  · exact absurd h1 h
  · obtain ⟨q, v, rfl, hv, hq⟩ := hb.wk.first
    refine ⟨v, q.reverse, by rw [h2]; simp, hv, ?_, fun hne => ?_⟩
    · have := hb.head
      have e : v :: q.reverse = (q ++ [v]).reverse := by simp
      rw [e, List.getLast?_reverse]
      exact this
    · have hq' : Wks G v.toNat q := by
        rcases hq with rfl | hq
        · exact absurd rfl hne
        · exact hq
      have hv0 := (hG.at i v hv).1
      have := wayI_best hG hr (hb.tail hv hq')
      rw [this]
      congr 1
      omega
theorem wayI_least {n : Nat} {G : List (List Int)} (hG : GraphOk n G) (hr : ∀ zs ∈ G, zs.Pairwise (· < ·)) {i : Nat} {k v : Int} {q : List Int} (h : wayI G i k = (i : Int) :: v :: q) {z : Int} (hz : z ∈ G.getD i []) :
    (z = k → ¬ (0 < q.length ∨ q.length = 0 ∧ z < v)) ∧ (wayI G z.toNat k ≠ [] → ¬ ((wayI G z.toNat k).length < q.length + 1 ∨ (wayI G z.toNat k).length = q.length + 1 ∧ z < v)) := by
  rcases wayI_spec hG hr i k with ⟨h1, _⟩ | ⟨p, hb, h2⟩
  · rw [h1] at h; cases h
  · rw [h2] at h
    simp only [List.cons.injEq, true_and] at h
    have hp : p = q.reverse ++ [v] := by
      have := congrArg List.reverse h
      simpa using this
    subst hp
    have key : ∀ r : List Int, Wks G i (r ++ [z]) → (r ++ [z]).head? = some k → ¬ (r.length < q.length ∨ r.length = q.length ∧ z < v) := by
      intro r hw hh
      have h3 := hb.least _ hw hh
      rintro (hl | ⟨hl, hlt⟩)
      · rcases h3 with (h4 | ⟨h4, _⟩) | h4
        · simp at h4; omega
        · simp at h4; omega
        · have := congrArg List.length h4
          simp at this; omega
      · rcases h3 with (h4 | ⟨_, h4⟩) | h4
        · simp at h4; omega
        · rcases (LT.snoc v z (by simp [hl])).1 h4 with h5 | ⟨h5, _⟩
          · omega
          · omega
        · have := (List.append_inj' h4 rfl).2
          simp only [List.cons.injEq, and_true] at this
          omega
    constructor
    · intro e
      subst e
      have := key [] (.one hz) rfl
      simp only [List.length_nil] at this
      omega
    · intro hne
      rcases wayI_spec hG hr z.toNat k with ⟨h1, _⟩ | ⟨r, hb2, h3⟩
      · exact absurd h1 hne
      · rw [h3]
        have := key r (hb2.wk.ahead hz) (by
          have := hb2.head
          cases r with
          | nil => cases this
          | cons a asx => simpa using this)
        simp only [List.length_cons, List.length_reverse]
        omega
theorem tr_wk {n : Nat} {G : List (List Int)} (hG : GraphOk n G) {i k : Nat} : Tr G i k ↔ ∃ p, Wks G i p ∧ p.head? = some (k : Int) := by
  constructor
  · intro t
    induction t with
    | one h => exact ⟨_, .one h, rfl⟩
    | @step i z k h t ih =>
      obtain ⟨p, h1, h2⟩ := ih
      refine ⟨p ++ [(z : Int)], Wks.ahead h (by rw [Int.toNat_natCast]; exact h1), ?_⟩
      cases p with
      | nil => cases h2
      | cons a asx => simpa using h2
  · rintro ⟨p, hw, hh⟩
    induction hw generalizing k with
    | one h =>
      simp only [List.head?_cons, Option.some.injEq] at hh
      subst hh
      exact .one h
    | @more z y p w h ih =>
      simp only [List.head?_cons, Option.some.injEq] at hh
      subst hh
      have hy0 : 0 ≤ y := by
        cases w with
        | one h => exact (hG.at i y h).1
        | more _ h => exact (hG.at _ y h).1
      exact (ih (k := y.toNat) (by simp [Int.toNat_of_nonneg hy0])).snoc h
theorem wayI_tr {n : Nat} {G : List (List Int)} (hG : GraphOk n G) (hr : ∀ zs ∈ G, zs.Pairwise (· < ·)) {i k : Nat} : wayI G i k ≠ [] ↔ Tr G i k := by
  rw [tr_wk hG]
  rcases wayI_spec hG hr i k with ⟨h1, h2⟩ | ⟨p, hb, h2⟩
  · rw [h1]
    constructor
    · intro h; exact absurd rfl h
    · rintro ⟨p, h3, h4⟩; exact absurd h4 (h2 p h3)
  · rw [h2]
    exact ⟨fun _ => ⟨p, hb.wk, hb.head⟩, fun _ => by simp⟩
end Go.Proofs.YtibgfgfmljhimaaGreat
set_option linter.unusedVariables false
set_option linter.unusedSimpArgs false
set_option linter.unnecessarySimpa false
namespace Go.Proofs.YtibgfgfmljhimaaGreat
open Go.RowKit Go.MapKept Go.Shelf

theorem graph_up {g : Gr} (hr : rightB g = true) : ∀ zs ∈ graphG g, zs.Pairwise (· < ·) := by
  intro zs hzs
  have e : graphG g = g.rules.map (fun r => callsG g r.body) := by simp [graphG, hr]
  rw [e] at hzs
  obtain ⟨r, _, rfl⟩ := List.mem_map.1 hzs
  exact pickL_sorted _ _
theorem wayL_eq {g : Gr} (hr : rightB g = true) {i : Nat} (hi : i < g.rules.length) (k : Int) : wayL g i k = wayI (graphG g) i k := by
  rw [wayL, if_pos (show inR g i from ⟨by omega, by omega, hr⟩), Int.toNat_natCast]
  rfl
theorem backF_len (ss : List Stp) : ∀ (f : Nat) (a : Int), (backF ss f a).length ≤ f := by
  intro f
  induction f with
  | zero => intro a; exact Nat.le_refl _
  | succ f ih =>
    intro a
    rw [backF]
    split
    · simp
    · split
      · simp
      · rename_i s _
        have := ih s.2
        simp only [List.length_cons]
        omega
theorem wayL_len (g : Gr) (i k : Int) : (wayL g i k).length ≤ 34 := by
  unfold wayL
  split
  · rename_i h
    have h1 := walkL_ok (graph_ok h.2.2) i.toNat
    have h2 := h1.few_steps
    have h3 := h1.few
    unfold wayAt
    split
    · simp
    · have := backF_len (walkL (graphG g) i.toNat).2 ((walkL (graphG g) i.toNat).2.length + 1) (idxI (walkL (graphG g) i.toNat).2 (fun s => s.1 == k))
      simp only [List.length_reverse, List.length_append, List.length_cons, List.length_nil, backL]
      omega
  · simp
/-! ### The walk -/
end Go.Proofs.YtibgfgfmljhimaaGreat

/-
  A leaf of a grammar is made another: what is right, and what may match nothing.
  Conditions: none.
-/
import Derived.Test.YtibgfgfmljhimaaNu0
set_option linter.unusedVariables false
set_option linter.unusedSimpArgs false
namespace Go.Proofs.Ytibgfgfmljhimaa

theorem falls_right {g : Gr} (h : rightB g = true) : Falls g.nodes := fun n hn k hk => right_kids h hn k hk
/-- A node put for another. -/
def Gr.put (g : Gr) (c : Nat) (y : Nd) : Gr := ⟨g.rules, g.nodes.set c y⟩
theorem aft_put {ns : List Nd} {c : Nat} {y : Nd} (hy : ∀ x, ns[c]? = some x → y.kids = x.kids) : ∀ (f n : Nat), aft (ns.set c y) f n = aft ns f n := by
  intro f
  induction f with
  | zero => intro n; rfl
  | succ f ih =>
    intro n
    have hF : aft (ns.set c y) f = aft ns f := funext ih
    simp only [aft, hF]
    by_cases hcn : c = n
    · subst hcn
      by_cases hl : c < ns.length
      · rw [List.getElem?_set_self hl, List.getElem?_eq_getElem hl]
        simp only [hy _ (List.getElem?_eq_getElem hl)]
      · rw [List.getElem?_eq_none (by simpa using hl), List.getElem?_eq_none (by simpa using hl)]
    · rw [List.getElem?_set_ne hcn]
theorem chain_put {g : Gr} {c : Nat} {y : Nd} (hy : ∀ x, g.nodes[c]? = some x → y.kids = x.kids) : ∀ (rs : List Rl) (i n : Nat), chain (g.put c y) rs i n = chain g rs i n := by
  intro rs
  induction rs with
  | nil => intro i n; rfl
  | cons r rs ih =>
    intro i n
    have hF : aft (g.put c y).nodes = aft g.nodes := by funext f n; exact aft_put hy f n
    have ih' : ∀ i n, chain (g.put c y) rs i n = chain g rs i n := ih
    simp only [chain, hF, ih']
    rfl
theorem right_put {g : Gr} (h : rightB g = true) {c : Nat} (hc : c < g.nodes.length) {y : Nd} (hy : y.kids = g.nodes[c].kids) (hn : nodeB y g.rules.length = true) : rightB (g.put c y) = true := by
  have hy' : ∀ x, g.nodes[c]? = some x → y.kids = x.kids := fun x hx => by rw [List.getElem?_eq_getElem hc] at hx; cases hx; exact hy
  simp only [rightB, Bool.and_eq_true, beq_iff_eq] at h ⊢
  obtain ⟨⟨h1, h2⟩, h3⟩ := h
  refine ⟨⟨?_, ?_⟩, ?_⟩
  · show (decide (1 ≤ g.rules.length) && decide (g.rules.length ≤ 32) && decide ((g.nodes.set c y).length ≤ 2048)) = true
    rw [List.length_set]; exact h1
  · simp only [allB, List.all_eq_true] at h2 ⊢
    intro x hx
    rcases List.mem_or_eq_of_mem_set hx with hx | rfl
    · exact h2 x hx
    · exact hn
  · show chain (g.put c y) g.rules 0 0 = some (g.put c y).nodes.length
    rw [chain_put hy', h3]
    simp [Gr.put]
/-- More may where the leaf always may. -/
theorem mayF_more {ns : List Nd} {c : Nat} {y : Nd} (hy : easyK y.k = true) {C D : Int → Bool} (h : ∀ r, C r = true → D r = true) : ∀ (f : Nat) (n : Int), mayF ns C f n = true → mayF (ns.set c y) D f n = true := by
  intro f
  induction f with
  | zero => intro n h0; cases h0
  | succ f ih =>
    intro n h0
    simp only [mayF] at h0 ⊢
    split
    · rename_i hn; rw [if_pos hn] at h0; cases h0
    · rename_i hn
      rw [if_neg hn] at h0
      by_cases hcn : c = n.toNat
      · by_cases hl : c < ns.length
        · rw [← hcn, List.getElem?_set_self hl]
          simp only [kindMay, hy, if_true]
        · rw [← hcn, List.getElem?_eq_none (by simpa using hl)] at h0
          cases h0
      · rw [List.getElem?_set_ne hcn]
        split at h0
        · cases h0
        · exact kindMay_mono (h _) (fun k _ => ih k) h0
theorem rk_more {g : Gr} {c : Nat} {y : Nd} (hy : easyK y.k = true) : ∀ (j i : Nat), 0 < rk g j i → 0 < rk (g.put c y) j i := by
  intro j
  induction j with
  | zero => intro i h; simp [rk] at h
  | succ j ih =>
    intro i h
    by_cases h0 : rk (g.put c y) j i = 0
    · have hg : rk g j i = 0 := by
        have := ih i
        omega
      by_cases hi : i < g.rules.length
      · have h1 := rk_step g j hi
        have h2 := rk_step (g.put c y) j (i := i) hi
        have hm : mayR g j g.rules[i].body = true := by
          cases hm : mayR g j g.rules[i].body with
          | true => rfl
          | false => rw [if_neg (by simp [hm]), hg] at h1; omega
        have hmx : mayR (g.put c y) j (g.put c y).rules[i].body = true := by
          have h5 := mayF_more (ns := g.nodes) (c := c) hy (C := callsR g j) (D := callsR (g.put c y) j) (fun r hr => by
            simp only [callsR, Bool.and_eq_true, decide_eq_true_eq] at hr ⊢
            exact ⟨hr.1, ih _ hr.2⟩) g.nodes.length g.rules[i].body hm
          simpa [mayR, mayN, Gr.put] using h5
        rw [h2, if_pos ⟨h0, hmx⟩]
        omega
      · rw [rk_out g _ (by omega)] at h; omega
    · rw [rk_keep (j := j) (by omega) (Nat.le_succ j)]; omega
/-- It comes in no later. -/
theorem rank_more {g : Gr} {c : Nat} {y : Nd} (hy : easyK y.k = true) {i : Nat} (h : 0 < rankG g i) : 0 < rankG (g.put c y) i ∧ rankG (g.put c y) i ≤ rankG g i := by
  have hr := rank_le g i
  have h1 : rk g (rankG g i) i = rankG g i := by
    have := rk_at (g := g) (m := g.rules.length) (i := i) hr
    unfold rankG at this ⊢
    rw [this, if_pos (Nat.le_refl _)]
  have h2 := rk_more (c := c) hy (rankG g i) i (by rw [h1]; exact h)
  have h3 : rankG (g.put c y) i = rk (g.put c y) (rankG g i) i := rk_keep h2 hr
  have h4 := rk_le (g.put c y) (rankG g i) i
  omega
/-- The same may where neither the one leaf may nor the other. -/
theorem mayF_same {ns : List Nd} {c : Nat} {y : Nd} {C : Int → Bool} (hy : ∀ F, kindMay y C F = false) (hc : ∀ x, ns[c]? = some x → ∀ F, kindMay x C F = false) : ∀ (f : Nat) (n : Int), mayF (ns.set c y) C f n = mayF ns C f n := by
  intro f
  induction f with
  | zero => intro n; rfl
  | succ f ih =>
    intro n
    have hF : mayF (ns.set c y) C f = mayF ns C f := funext ih
    simp only [mayF, hF]
    split
    · rfl
    · by_cases hcn : c = n.toNat
      · by_cases hl : c < ns.length
        · rw [← hcn, List.getElem?_set_self hl, List.getElem?_eq_getElem hl]
          simp only [hy, hc _ (List.getElem?_eq_getElem hl)]
        · rw [← hcn, List.getElem?_eq_none (by simpa using hl), List.getElem?_eq_none (by simpa using hl)]
      · rw [List.getElem?_set_ne hcn]
theorem kind_call {x : Nd} (hx : x.k = 5) (C F : Int → Bool) : kindMay x C F = C x.r := by simp [kindMay, easyK, hx]
theorem kind_hard {x : Nd} (hx : x.k = 2 ∨ x.k = 3 ∨ x.k = 4) (C F : Int → Bool) : kindMay x C F = false := by
  rcases hx with h | h | h <;> simp [kindMay, easyK, h]
theorem rk_same {g : Gr} {c : Nat} (hc : c < g.nodes.length) {y : Nd} (hy : y.k = 2) (hk : g.nodes[c].k = 5) (hr : ∀ j, callsR g j g.nodes[c].r = false) : ∀ (j i : Nat), rk (g.put c y) j i = rk g j i := by
  intro j
  induction j with
  | zero => intro i; rfl
  | succ j ih =>
    intro i
    have hC : callsR (g.put c y) j = callsR g j := funext fun q => by simp only [callsR, ih]
    have hm : mayR (g.put c y) j = mayR g j := by
      funext n
      simp only [mayR, hC, mayN]
      have := mayF_same (ns := g.nodes) (c := c) (y := y) (C := callsR g j) (fun F => kind_hard (.inl hy) _ _) (fun x hx F => by
        rw [List.getElem?_eq_getElem hc] at hx; cases hx
        rw [kind_call hk, hr j]) g.nodes.length n
      simpa [Gr.put] using this
    rw [rk_succ, rk_succ, ih i, hm]
    rfl
theorem may_same {g : Gr} {c : Nat} (hc : c < g.nodes.length) {y : Nd} (hy : y.k = 2) (hk : g.nodes[c].k = 5) (hr : rankG g g.nodes[c].r.toNat = 0 ∨ g.nodes[c].r < 0) : (∀ i, rankG (g.put c y) i = rankG g i) ∧ ∀ n, mayG (g.put c y) n = mayG g n := by
  have hr' : ∀ j, callsR g j g.nodes[c].r = false := by
    intro j
    simp only [callsR, Bool.and_eq_false_iff, decide_eq_false_iff_not]
    rcases hr with h | h
    · right
      intro h1
      rcases Nat.le_total j g.rules.length with hj | hj
      · have := rk_keep h1 hj; unfold rankG at h; omega
      · have := still_rk (still_end g) j hj g.nodes[c].r.toNat; unfold rankG at h; omega
    · left; omega
  have h1 := rk_same hc hy hk hr'
  refine ⟨fun i => h1 _ i, fun n => ?_⟩
  have hC : callsR (g.put c y) g.rules.length = callsR g g.rules.length := funext fun q => by simp only [callsR, h1]
  have := mayF_same (ns := g.nodes) (c := c) (y := y) (C := callsR g g.rules.length) (fun F => kind_hard (.inl hy) _ _) (fun x hx F => by
        rw [List.getElem?_eq_getElem hc] at hx; cases hx
        rw [kind_call hk, hr' _]) g.nodes.length n
  show mayN (g.put c y).nodes (callsR (g.put c y) g.rules.length) n = _
  rw [hC, mayN]
  simpa [mayG, mayR, mayN, Gr.put] using this
end Go.Proofs.Ytibgfgfmljhimaa

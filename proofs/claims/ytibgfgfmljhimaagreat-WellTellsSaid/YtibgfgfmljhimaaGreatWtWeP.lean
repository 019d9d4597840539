/-
  A grammar mended, plain: it is right, the same of it may match nothing, no node of it is idle.
  Conditions: the grammar is right.
-/
import Derived.Test.YtibgfgfmljhimaaGreatWtWeF
set_option linter.unusedVariables false
set_option linter.unusedSimpArgs false
set_option linter.unnecessarySimpa false
namespace Go.Proofs.YtibgfgfmljhimaaGreat

theorem kind_easy {y : Nd} (h : easyK y.k = true) (C F : Int → Bool) : kindMay y C F = true := by unfold kindMay; rw [if_pos h]
theorem falls_put {ns : List Nd} (hf : Falls ns) {c : Nat} (hc : c < ns.length) {y : Nd} (hy : y.kids = ns[c].kids) : Falls (ns.set c y) := by
  intro n hn k hk
  rw [List.length_set] at hn
  rw [List.getElem_set] at hk
  rw [List.length_set]
  split at hk
  · rename_i e; subst e; rw [hy] at hk; exact hf c hc k hk
  · exact hf n hn k hk
/-- With what may behind it, a node that may is put for one that may. -/
theorem mayN_put {ns : List Nd} (hf : Falls ns) {c : Nat} (hc : c < ns.length) {y : Nd} (hy : y.kids = ns[c].kids) (he : easyK y.k = true) {C : Int → Bool} (hm : mayN ns C c = true) :
    ∀ (d n : Nat), ns.length - n ≤ d → n < ns.length → mayN (ns.set c y) C n = mayN ns C n := by
  have hf' := falls_put hf hc hy
  intro d
  induction d with
  | zero => intro n h1 h2; omega
  | succ d ih =>
    intro n hd hn
    by_cases e : n = c
    · subst e
      rw [hm, mayN_eq hf' C (by simpa using hn), List.getElem_set_self, kind_easy he]
    · rw [mayN_eq hf' C (by simpa using hn), List.getElem_set_ne (Ne.symm e), mayN_eq hf C hn]
      refine kindMay_congr rfl (fun k hk => ?_)
      obtain ⟨k1, k2⟩ := hf n hn k hk
      obtain ⟨q, rfl⟩ : ∃ q : Nat, k = q := ⟨k.toNat, by omega⟩
      exact ih q (by omega) (by omega)
theorem mayN_out {ns : List Nd} {C : Int → Bool} {n : Int} (h : ¬ (0 ≤ n ∧ n < ns.length)) : mayN ns C n = false := by
  unfold mayN
  cases hl : ns.length with
  | zero => rfl
  | succ f =>
    simp only [mayF]
    by_cases h0 : n < 0
    · rw [if_pos h0]
    · rw [if_neg h0, List.getElem?_eq_none (by omega)]
theorem mayN_put' {ns : List Nd} (hf : Falls ns) {c : Nat} (hc : c < ns.length) {y : Nd} (hy : y.kids = ns[c].kids) (he : easyK y.k = true) {C : Int → Bool} (hm : mayN ns C c = true) (n : Int) : mayN (ns.set c y) C n = mayN ns C n := by
  by_cases h : 0 ≤ n ∧ n < ns.length
  · obtain ⟨q, rfl⟩ : ∃ q : Nat, n = q := ⟨n.toNat, by omega⟩
    exact mayN_put hf hc hy he hm ns.length q (by omega) (by omega)
  · rw [mayN_out h, mayN_out (by simpa using h)]
/-- The same may. -/
theorem may_put {g : Gr} (hr : rightB g = true) {c : Nat} (hc : c < g.nodes.length) {y : Nd} (hy : y.kids = g.nodes[c].kids) (he : easyK y.k = true) (hm : mayG g c = true) (n : Int) : mayG (g.put c y) n = mayG g n := by
  have hf := falls_right hr
  have hlow : ∀ j i, 0 < rk (g.put c y) j i → 0 < rankG g i := by
    intro j
    induction j with
    | zero => intro i h; simp [rk] at h
    | succ j ih =>
      intro i h
      by_cases hi : i < g.rules.length
      · by_cases h0 : 0 < rk (g.put c y) j i
        · exact ih i h0
        · have hst := rk_step (g.put c y) j (i := i) hi
          rw [hst] at h
          split at h
          · rename_i h1
            have h2 : mayR (g.put c y) j (g.put c y).rules[i].body = true := h1.2
            have h3 : mayN (g.nodes.set c y) (callsR g g.rules.length) g.rules[i].body = true := by
              refine mayN_mono (fun r hr => ?_) h2
              simp only [callsR, Bool.and_eq_true, decide_eq_true_eq] at hr ⊢
              exact ⟨hr.1, ih _ hr.2⟩
            rw [mayN_put' hf hc hy he hm] at h3
            have h4 := rank_body (g := g) hi
            rw [show mayG g g.rules[i].body = true from h3] at h4
            simpa using h4.symm
          · exact absurd h h0
      · rw [rk_out _ _ (by show g.rules.length ≤ i; omega)] at h; omega
  have hC : callsR (g.put c y) (g.put c y).rules.length = callsR g g.rules.length := by
    funext r
    simp only [callsR]
    congr 1
    rw [decide_eq_decide]
    exact ⟨fun h => hlow _ _ h, fun h => (rank_more (c := c) he (i := r.toNat) h).1⟩
  show mayN (g.nodes.set c y) (callsR (g.put c y) (g.put c y).rules.length) n = mayN g.nodes (callsR g g.rules.length) n
  rw [hC]
  exact mayN_put' hf hc hy he hm n
theorem idleB_may {g : Gr} (hr : rightB g = true) {c : Nat} (hc : c < g.nodes.length) (hi : idleB g c = true) : mayG g c = true := by
  simp only [idleB, List.getElem?_eq_getElem hc, Bool.and_eq_true, Bool.or_eq_true, decide_eq_true_eq] at hi
  obtain ⟨hk, hm⟩ := hi
  show mayN g.nodes (callsR g g.rules.length) c = true
  rw [mayN_eq (falls_right hr) _ hc]
  rcases hk with h8 | h9
  · exact kind_easy (by rw [h8]; rfl) _ _
  · obtain ⟨z, hz⟩ : ∃ z, g.nodes[c].kids = [z] := List.length_eq_one_iff.1 (right_rep hr hc (.inr h9))
    unfold kindMay
    rw [h9, if_neg (by decide), if_pos (by simp), hz]
    rw [hz] at hm
    simp only [List.headD_cons] at hm
    simp only [List.all_cons, List.all_nil, Bool.and_true]
    exact hm
theorem idle_node {g : Gr} {c : Nat} (hc : c < g.nodes.length) (hi : idleB g c = true) : g.nodes[c].k = 8 ∨ g.nodes[c].k = 9 := by
  simp only [idleB, List.getElem?_eq_getElem hc, Bool.and_eq_true, Bool.or_eq_true, decide_eq_true_eq] at hi
  exact hi.1
theorem nodeB_setK {x : Nd} {q : Int} (hk : x.k = 8 ∨ x.k = 9) (h : nodeB x q = true) : nodeB (x.setK 10) q = true := by
  have h1 : ∀ k : Int, 8 ≤ k ∧ k ≤ 12 → nodeN k x.c0 x.c1 x.c2 x.c3 x.r x.l q x.s x.kids.length = (plainB x.c0 x.c1 x.c2 x.c3 x.r x.l x.s && decide (x.kids.length = 1)) := fun k hk => by
    unfold nodeN
    rw [if_neg (by omega), if_neg (by omega), if_neg (by omega), if_neg (by omega), if_neg (by omega), if_pos hk]
  unfold nodeB at h ⊢
  rw [h1 x.k (by omega)] at h
  show nodeN 10 x.c0 x.c1 x.c2 x.c3 x.r x.l q x.s x.kids.length = true
  rw [h1 10 (by omega)]
  exact h
/-- What is mended bit by bit. -/
structure MendS (g h : Gr) (pre : List Int) : Prop where
  right : rightB h = true
  rules : h.rules = g.rules
  nodes : h.nodes = mendL g.nodes pre
  may : ∀ n, mayG h n = mayG g n
theorem mend_step {g h : Gr} {pre : List Int} (hs : MendS g h pre) {q : Nat} (hq : q < g.nodes.length) (hi : idleB g q = true) (hr : rightB g = true) (hn : (q : Int) ∉ pre) :
    MendS g (h.put q (g.nodes[q].setK 10)) (pre ++ [(q : Int)]) := by
  have hl : h.nodes.length = g.nodes.length := by rw [hs.nodes, mendL_len]
  have hqh : q < h.nodes.length := by omega
  have he : h.nodes[q] = g.nodes[q] := by
    have := mendL_at (l := pre) hq
    rw [if_neg hn] at this
    rw [← this]
    simp only [hs.nodes]
  have hy : (g.nodes[q].setK 10).kids = h.nodes[q].kids := by rw [he]; rfl
  have hm := idleB_may hr hq hi
  refine ⟨right_put hs.right hqh hy ?_, hs.rules, ?_, fun n => ?_⟩
  · rw [hs.rules]
    exact nodeB_setK (idle_node hq hi) (right_node hr hq)
  · show h.nodes.set q _ = _
    rw [← mendL_snoc hq]
    have h2 := mendL_at (l := pre) hq
    rw [if_neg hn] at h2
    rw [h2]
    simp only [hs.nodes]
  · rw [may_put hs.right hqh hy rfl (by rw [hs.may]; exact hm), hs.may]
theorem mend_all {g : Gr} (hr : rightB g = true) : ∀ k, k ≤ g.nodes.length → ∃ h, MendS g h (pickL k (idleB g)) := by
  intro k
  induction k with
  | zero => intro _; exact ⟨g, hr, rfl, by simp [pickL, mendL_nil], fun _ => rfl⟩
  | succ k ih =>
    intro hk
    obtain ⟨h, hs⟩ := ih (by omega)
    rw [pickL_succ]
    by_cases hi : idleB g k = true
    · rw [if_pos hi]
      refine ⟨_, mend_step hs (by omega) hi hr (fun hm => ?_)⟩
      obtain ⟨q, h1, h2, _⟩ := pickW_mem.1 hm
      omega
    · rw [if_neg hi, List.append_nil]
      exact ⟨h, hs⟩
theorem mend_is {g : Gr} (hr : rightB g = true) : MendS g (mendG g) (idleL g) := by
  obtain ⟨h, hs⟩ := mend_all hr g.nodes.length (Nat.le_refl _)
  have e : idleL g = pickL g.nodes.length (idleB g) := by rw [idleL, if_pos hr]
  rw [e]
  have : h = mendG g := by
    cases h
    simp only [mendG, Gr.mk.injEq]
    exact ⟨hs.rules, by rw [e]; exact hs.nodes⟩
  rw [this] at hs
  exact hs
theorem mend_right {g : Gr} (hr : rightB g = true) : rightB (mendG g) = true := (mend_is hr).right
theorem mem_idle {g : Gr} (hr : rightB g = true) {j : Nat} (hj : j < g.nodes.length) : (j : Int) ∈ idleL g ↔ idleB g j = true := by
  rw [idleL, if_pos hr, pickW_mem]
  constructor
  · rintro ⟨q, h1, _, h3⟩
    obtain rfl : j = q := by omega
    exact h3
  · intro h; exact ⟨j, rfl, hj, h⟩
theorem mend_idle {g : Gr} (hr : rightB g = true) : idleL (mendG g) = [] := by
  rw [idleL, if_pos (mend_right hr), List.eq_nil_iff_forall_not_mem]
  intro x hx
  obtain ⟨j, rfl, hj, hi⟩ := pickW_mem.1 hx
  have hj' : j < g.nodes.length := by rw [show (mendG g).nodes.length = g.nodes.length from mendL_len _ _] at hj; exact hj
  simp only [idleB, List.getElem?_eq_getElem hj, Bool.and_eq_true, Bool.or_eq_true, decide_eq_true_eq] at hi
  have hat : (mendG g).nodes[j] = if (j : Int) ∈ idleL g then g.nodes[j].setK 10 else g.nodes[j] := mendL_at hj'
  rw [hat] at hi
  split at hi
  · simp [Nd.setK] at hi
  · rename_i hn
    refine hn ((mem_idle hr hj').2 ?_)
    simp only [idleB, List.getElem?_eq_getElem hj', Bool.and_eq_true, Bool.or_eq_true, decide_eq_true_eq]
    rw [(mend_is hr).may] at hi
    exact hi
theorem mend_well {g : Gr} (hr : rightB g = true) : wellB (mendG g) = true := by rw [wellB, mend_right hr, mend_idle hr]; rfl
end Go.Proofs.YtibgfgfmljhimaaGreat

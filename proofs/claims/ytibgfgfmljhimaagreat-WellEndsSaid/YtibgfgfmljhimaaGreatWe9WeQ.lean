/-
  A grammar mended, plain: it is right, the same of it may match nothing, no node of it is idle.
  Conditions: the grammar is right.
-/
import Derived.Test.YtibgfgfmljhimaaGreatWe9WeF
import Derived.Test.YtibgfgfmljhimaaGreatWe9NE0
import Derived.Test.YtibgfgfmljhimaaGreatWe9Ln3
import Derived.Test.YtibgfgfmljhimaaGreatWe9GAft
import Derived.Test.YtibgfgfmljhimaaGreatWe9WeG
set_option linter.unusedVariables false
set_option linter.unusedSimpArgs false
set_option linter.unnecessarySimpa false
namespace Go.Proofs.YtibgfgfmljhimaaGreat

theorem kind_easy {y : Nd} (h : easyK y.k = true) (C F : Int → Bool) : kindMay y C F = true := by unfold kindMay; rw [if_pos h]
theorem falls_put {ns : List Nd} (hf : Falls ns) {c : Nat} (hc : c < ns.length) {y : Nd} (hy : y.kids = ns[c].kids) : Falls (ns.set c y) := by
  intro n hn k hk
  rw [List.length_set] at hn
  rw [List.getElem_set] at hk
  rw [List.length_set]
  split at hk
  · rename_i e; subst e; rw [hy] at hk; exact hf c hc k hk
  · exact hf n hn k hk
/-- With what may behind it, a node that may is put for one that may. -/
theorem mayN_put {ns : List Nd} (hf : Falls ns) {c : Nat} (hc : c < ns.length) {y : Nd} (hy : y.kids = ns[c].kids) (he : easyK y.k = true) {C : Int → Bool} (hm : mayN ns C c = true) :
    ∀ (d n : Nat), ns.length - n ≤ d → n < ns.length → mayN (ns.set c y) C n = mayN ns C n := by
  have hf' := falls_put hf hc hy
  intro d
  induction d with
  | zero => intro n h1 h2; omega
  | succ d ih =>
    intro n hd hn
    by_cases e : n = c
    · subst e
      rw [hm, mayN_eq hf' C (by simpa using hn), List.getElem_set_self, kind_easy he]
    · rw [mayN_eq hf' C (by simpa using hn), List.getElem_set_ne (Ne.symm e), mayN_eq hf C hn]
      refine kindMay_congr rfl (fun k hk => ?_)
      obtain ⟨k1, k2⟩ := hf n hn k hk
      obtain ⟨q, rfl⟩ : ∃ q : Nat, k = q := ⟨k.toNat, by omega⟩
      exact ih q (by omega) (by omega)
theorem mayN_out {ns : List Nd} {C : Int → Bool} {n : Int} (h : ¬ (0 ≤ n ∧ n < ns.length)) : mayN ns C n = false := by
  unfold mayN
  cases hl : ns.length with
  | zero => rfl
  | succ f =>
    simp only [mayF]
    by_cases h0 : n < 0
    · rw [if_pos h0]
    · rw [if_neg h0, List.getElem?_eq_none (by omega)]
theorem mayN_put' {ns : List Nd} (hf : Falls ns) {c : Nat} (hc : c < ns.length) {y : Nd} (hy : y.kids = ns[c].kids) (he : easyK y.k = true) {C : Int → Bool} (hm : mayN ns C c = true) (n : Int) : mayN (ns.set c y) C n = mayN ns C n := by
  by_cases h : 0 ≤ n ∧ n < ns.length
  · obtain ⟨q, rfl⟩ : ∃ q : Nat, n = q := ⟨n.toNat, by omega⟩
    exact mayN_put hf hc hy he hm ns.length q (by omega) (by omega)
  · rw [mayN_out h, mayN_out (by simpa using h)]
/-- The same may. -/
theorem may_put {g : Gr} (hr : rightB g = true) {c : Nat} (hc : c < g.nodes.length) {y : Nd} (hy : y.kids = g.nodes[c].kids) (he : easyK y.k = true) (hm : mayG g c = true) (n : Int) : mayG (g.put c y) n = mayG g n := by
  have hf := falls_right hr
  have hlow : ∀ j i, 0 < rk (g.put c y) j i → 0 < rankG g i := by
    intro j
    induction j with
    | zero => intro i h; simp [rk] at h
    | succ j ih =>
      intro i h
      by_cases hi : i < g.rules.length
      · by_cases h0 : 0 < rk (g.put c y) j i
        · exact ih i h0
        · have hst := rk_step (g.put c y) j (i := i) hi
          rw [hst] at h
          split at h
          · rename_i h1
            have h2 : mayR (g.put c y) j (g.put c y).rules[i].body = true := h1.2
            have h3 : mayN (g.nodes.set c y) (callsR g g.rules.length) g.rules[i].body = true := by
              refine mayN_mono (fun r hr => ?_) h2
              simp only [callsR, Bool.and_eq_true, decide_eq_true_eq] at hr ⊢
              exact ⟨hr.1, ih _ hr.2⟩
            rw [mayN_put' hf hc hy he hm] at h3
            have h4 := rank_body (g := g) hi
            rw [show mayG g g.rules[i].body = true from h3] at h4
            simpa using h4.symm
          · exact absurd h h0
      · rw [rk_out _ _ (by show g.rules.length ≤ i; omega)] at h; omega
  have hC : callsR (g.put c y) (g.put c y).rules.length = callsR g g.rules.length := by
    funext r
    simp only [callsR]
    congr 1
    rw [decide_eq_decide]
    exact ⟨fun h => hlow _ _ h, fun h => (rank_more (c := c) he (i := r.toNat) h).1⟩
  show mayN (g.nodes.set c y) (callsR (g.put c y) (g.put c y).rules.length) n = mayN g.nodes (callsR g g.rules.length) n
  rw [hC]
  exact mayN_put' hf hc hy he hm n
theorem idleB_may {g : Gr} (hr : rightB g = true) {c : Nat} (hc : c < g.nodes.length) (hi : idleB g c = true) : mayG g c = true := by
  simp only [idleB, List.getElem?_eq_getElem hc, Bool.and_eq_true, Bool.or_eq_true, decide_eq_true_eq] at hi
  obtain ⟨hk, hm⟩ := hi
  show mayN g.nodes (callsR g g.rules.length) c = true
  rw [mayN_eq (falls_right hr) _ hc]
  rcases hk with h8 | h9
  · exact kind_easy (by rw [h8]; rfl) _ _
  · obtain ⟨z, hz⟩ : ∃ z, g.nodes[c].kids = [z] := List.length_eq_one_iff.1 (right_rep hr hc (.inr h9))
    unfold kindMay
    rw [h9, if_neg (by decide), if_pos (by simp), hz]
    rw [hz] at hm
    simp only [List.headD_cons] at hm
    simp only [List.all_cons, List.all_nil, Bool.and_true]
    exact hm
theorem idle_node {g : Gr} {c : Nat} (hc : c < g.nodes.length) (hi : idleB g c = true) : g.nodes[c].k = 8 ∨ g.nodes[c].k = 9 := by
  simp only [idleB, List.getElem?_eq_getElem hc, Bool.and_eq_true, Bool.or_eq_true, decide_eq_true_eq] at hi
  exact hi.1
theorem nodeB_setK {x : Nd} {q : Int} (hk : x.k = 8 ∨ x.k = 9) (h : nodeB x q = true) : nodeB (x.setK 10) q = true := by
  have h1 : ∀ k : Int, 8 ≤ k ∧ k ≤ 12 → nodeN k x.c0 x.c1 x.c2 x.c3 x.r x.l q x.s x.kids.length = (plainB x.c0 x.c1 x.c2 x.c3 x.r x.l x.s && decide (x.kids.length = 1)) := fun k hk => by
    unfold nodeN
    rw [if_neg (by omega), if_neg (by omega), if_neg (by omega), if_neg (by omega), if_neg (by omega), if_pos hk]
  unfold nodeB at h ⊢
  rw [h1 x.k (by omega)] at h
  show nodeN 10 x.c0 x.c1 x.c2 x.c3 x.r x.l q x.s x.kids.length = true
  rw [h1 10 (by omega)]
  exact h
/-- What is mended bit by bit. -/
structure MendS (g h : Gr) (pre : List Int) : Prop where
  right : rightB h = true
  rules : h.rules = g.rules
  nodes : h.nodes = mendL g.nodes pre
  may : ∀ n, mayG h n = mayG g n
theorem mend_step {g h : Gr} {pre : List Int} (hs : MendS g h pre) {q : Nat} (hq : q < g.nodes.length) (hi : idleB g q = true) (hr : rightB g = true) (hn : (q : Int) ∉ pre) :
    MendS g (h.put q (g.nodes[q].setK 10)) (pre ++ [(q : Int)]) := by
  have hl : h.nodes.length = g.nodes.length := by rw [hs.nodes, mendL_len]
  have hqh : q < h.nodes.length := by omega
  have he : h.nodes[q] = g.nodes[q] := by
    have := mendL_at (l := pre) hq
    rw [if_neg hn] at this
    rw [← this]
    simp only [hs.nodes]
  have hy : (g.nodes[q].setK 10).kids = h.nodes[q].kids := by rw [he]; rfl
  have hm := idleB_may hr hq hi
  refine ⟨right_put hs.right hqh hy ?_, hs.rules, ?_, fun n => ?_⟩
  · rw [hs.rules]
    exact nodeB_setK (idle_node hq hi) (right_node hr hq)
  · show h.nodes.set q _ = _
    rw [← mendL_snoc hq]
    have h2 := mendL_at (l := pre) hq
    rw [if_neg hn] at h2
    rw [h2]
    simp only [hs.nodes]
  · rw [may_put hs.right hqh hy rfl (by rw [hs.may]; exact hm), hs.may]
theorem mend_all {g : Gr} (hr : rightB g = true) : ∀ k, k ≤ g.nodes.length → ∃ h, MendS g h (pickL k (idleB g)) := by
  intro k
  induction k with
  | zero => intro _; exact ⟨g, hr, rfl, by simp [pickL, mendL_nil], fun _ => rfl⟩
  | succ k ih =>
    intro hk
    obtain ⟨h, hs⟩ := ih (by omega)
    rw [pickL_succ]
    by_cases hi : idleB g k = true
    · rw [if_pos hi]
      refine ⟨_, mend_step hs (by omega) hi hr (fun hm => ?_)⟩
      obtain ⟨q, h1, h2, _⟩ := pickW_mem.1 hm
      omega
    · rw [if_neg hi, List.append_nil]
      exact ⟨h, hs⟩
theorem mend_is {g : Gr} (hr : rightB g = true) : MendS g (mendG g) (idleL g) := by
  obtain ⟨h, hs⟩ := mend_all hr g.nodes.length (Nat.le_refl _)
  have e : idleL g = pickL g.nodes.length (idleB g) := by rw [idleL, if_pos hr]
  rw [e]
  have : h = mendG g := by
    cases h
    simp only [mendG, Gr.mk.injEq]
    exact ⟨hs.rules, by rw [e]; exact hs.nodes⟩
  rw [this] at hs
  exact hs
theorem mend_right {g : Gr} (hr : rightB g = true) : rightB (mendG g) = true := (mend_is hr).right
theorem mem_idle {g : Gr} (hr : rightB g = true) {j : Nat} (hj : j < g.nodes.length) : (j : Int) ∈ idleL g ↔ idleB g j = true := by
  rw [idleL, if_pos hr, pickW_mem]
  constructor
  · rintro ⟨q, h1, _, h3⟩
    obtain rfl : j = q := by omega
    exact h3
  · intro h; exact ⟨j, rfl, hj, h⟩
theorem mend_idle {g : Gr} (hr : rightB g = true) : idleL (mendG g) = [] := by
  rw [idleL, if_pos (mend_right hr), List.eq_nil_iff_forall_not_mem]
  intro x hx
  obtain ⟨j, rfl, hj, hi⟩ := pickW_mem.1 hx
  have hj' : j < g.nodes.length := by rw [show (mendG g).nodes.length = g.nodes.length from mendL_len _ _] at hj; exact hj
  simp only [idleB, List.getElem?_eq_getElem hj, Bool.and_eq_true, Bool.or_eq_true, decide_eq_true_eq] at hi
  have hat : (mendG g).nodes[j] = if (j : Int) ∈ idleL g then g.nodes[j].setK 10 else g.nodes[j] := mendL_at hj'
  rw [hat] at hi
  split at hi
  · simp [Nd.setK] at hi
  · rename_i hn
    refine hn ((mem_idle hr hj').2 ?_)
    simp only [idleB, List.getElem?_eq_getElem hj', Bool.and_eq_true, Bool.or_eq_true, decide_eq_true_eq]
    rw [(mend_is hr).may] at hi
    exact hi
theorem mend_well {g : Gr} (hr : rightB g = true) : wellB (mendG g) = true := by rw [wellB, mend_right hr, mend_idle hr]; rfl
end Go.Proofs.YtibgfgfmljhimaaGreat
set_option linter.unusedVariables false
set_option linter.unusedSimpArgs false
set_option linter.unnecessarySimpa false
namespace Go.Proofs.YtibgfgfmljhimaaGreat
open Go.RowKit Go.MapKept Go.Shelf

def ex15 : Gr := gramL [ofL 6 [ofL 8 [[callN 1 0]], ofL 9 [[wordN ⟨#[97]⟩]]], ofL 6 [ofL 11 [[wordN ⟨#[97]⟩]], ofL 10 [[bareN 2]]]]
def exH15 : Gr := gramL [ofL 10 [ofL 10 [[wordN ⟨#[97]⟩]]]]
theorem ex15_says : rightB ex15 = true ∧ idleL ex15 = [1] ∧ wellB ex15 = false ∧ wellB exH15 = true := by decide +kernel
theorem ex15_mend : ((mendG ex15).nodes[1]?).map (·.k) = some 10 := by decide +kernel
theorem ex15_k (h : 1 < (mendG ex15).nodes.length) : (mendG ex15).nodes[1].k = 10 := by
  have := ex15_mend
  rw [List.getElem?_eq_getElem h] at this
  simpa using this
theorem mend_wf {g : Gr} (h : g.Wf) : (mendG g).Wf := ⟨fun x hx => by
  obtain ⟨j, hj, rfl⟩ := List.getElem_of_mem hx
  have hj' : j < g.nodes.length := by rw [show (mendG g).nodes.length = g.nodes.length from mendL_len _ _] at hj; exact hj
  have hat : (mendG g).nodes[j] = if (j : Int) ∈ idleL g then g.nodes[j].setK 10 else g.nodes[j] := mendL_at hj'
  have hw := h.nodes _ (List.getElem_mem hj')
  rw [hat]
  split
  · exact ⟨by unfold I64; simp [Nd.setK], hw.r, hw.l, hw.kids, hw.s⟩
  · exact hw, h.names, h.bodies⟩
theorem OwnG.at_ {B : Nat} {w : World} {b1 : Option Addr} {d1 : Nat} {b2 : Option Addr} {d2 n1 n2 : Nat} {L : List Cp} {g : Gr} (h : OwnG B w b1 d1 b2 d2 L g.rules) (hL : L.map (·.1) = g.nodes) (h1 : n1 = g.rules.length) (h2 : n2 = g.nodes.length) (wf : g.Wf) : GramAt w b1 n1 d1 b2 n2 d2 g := by
  have := h.gram (by rw [hL]; exact wf)
  rw [hL] at this
  have hl : L.length = g.nodes.length := by rw [← hL, List.length_map]
  rw [hl, ← h1, ← h2] at this
  exact this
theorem ints_lit15 {w : World} {zs : List Int} {k : Nat} {t : TypeId} (h : w.heap[k]? = some (.cells (zs.map (Value.int .i64)).toArray t (0, 0))) : Ints w (some ⟨k, 0, none⟩) zs := by
  intro i hi
  refine ⟨k, 0, rfl, ?_⟩
  rw [cell_of_cells h]
  simp [hi]

set_option maxRecDepth 100000 in
set_option maxHeartbeats 8000000 in
theorem example15_any (w : World) : Calls Tryz.prog 36 #[] w (NewGram w ex15) := by
  go_enter Tryz.func36, Tryz.ntmps36
  go_wp2_with fail
  refine (CallB_any _ _ _).mono ?_
  rintro e w1 ⟨a1, c1, rfl, n1, -, -, h1⟩
  have cm := h1
  have A1 := Lib.hid (And.intro cm (n1))
  clear cm h1 n1
  go_wp2_with fail
  refine ((In_any _ _ a1 c1 ([callN 1 0]) A1.out.2 (small_of (by decide +kernel))).mono fun _ _ h => h.body).mono ?_
  rintro e w2 ⟨a2, c2, rfl, n2, -, -, h2⟩
  have cm := (A1.out.1).tr h2
  have A2 := Lib.hid (And.intro cm (n2))
  clear cm h2 n2
  go_wp2_with fail
  refine (Word_any _ _).mono ?_
  rintro e w3 ⟨a3, c3, rfl, n3, -, -, h3⟩
  have n2 := (A2.out.2).keep h3.kp
  have cm := (A2.out.1).tr h3
  have A3 := Lib.hid (And.intro cm (And.intro n2 (n3)))
  clear cm h3 n2 n3
  go_wp2_with fail
  refine ((In_any _ _ a3 c3 ([wordN ⟨#[97]⟩]) A3.out.2.2 (small_of (by decide +kernel))).mono fun _ _ h => h.body).mono ?_
  rintro e w4 ⟨a4, c4, rfl, n4, -, -, h4⟩
  have n2 := (A3.out.2.1).keep h4.kp
  have cm := (A3.out.1).tr h4
  have A4 := Lib.hid (And.intro cm (And.intro n2 (n4)))
  clear cm h4 n2 n4
  go_wp2_with fail
  refine ((Chain_any _ a2 c2 (ofL 8 [[callN 1 0]]) a4 c4 (ofL 9 [[wordN ⟨#[97]⟩]]) A4.out.2.1 (small_of (by decide +kernel)) A4.out.2.2 (small_of (by decide +kernel)) (by decide +kernel)).mono fun _ _ h => h.body).mono ?_
  rintro e w5 ⟨a5, c5, rfl, n5, -, -, h5⟩
  have cm := (A4.out.1).tr h5
  have A5 := Lib.hid (And.intro cm (n5))
  clear cm h5 n5
  go_wp2_with fail
  refine (Word_any _ _).mono ?_
  rintro e w6 ⟨a6, c6, rfl, n6, -, -, h6⟩
  have n5 := (A5.out.2).keep h6.kp
  have cm := (A5.out.1).tr h6
  have A6 := Lib.hid (And.intro cm (And.intro n5 (n6)))
  clear cm h6 n5 n6
  go_wp2_with fail
  refine ((In_any _ _ a6 c6 ([wordN ⟨#[97]⟩]) A6.out.2.2 (small_of (by decide +kernel))).mono fun _ _ h => h.body).mono ?_
  rintro e w7 ⟨a7, c7, rfl, n7, -, -, h7⟩
  have n5 := (A6.out.2.1).keep h7.kp
  have cm := (A6.out.1).tr h7
  have A7 := Lib.hid (And.intro cm (And.intro n5 (n7)))
  clear cm h7 n5 n7
  go_wp2_with fail
  refine (Leaf_any _ _).mono ?_
  rintro e w8 ⟨a8, c8, rfl, n8, -, -, h8⟩
  have n5 := (A7.out.2.1).keep h8.kp
  have n7 := (A7.out.2.2).keep h8.kp
  have cm := (A7.out.1).tr h8
  have A8 := Lib.hid (And.intro cm (And.intro n5 (And.intro n7 (n8))))
  clear cm h8 n5 n7 n8
  go_wp2_with fail
  refine ((In_any _ _ a8 c8 ([bareN 2]) A8.out.2.2.2 (small_of (by decide +kernel))).mono fun _ _ h => h.body).mono ?_
  rintro e w9 ⟨a9, c9, rfl, n9, -, -, h9⟩
  have n5 := (A8.out.2.1).keep h9.kp
  have n7 := (A8.out.2.2.1).keep h9.kp
  have cm := (A8.out.1).tr h9
  have A9 := Lib.hid (And.intro cm (And.intro n5 (And.intro n7 (n9))))
  clear cm h9 n5 n7 n9
  go_wp2_with fail
  refine ((Chain_any _ a7 c7 (ofL 11 [[wordN ⟨#[97]⟩]]) a9 c9 (ofL 10 [[bareN 2]]) A9.out.2.2.1 (small_of (by decide +kernel)) A9.out.2.2.2 (small_of (by decide +kernel)) (by decide +kernel)).mono fun _ _ h => h.body).mono ?_
  rintro e w10 ⟨a10, c10, rfl, n10, -, -, h10⟩
  have n5 := (A9.out.2.1).keep h10.kp
  have cm := (A9.out.1).tr h10
  have A10 := Lib.hid (And.intro cm (And.intro n5 (n10)))
  clear cm h10 n5 n10
  go_wp2_with fail
  have hk := bodies_made (w := w10.alloc (.cells #[.slice a5 (ofL 6 [ofL 8 [[callN 1 0]], ofL 9 [[wordN ⟨#[97]⟩]]]).length c5, .slice a10 (ofL 6 [ofL 11 [[wordN ⟨#[97]⟩]], ofL 10 [[bareN 2]]]).length c10] 23)) (vs := [(a5, c5), (a10, c10)]) (KL := [ofL 6 [ofL 8 [[callN 1 0]], ofL 9 [[wordN ⟨#[97]⟩]]], ofL 6 [ofL 11 [[wordN ⟨#[97]⟩]], ofL 10 [[bareN 2]]]]) rfl (by
    intro i h
    have hi : i = 0 ∨ i = 1 := by simp at h; omega
    rcases hi with rfl | rfl
    · exact (A10.out.2.1).keep ((Chg.refl [] w10).alloc _).kp
    · exact (A10.out.2.2).keep ((Chg.refl [] w10).alloc _).kp
    ) (heap_alloc_same w10 _)
  refine ((Gram_any _ _ 2 2 _ rfl hk (fun b hb => small_of (List.all_eq_true.1 (show ([ofL 6 [ofL 8 [[callN 1 0]], ofL 9 [[wordN ⟨#[97]⟩]]], ofL 6 [ofL 11 [[wordN ⟨#[97]⟩]], ofL 10 [[bareN 2]]]]).all smallB = true by decide +kernel) b hb)) (by decide +kernel) (by decide)).mono fun _ _ h => NewGramRows.new (g := ex15) h (wf_of (by decide +kernel))).mono ?_
  rintro e w11 ⟨b1, d1, b2, d2, rfl, hg, hc⟩
  have cm := (((A10.out.1).alloc (.cells #[.slice a5 (ofL 6 [ofL 8 [[callN 1 0]], ofL 9 [[wordN ⟨#[97]⟩]]]).length c5, .slice a10 (ofL 6 [ofL 11 [[wordN ⟨#[97]⟩]], ofL 10 [[bareN 2]]]).length c10] 23)).tr0 hc)
  have hb := cm.heap (heap_alloc_same w (.cells #[.slice none 0 0, .slice none 0 0] 25)) (by simp)
  obtain ⟨x0, x1⟩ := cells2 hb
  have f0 := free_of_cells hb 0
  have f1 := free_of_cells hb 1
  obtain ⟨rl, hrl⟩ : ∃ rl, rl = ex15.rules.length := ⟨_, rfl⟩
  obtain ⟨nl, hnl⟩ : ∃ nl, nl = ex15.nodes.length := ⟨_, rfl⟩
  rw [← hrl, ← hnl]
  have H := Lib.hid (And.intro hg (And.intro cm (And.intro hb (And.intro hrl hnl))))
  clear hg cm hb hk hc hrl hnl
  go_wp2_with fail
  clear x0 x1 f0 f1
  obtain ⟨hg, cm, hb, hrl, hnl⟩ := H.out
  have hc := ((Chg.refl [w.heap.size] w11).setCell (p := ⟨w.heap.size, 0, none⟩) (.inl (by simp)) (.slice b1 rl d1)).setCell (p := ⟨w.heap.size, 1, none⟩) (.inl (by simp)) (.slice b2 nl d2)
  have hz := heap_setCell_same (heap_setCell_same hb 0 (.slice b1 rl d1)) 1 (.slice b2 nl d2)
  simp at hz
  obtain ⟨y0, y1⟩ := cells2 hz
  have hTl := lt_of_block hz
  refine bodyPost_ret (v := .agg #[.slice b1 rl d1, .slice b2 nl d2]) (by simp [results, Tryz.results36, go_sem, y0, y1, hTl]) rfl ?_
  have hT2 : TwoS w11 w.heap.size 25 := ⟨_, _, _, _, _, _, hb⟩
  exact ⟨b1, d1, b2, d2, by rw [hrl, hnl], ⟨hg.e1, hg.le1, hg.cap1, hg.rules.two hT2 hc, hg.e2, hg.le2, hg.cap2, hg.nodes.two hT2 hc, hg.wf⟩, (((Chg.refl [] w).alloc _).tr0 cm).trans hc (fun i hi => .inr (by simp at hi; omega))⟩

set_option maxRecDepth 100000 in
set_option maxHeartbeats 8000000 in
theorem awake15_any (w : World) : Calls Tryz.prog 31 #[] w fun e w' => e = .returned (.bool true) ∧ Chg [] w w' := by
  go_enter Tryz.func31, Tryz.ntmps31
  go_wp2_with fail
  refine (example15_any _).mono ?_
  rintro e y1 ⟨p1, q1, p2, q2, rfl, hg1, hc1⟩
  have cA := (Chg.refl [] y1).alloc (.cells #[.slice p1 ex15.rules.length q1, .slice p2 ex15.nodes.length q2] 25)
  have F1 := Lib.hid (And.intro (hc1.tr cA) (And.intro (heap_alloc_same y1 (.cells #[.slice p1 ex15.rules.length q1, .slice p2 ex15.nodes.length q2] 25)) (hg1.keep cA.kp)))
  clear hg1 hc1 cA
  obtain ⟨x0, x1⟩ := cells2 F1.out.2.1
  go_wp2_with fail
  have hp := wellFirst_any _ p1 _ q1 p2 _ q2 ex15 F1.out.2.2 (reach_of (by decide +kernel))
  rw [ex15_says.2.1] at hp
  simp only [firstV, List.headD_cons, List.isEmpty_cons, Bool.not_false] at hp
  refine hp.mono ?_
  rintro e y2 ⟨rfl, h⟩
  have F2 := Lib.hid (And.intro (F1.out.1.tr h) (And.intro (h.heap F1.out.2.1 (by simp)) (F1.out.2.2.keep h.kp)))
  clear h hp x0 x1
  obtain ⟨x0, x1⟩ := cells2 F2.out.2.1
  go_wp2_with fail
  have hp := wellMend_any _ p1 _ q1 p2 _ q2 ex15 F2.out.2.2 (reach_of (by decide +kernel)) (by decide +kernel) (by decide +kernel) (by decide +kernel)
  refine hp.mono ?_
  rintro e y3 ⟨hif, h⟩
  rw [if_pos ex15_says.1] at hif
  obtain ⟨b1, d1, b2, d2, L, rfl, hL, hO⟩ := hif
  have hgm : GramAt y3 b1 ex15.rules.length d1 b2 ex15.nodes.length d2 (mendG ex15) := OwnG.at_ (g := mendG ex15) hO hL rfl (mendL_len _ _).symm (mend_wf F2.out.2.2.wf)
  have cA := (Chg.refl [] y3).alloc (.cells #[.slice b1 ex15.rules.length d1, .slice b2 ex15.nodes.length d2] 25)
  have F3 := Lib.hid (And.intro ((F2.out.1.tr h).tr cA) (And.intro (cA.heap (h.heap F2.out.2.1 (by simp)) (by simp)) (And.intro ((F2.out.2.2.keep h.kp).keep cA.kp) (And.intro (heap_alloc_same y3 (.cells #[.slice b1 ex15.rules.length d1, .slice b2 ex15.nodes.length d2] 25)) (hgm.keep cA.kp)))))
  clear h hp x0 x1 hgm cA hL hO
  go_wp2_with fail
  refine (Word_any _ _).mono ?_
  rintro e w1 ⟨a1, c1, rfl, n1, -, -, h1⟩
  have cm := h1
  have A1 := Lib.hid (And.intro cm (n1))
  clear cm h1 n1
  go_wp2_with fail
  refine ((In_any _ _ a1 c1 ([wordN ⟨#[97]⟩]) A1.out.2 (small_of (by decide +kernel))).mono fun _ _ h => h.body).mono ?_
  rintro e w2 ⟨a2, c2, rfl, n2, -, -, h2⟩
  have cm := (A1.out.1).tr h2
  have A2 := Lib.hid (And.intro cm (n2))
  clear cm h2 n2
  go_wp2_with fail
  refine ((In_any _ _ a2 c2 (ofL 10 [[wordN ⟨#[97]⟩]]) A2.out.2 (small_of (by decide +kernel))).mono fun _ _ h => h.body).mono ?_
  rintro e w3 ⟨a3, c3, rfl, n3, -, -, h3⟩
  have cm := (A2.out.1).tr h3
  have A3 := Lib.hid (And.intro cm (n3))
  clear cm h3 n3
  go_wp2_with fail
  have hk := bodies_made (w := w3.alloc (.cells #[.slice a3 (ofL 10 [ofL 10 [[wordN ⟨#[97]⟩]]]).length c3] 23)) (vs := [(a3, c3)]) (KL := [ofL 10 [ofL 10 [[wordN ⟨#[97]⟩]]]]) rfl (by
    intro i h
    have hi : i = 0 := by simp at h; omega
    rcases hi with rfl
    · exact (A3.out.2).keep ((Chg.refl [] w3).alloc _).kp
    ) (heap_alloc_same w3 _)
  refine ((Gram_any _ _ 1 1 _ rfl hk (fun b hb => small_of (List.all_eq_true.1 (show ([ofL 10 [ofL 10 [[wordN ⟨#[97]⟩]]]]).all smallB = true by decide +kernel) b hb)) (by decide +kernel) (by decide)).mono fun _ _ h => NewGramRows.new (g := exH15) h (wf_of (by decide +kernel))).mono ?_
  rintro e w4 ⟨s1, t1, s2, t2, rfl, hg, hc⟩
  have cm := (((A3.out.1).alloc (.cells #[.slice a3 (ofL 10 [ofL 10 [[wordN ⟨#[97]⟩]]]).length c3] 23)).tr0 hc)
  have cA := (Chg.refl [] w4).alloc (.cells #[.slice s1 exH15.rules.length t1, .slice s2 exH15.nodes.length t2] 25)
  have cB := cm.tr cA
  have F4 := Lib.hid (And.intro (F3.out.1.tr cB) (And.intro (cB.heap F3.out.2.1 (by simp)) (And.intro (F3.out.2.2.1.keep cB.kp) (And.intro (cB.heap F3.out.2.2.2.1 (by simp)) (And.intro (F3.out.2.2.2.2.keep cB.kp) (And.intro (heap_alloc_same w4 (.cells #[.slice s1 exH15.rules.length t1, .slice s2 exH15.nodes.length t2] 25)) (hg.keep cA.kp)))))))
  clear hg hc cm hk cA cB
  have n1 : 1 < ex15.nodes.length := by decide +kernel
  have n2 : ex15.nodes.length ≤ 9223372036854775807 := by decide +kernel
  obtain ⟨x0, x1⟩ := cells2 F4.out.2.1
  obtain ⟨u0, u1⟩ := cells2 F4.out.2.2.2.1
  obtain ⟨v0, v1⟩ := cells2 F4.out.2.2.2.2.2.1
  go_wp2_with fail
  have hp := wellAll_any _ p1 _ q1 p2 _ q2 ex15 F4.out.2.2.1 (reach_of (by decide +kernel))
  rw [ex15_says.2.1] at hp
  refine hp.mono ?_
  rintro e z1 ⟨la, lc, rfl, hf, h⟩
  have hints := (ownInts_read hf.own).1
  have F5 := Lib.hid (And.intro (F4.out.1.tr h) (And.intro (h.heap F4.out.2.1 (by simp)) (And.intro (F4.out.2.2.1.keep h.kp) (And.intro (h.heap F4.out.2.2.2.1 (by simp)) (And.intro (F4.out.2.2.2.2.1.keep h.kp) (And.intro (h.heap F4.out.2.2.2.2.2.1 (by simp)) (F4.out.2.2.2.2.2.2.keep h.kp)))))))
  clear h hf hp x0 x1 u0 u1 v0 v1
  obtain ⟨x0, x1⟩ := cells2 F5.out.2.1
  obtain ⟨u0, u1⟩ := cells2 F5.out.2.2.2.1
  obtain ⟨v0, v1⟩ := cells2 F5.out.2.2.2.2.2.1
  go_wp2_with fail
  have hlit := ints_lit15 (zs := [1]) (heap_alloc_same z1 (.cells #[.int .i64 1] 3))
  have hp := sameInts_any (z1.alloc (.cells #[.int .i64 1] 3)) la _ 1 lc 1 1 [1] [1] rfl rfl (by decide) (hints.keep ((Chg.refl [] z1).alloc (.cells #[.int .i64 1] 3)).kp) hlit
  rw [decide_eq_true rfl] at hp
  refine hp.mono ?_
  rintro e z2 ⟨rfl, h⟩
  have hh : Chg [] z1 z2 := ((Chg.refl [] z1).alloc _).tr0 h
  have F6 := Lib.hid (And.intro (F5.out.1.tr hh) (And.intro (hh.heap F5.out.2.1 (by simp)) (And.intro (F5.out.2.2.1.keep hh.kp) (And.intro (hh.heap F5.out.2.2.2.1 (by simp)) (And.intro (F5.out.2.2.2.2.1.keep hh.kp) (And.intro (hh.heap F5.out.2.2.2.2.2.1 (by simp)) (F5.out.2.2.2.2.2.2.keep hh.kp)))))))
  clear h hh hp hlit hints x0 x1 u0 u1 v0 v1
  obtain ⟨x0, x1⟩ := cells2 F6.out.2.1
  obtain ⟨u0, u1⟩ := cells2 F6.out.2.2.2.1
  obtain ⟨v0, v1⟩ := cells2 F6.out.2.2.2.2.2.1
  go_wp2_with fail
  have hp := wellWell_any _ p1 _ q1 p2 _ q2 ex15 (F6.out.2.2.1) (reach_of (by decide +kernel))
  rw [ex15_says.2.2.1] at hp
  refine hp.mono ?_
  rintro e z3 ⟨rfl, h⟩
  have F7 := Lib.hid (And.intro (F6.out.1.tr h) (And.intro (h.heap F6.out.2.1 (by simp)) (And.intro (F6.out.2.2.1.keep h.kp) (And.intro (h.heap F6.out.2.2.2.1 (by simp)) (And.intro (F6.out.2.2.2.2.1.keep h.kp) (And.intro (h.heap F6.out.2.2.2.2.2.1 (by simp)) (F6.out.2.2.2.2.2.2.keep h.kp)))))))
  clear h hp x0 x1 u0 u1 v0 v1
  obtain ⟨x0, x1⟩ := cells2 F7.out.2.1
  obtain ⟨u0, u1⟩ := cells2 F7.out.2.2.2.1
  obtain ⟨v0, v1⟩ := cells2 F7.out.2.2.2.2.2.1
  go_wp2_with fail
  have hp := wellWell_any _ s1 _ t1 s2 _ t2 exH15 (F7.out.2.2.2.2.2.2) (reach_of (by decide +kernel))
  rw [ex15_says.2.2.2] at hp
  refine hp.mono ?_
  rintro e z4 ⟨rfl, h⟩
  have F8 := Lib.hid (And.intro (F7.out.1.tr h) (And.intro (h.heap F7.out.2.1 (by simp)) (And.intro (F7.out.2.2.1.keep h.kp) (And.intro (h.heap F7.out.2.2.2.1 (by simp)) (And.intro (F7.out.2.2.2.2.1.keep h.kp) (And.intro (h.heap F7.out.2.2.2.2.2.1 (by simp)) (F7.out.2.2.2.2.2.2.keep h.kp)))))))
  clear h hp x0 x1 u0 u1 v0 v1
  obtain ⟨bm, om, am, nm, cm, rfl, hx⟩ := F8.out.2.2.2.2.1.nodes 1 (by decide +kernel)
  have k0 := hx.k
  rw [ex15_k] at k0
  simp only [Nat.one_mul] at k0
  clear hx
  obtain ⟨x0, x1⟩ := cells2 F8.out.2.1
  obtain ⟨u0, u1⟩ := cells2 F8.out.2.2.2.1
  obtain ⟨v0, v1⟩ := cells2 F8.out.2.2.2.2.2.1
  go_wp2_with fail
  have hp := wellWell_any _ _ _ d1 _ _ d2 (mendG ex15) (F8.out.2.2.2.2.1) (reach_of (by decide +kernel))
  rw [mend_well ex15_says.1] at hp
  refine hp.mono ?_
  rintro e z5 ⟨rfl, h⟩
  have F9 := Lib.hid (And.intro (F8.out.1.tr h) (And.intro (h.heap F8.out.2.1 (by simp)) (And.intro (F8.out.2.2.1.keep h.kp) (And.intro (h.heap F8.out.2.2.2.1 (by simp)) (And.intro (F8.out.2.2.2.2.1.keep h.kp) (And.intro (h.heap F8.out.2.2.2.2.2.1 (by simp)) (F8.out.2.2.2.2.2.2.keep h.kp)))))))
  clear h hp x0 x1 u0 u1 v0 v1
  go_wp2_with fail
  go_ret
  exact ⟨rfl, F9.out.1⟩
end Go.Proofs.YtibgfgfmljhimaaGreat

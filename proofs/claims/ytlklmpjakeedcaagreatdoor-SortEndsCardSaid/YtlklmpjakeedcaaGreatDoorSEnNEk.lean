/-
 The kit: a copy of a grammar in rows of its own; a node of it put for another.
 Conditions: the grammar reads as data; it is small.
-/
import Derived.Test.YtlklmpjakeedcaaGreatDoorSEnKB3
import Derived.Test.YtlklmpjakeedcaaGreatDoorSEnLf4
import Derived.Test.YtlklmpjakeedcaaGreatDoorSEnRf1
import Derived.Test.YtlklmpjakeedcaaGreatDoorSEnAp0
set_option linter.unusedVariables false
set_option linter.unusedSimpArgs false
set_option linter.unnecessarySimpa false
namespace Go.Proofs.YtlklmpjakeedcaaGreatDoor
open Go.RowKit Go.MapKept Go.Shelf

/-- A rule's name is written. -/
theorem rules_put {B : Nat} {w : World} {b1 : Option Addr} {d1 : Nat} {rs : List Rl} (h : FreshRules B w b1 d1 rs) {i : Nat} (hi : i < rs.length) :
  ∃ R, b1 = some ⟨R, 0, none⟩ ∧ B ≤ R ∧ (∃ cur, w.heap[R]? = some (.cells cur 53 (0, 0))) ∧ w.cell? ⟨R, i * 2, none⟩ = some (.string rs[i].name) ∧ w.frozen? ⟨R, i * 2, none⟩ = false ∧
   ∀ nm, FreshRules B (w.setCell ⟨R, i * 2, none⟩ (.string nm)) b1 d1 (rs.set i ⟨nm, rs[i].body⟩) ∧ Chg [R] w (w.setCell ⟨R, i * 2, none⟩ (.string nm)) := by
 rcases h.2 with ⟨h0, h1⟩ | ⟨R, cap, cur, h0, hb, hg, hn, hcm, hcs, ht⟩
 ·omega
 have hK : b1 = some ⟨R, 0, none⟩ := by injection h0
 have hcap : cap = d1 := by injection h0 with _ _ h0; exact h0.symm
 subst hcap
 subst hK
 have hcell : ∀ (j : Nat) (u : Value), (rulesCells rs)[j]? = some u → cur[j]? = some u := by
  intro j u hu
  rw [← ht, List.getElem?_take] at hu
  split at hu
  ·simpa using hu
  ·cases hu
 refine ⟨R, rfl, hb, ⟨cur, hg⟩, ?_, free_of_cells hg _, fun nm => ⟨?_, (Chg.refl [R] w).setCell (p := ⟨R, i * 2, none⟩) (.inl (by simp)) _⟩⟩
 ·rw [cell_of_cells hg]
  refine hcell _ _ ?_
  have := flat_get Rl.cells 2 (fun _ => rfl) rs i 0 (by decide)
  rw [Nat.add_zero, List.getElem?_eq_getElem hi, Option.bind_some] at this
  exact this
 ·refine ⟨by rw [rulesCells_len], .inr ⟨R, cap, _, by rw [List.length_set], hb, heap_setCell_same hg _ _, by rw [List.length_set]; exact hn, hcm, by simpa using hcs, ?_⟩⟩
  rw [Array.toList_setIfInBounds, List.take_set, List.length_set, ht]
  apply List.ext_getElem?
  intro j
  have e2 : j = j / 2 * 2 + j % 2 := by omega
  have hr2 : j % 2 < 2 := Nat.mod_lt _ (by decide)
  have hnew := flat_get Rl.cells 2 (fun _ => rfl) (rs.set i ⟨nm, rs[i].body⟩) (j / 2) (j % 2) hr2
  have hold := flat_get Rl.cells 2 (fun _ => rfl) rs (j / 2) (j % 2) hr2
  rw [← e2] at hnew hold
  rw [show rulesCells (rs.set i ⟨nm, rs[i].body⟩) = (rs.set i ⟨nm, rs[i].body⟩).flatMap Rl.cells from rfl, hnew, List.getElem?_set, List.getElem?_set]
  have hl : (rulesCells rs).length = rs.length * 2 := rulesCells_len rs
  by_cases hij : i = j / 2
  ·subst hij
   rw [if_pos rfl, if_pos hi, Option.bind_some]
   by_cases hm : j % 2 = 0
   ·have e3 : j / 2 * 2 = j := by omega
    rw [if_pos e3, if_pos (by rw [hl]; omega), hm]; rfl
   ·have hm1 : j % 2 = 1 := by omega
    rw [if_neg (by omega)]
    rw [show (rulesCells rs)[j]? = _ from hold, List.getElem?_eq_getElem hi, Option.bind_some, hm1]; rfl
  ·rw [if_neg hij, if_neg (by omega)]
   exact hold
end Go.Proofs.YtlklmpjakeedcaaGreatDoor
set_option linter.unusedVariables false
set_option linter.unusedSimpArgs false
set_option linter.unnecessarySimpa false
namespace Go.Proofs.YtlklmpjakeedcaaGreatDoor
open Go.RowKit Go.MapKept Go.Shelf

structure Fit (ns : List Nd) : Prop where
 one : ns ≠ []
 all : ∀ x ∈ ns, (I64 x.k ∧ I64 x.r ∧ I64 x.l ∧ x.s.size ≤ 1000) ∧ x.kids.length ≤ 100 ∧ ∀ z ∈ x.kids, 0 ≤ z ∧ z ≤ ns.length
theorem Fit.small {ns : List Nd} (h : Fit ns) (hl : ns.length ≤ 3000) : Small ns :=
 ⟨hl, h.one, fun x hx => ⟨by have := (h.all x hx).2.1; omega, fun z hz => by have := (h.all x hx).2.2 z hz; omega⟩⟩
theorem fit_one {x : Nd} (hk : x.kids = []) (h1 : I64 x.k) (h2 : I64 x.r) (h3 : I64 x.l) (h4 : x.s.size ≤ 1000) : Fit [x] :=
 ⟨by simp, fun y hy => by
  simp only [List.mem_singleton] at hy
  subst hy
  exact ⟨⟨h1, h2, h3, h4⟩, by rw [hk]; simp, fun z hz => by rw [hk] at hz; cases hz⟩⟩
theorem fit_gramN_mem : ∀ (KL : List (List Nd)) (o : Nat) (x : Nd), x ∈ gramN KL o → ∃ b ∈ KL, ∃ y ∈ b, ∃ q : Nat, x = y.shift q ∧ o ≤ q ∧ q + b.length ≤ o + sumL KL := by
 intro KL
 induction KL with
 | nil => intro o x hx; cases hx
 | cons b bs ih =>
  intro o x hx
  simp only [gramN, List.mem_append] at hx
  rcases hx with hx | hx
  ·simp only [movedL, List.mem_map] at hx
   obtain ⟨y, hy, rfl⟩ := hx
   exact ⟨b, by simp, y, hy, o, rfl, Nat.le_refl _, by simp [sumL]⟩
  ·obtain ⟨c, hc, y, hy, q, e, h1, h2⟩ := ih _ _ hx
   exact ⟨c, by simp [hc], y, hy, q, e, by omega, by simp only [sumL, List.map_cons, List.sum_cons] at h2 ⊢; omega⟩
theorem fit_gramO_mem : ∀ (KL : List (List Nd)) (o : Nat) (z : Int), z ∈ gramO KL o → (o : Int) ≤ z ∧ z ≤ o + sumL KL := by
 intro KL
 induction KL with
 | nil => intro o z hz; cases hz
 | cons b bs ih =>
  intro o z hz
  simp only [gramO, List.mem_cons] at hz
  simp only [sumL, List.map_cons, List.sum_cons]
  rcases hz with rfl | hz
  ·omega
  ·have := ih _ _ hz
   simp only [sumL] at this
   omega
theorem fit_gramRs_mem : ∀ (KL : List (List Nd)) (i o : Nat) (r : Rl), r ∈ gramRs KL i o → r.name.size = 1 ∧ (o : Int) ≤ r.body ∧ r.body ≤ o + sumL KL := by
 intro KL
 induction KL with
 | nil => intro i o z hz; cases hz
 | cons b bs ih =>
  intro i o z hz
  simp only [gramRs, List.mem_cons] at hz
  simp only [sumL, List.map_cons, List.sum_cons]
  rcases hz with rfl | hz
  ·exact ⟨rfl, by simp only; omega, by simp only; omega⟩
  ·have := ih _ _ _ hz
   simp only [sumL] at this
   exact ⟨this.1, by omega, by omega⟩
theorem fit_shift {b : List Nd} (h : Fit b) {y : Nd} (hy : y ∈ b) {q T : Nat} (hq : q + b.length ≤ T) : (I64 (y.shift q).k ∧ I64 (y.shift q).r ∧ I64 (y.shift q).l ∧ (y.shift q).s.size ≤ 1000) ∧ (y.shift q).kids.length ≤ 100 ∧ ∀ z ∈ (y.shift q).kids, 0 ≤ z ∧ z ≤ T := by
 obtain ⟨h1, h2, h3⟩ := h.all y hy
 refine ⟨h1, by simpa [Nd.shift] using h2, fun z hz => ?_⟩
 simp only [Nd.shift, List.mem_map] at hz
 obtain ⟨u, hu, rfl⟩ := hz
 have := h3 u hu
 omega
theorem fit_of {k : Int} (hk : I64 k) {KL : List (List Nd)} (h : ∀ b ∈ KL, Fit b) (hl : KL.length ≤ 100) : Fit (ofL k KL) := by
 refine ⟨by simp [ofL], fun x hx => ?_⟩
 rw [ofL_len]
 simp only [ofL, List.mem_cons] at hx
 rcases hx with rfl | hx
 ·refine ⟨⟨hk, by show I64 0; decide, by show I64 0; decide, by show (0 : Nat) ≤ 1000; omega⟩, by show (gramO KL 1).length ≤ 100; rw [gramO_len]; exact hl, fun z hz => ?_⟩
  have := fit_gramO_mem KL 1 z hz
  omega
 ·obtain ⟨b, hb, y, hy, q, rfl, h1, h2⟩ := fit_gramN_mem KL 1 x hx
  exact fit_shift (h b hb) hy (by omega)
theorem fit_gram {KL : List (List Nd)} (h : ∀ b ∈ KL, Fit b) (hs : sumL KL ≤ 3000) (hn : KL.length ≤ 300) :
  (gramL KL).Wf ∧ Reach (gramL KL) ∧ (gramL KL).rules.length = KL.length ∧ (gramL KL).nodes.length = sumL KL ∧ ∀ x ∈ (gramL KL).nodes, x.kids.length ≤ 100 := by
 have hN : ∀ x ∈ (gramL KL).nodes, (I64 x.k ∧ I64 x.r ∧ I64 x.l ∧ x.s.size ≤ 1000) ∧ x.kids.length ≤ 100 ∧ ∀ z ∈ x.kids, 0 ≤ z ∧ z ≤ sumL KL := fun x hx => by
  obtain ⟨b, hb, y, hy, q, rfl, h1, h2⟩ := fit_gramN_mem KL 0 x hx
  exact fit_shift (h b hb) hy (by omega)
 have hR : (gramL KL).rules.length = KL.length := gramRs_len KL 0 0
 have hL : (gramL KL).nodes.length = sumL KL := gramN_sum KL 0
 refine ⟨⟨fun x hx => ?_, fun r hr => ?_, fun r hr => ?_⟩, ⟨by omega, by omega, fun x hx => by have := (hN x hx).2.1; omega⟩, hR, hL, fun x hx => (hN x hx).2.1⟩
 ·obtain ⟨⟨h1, h2, h3, h4⟩, h5, h6⟩ := hN x hx
  exact ⟨h1, h2, h3, fun z hz => by have := h6 z hz; constructor <;> omega, by simp only [maxLen]; omega⟩
 ·have := (fit_gramRs_mem KL 0 0 r hr).1
  simp only [maxLen]; omega
 ·have := (fit_gramRs_mem KL 0 0 r hr).2
  constructor <;> omega
/-- A body of n nodes, in a row of its own. -/
def FBody (w : World) (a : Option Addr) (n c : Nat) : Prop := ∃ L : List Cp, n = L.length ∧ Fit (L.map (·.1)) ∧ OwnN 0 w a c L
theorem FBody.chg0 {w w' : World} {a : Option Addr} {n c : Nat} (h : FBody w a n c) (hc : Chg [] w w') : FBody w' a n c := by
 obtain ⟨L, h1, h2, h3⟩ := h
 exact ⟨L, h1, h2, h3.chg0 hc⟩
theorem FBody.chg {w w' : World} {S : List Nat} {a : Option Addr} {n c : Nat} (h : FBody w a n c) (hc : Chg S w w') (hS : ∀ k ∈ S, NotRow w 65 k ∧ NotRow w 3 k) : FBody w' a n c := by
 obtain ⟨L, h1, h2, h3⟩ := h
 exact ⟨L, h1, h2, h3.chg hc hS⟩
theorem FBody.nodes {w : World} {a : Option Addr} {n c : Nat} (h : FBody w a n c) : ∃ ns : List Nd, n = ns.length ∧ Nodes w a ns ∧ Fit ns := by
 obtain ⟨L, h1, h2, h3⟩ := h
 exact ⟨L.map (·.1), by rw [h1, List.length_map], h3.read.1, h2⟩
def FitBody (m : Nat) (w : World) (e : Ending) (w' : World) : Prop := ∃ a n c, e = .returned (.slice a n c) ∧ n ≤ m ∧ FBody w' a n c ∧ Chg [] w w'
theorem NewRows.fit {w : World} {ns : List Nd} {e : Ending} {w' : World} {m : Nat} (h : NewRows w ns e w') (hf : Fit ns) (hm : ns.length ≤ m) : FitBody m w e w' := by
 obtain ⟨a, c, L, h1, h2, h3, h4⟩ := h
 subst h2
 exact ⟨a, _, c, h1, hm, ⟨L, by rw [List.length_map], hf, h3.below (Nat.zero_le _)⟩, h4⟩
theorem FitBody.le {m m' : Nat} {w : World} {e : Ending} {w' : World} (h : FitBody m w e w') (hm : m ≤ m') : FitBody m' w e w' := by
 obtain ⟨a, n, c, h1, h2, h3, h4⟩ := h
 exact ⟨a, n, c, h1, by omega, h3, h4⟩
/-- One node of one's own. -/
theorem fbody_one {w : World} {k : Nat} {x : Nd} (hx : x.kids = []) (hf : Fit [x]) (h : w.heap[k]? = some (.cells (x.cells none 0 0) 65 (0, 0))) : FBody w (some ⟨k, 0, none⟩) 1 1 := by
 refine ⟨[(x, none, 0)], rfl, hf, ⟨rfl, .inr ⟨k, 1, _, rfl, Nat.zero_le _, h, Nat.le_refl _, by decide, rfl, ?_⟩⟩, fun p hp => ?_, List.pairwise_singleton _ _⟩
 ·simp [nodesCells, Cp.cells, Nd.cells, hx]
 ·simp only [List.mem_singleton] at hp
  subst hp
  show World.ownsRow w 0 3 1 (.slice none x.kids.length 0) x.kids.length (x.kids.map (Value.int .i64))
  rw [hx]
  exact World.ownsRow_nil _ _ _ _

/-! ### Rows of bodies -/
def BodiesF (w : World) (a : Option Addr) (n : Nat) : Prop := ∃ KL : List (List Nd), n = KL.length ∧ Bodies w a KL ∧ ∀ b ∈ KL, Fit b ∧ b.length ≤ 50
theorem sumL_le : ∀ (KL : List (List Nd)) (m : Nat), (∀ b ∈ KL, b.length ≤ m) → sumL KL ≤ m * KL.length := by
 intro KL
 induction KL with
 | nil => intro m _; simp [sumL]
 | cons b bs ih =>
  intro m h
  have h1 := h b (by simp)
  have h2 := ih m (fun c hc => h c (by simp [hc]))
  simp only [sumL, List.map_cons, List.sum_cons, List.length_cons, Nat.mul_succ] at h2 ⊢
  omega
theorem bodiesF_at {w : World} {a : Option Addr} {n : Nat} (hlen : n ≤ 1000) (h : ∀ i, i < n → ∃ b o a1 m1 c1, a = some ⟨b, o, none⟩ ∧ w.cell? ⟨b, o + i, none⟩ = some (.slice a1 m1 c1) ∧ FBody w a1 m1 c1 ∧ m1 ≤ 50) : BodiesF w a n := by
 have key : ∀ m, m ≤ n → ∃ KL : List (List Nd), m = KL.length ∧ (∀ b ∈ KL, Fit b ∧ b.length ≤ 50) ∧ Bodies w a KL := by
  intro m
  induction m with
  | zero => intro _; exact ⟨[], rfl, (fun b hb => by cases hb), (fun i hi => by cases hi)⟩
  | succ m ih =>
   intro hm
   obtain ⟨KL, h1, h2, h3⟩ := ih (by omega)
   obtain ⟨b, o, a1, m1, c1, e1, e2, e3, e4⟩ := h m (by omega)
   obtain ⟨ns, g1, g2, g3⟩ := e3.nodes
   subst g1
   refine ⟨KL ++ [ns], by simp [← h1], fun c hc => ?_, fun i hi => ?_⟩
   ·rcases List.mem_append.1 hc with hc | hc
    ·exact h2 c hc
    ·simp only [List.mem_singleton] at hc
     subst hc
     exact ⟨g3, e4⟩
   ·by_cases hlt : i < KL.length
    ·rw [List.getElem_append_left hlt]
     exact h3 i hlt
    ·have hi2 : i = m := by simp at hi; omega
     subst hi2
     refine ⟨b, o, a1, c1, e1, ?_, ?_⟩
     ·rw [List.getElem_append_right (by omega)]
      simpa using e2
     ·rw [List.getElem_append_right (by omega)]
      simpa using g2
 obtain ⟨KL, h1, h2, h3⟩ := key n (Nat.le_refl _)
 exact ⟨KL, h1, h3, h2⟩
/-- A row of bodies, of one's own. -/
structure BRow (B : Nat) (w : World) (a : Option Addr) (n c : Nat) (VS : List (Option Addr × Nat × Nat)) : Prop where
 len : n = VS.length
 row : w.ownsRow B 29 1 (.slice a n c) n (VS.map fun v => .slice v.1 v.2.1 v.2.2)
 own : ∀ v ∈ VS, FBody w v.1 v.2.1 v.2.2 ∧ v.2.1 ≤ 50
theorem BRow.nil (B : Nat) (w : World) : BRow B w none 0 0 [] := ⟨rfl, World.ownsRow_nil _ _ _ _, fun v hv => by cases hv⟩
theorem BRow.chg0 {B : Nat} {w w' : World} {a : Option Addr} {n c : Nat} {VS : List (Option Addr × Nat × Nat)} (h : BRow B w a n c VS) (hc : Chg [] w w') : BRow B w' a n c VS :=
 ⟨h.len, hc.row h.row (fun _ _ => by simp), fun v hv => ⟨(h.own v hv).1.chg0 hc, (h.own v hv).2⟩⟩
theorem BRow.snoc {B : Nat} {w w' : World} {a : Option Addr} {n c : Nat} {VS : List (Option Addr × Nat × Nat)} (h : BRow B w a n c VS) {a1 : Option Addr} {m1 c1 : Nat} (hx : FBody w a1 m1 c1) (hm : m1 ≤ 50) {a' : Option Addr} {c' : Nat}
  (hr : w'.ownsRow B 29 1 (.slice a' (n + 1) c') (n + 1) ((VS.map fun v => .slice v.1 v.2.1 v.2.2) ++ [.slice a1 m1 c1])) (hg : w.grownBy w' (Value.slice a n c).ownBlock) :
  BRow B w' a' (n + 1) c' (VS ++ [(a1, m1, c1)]) ∧ ∀ w0, Chg [] w0 w → w0.heap.size ≤ B → Chg [] w0 w' := by
 have hc : Chg (Value.slice a n c).ownBlock.toList w w' := (Chg.refl _ w).grown hg (fun k hk => .inl (by rw [hk]; simp))
 have hS : ∀ k ∈ (Value.slice a n c).ownBlock.toList, NotRow w 65 k ∧ NotRow w 3 k := by
  intro k hk
  simp only [Option.mem_toList] at hk
  exact ⟨row_notrow h.row hk (by decide), row_notrow h.row hk (by decide)⟩
 refine ⟨⟨by rw [List.length_append, ← h.len]; rfl, by rw [List.map_append]; exact hr, fun q hq => ?_⟩, fun w0 h0 hB => h0.grown hg (fun k hk => .inr (by have := (row_beyond h.row hk).1; omega))⟩
 rcases List.mem_append.1 hq with hq | hq
 ·exact ⟨(h.own q hq).1.chg hc hS, (h.own q hq).2⟩
 ·simp only [List.mem_singleton] at hq
  subst hq
  exact ⟨hx.chg hc hS, hm⟩
theorem BRow.bodies {B : Nat} {w : World} {a : Option Addr} {n c : Nat} {VS : List (Option Addr × Nat × Nat)} (h : BRow B w a n c VS) (hn : n ≤ 1000) : BodiesF w a n := by
 refine bodiesF_at hn (fun i hi => ?_)
 have hiV : i < VS.length := by have := h.len; omega
 have hr := h.row
 have hb : ∃ G, a = some ⟨G, 0, none⟩ := by
  rcases hr.2 with ⟨h0, h1⟩ | ⟨g, cap, cur, h0, _⟩
  ·omega
  ·cases h0; exact ⟨g, rfl⟩
 obtain ⟨G, rfl⟩ := hb
 have c0 := (row_put hr (i := i) (by omega)).1
 refine ⟨G, 0, VS[i].1, VS[i].2.1, VS[i].2.2, rfl, ?_, (h.own _ (List.getElem_mem hiV)).1, (h.own _ (List.getElem_mem hiV)).2⟩
 rw [Nat.zero_add, c0]
 simp [hiV]

/-! ### Grammars of one's own -/
structure FG (B : Nat) (w : World) (b1 : Option Addr) (n d1 : Nat) (b2 : Option Addr) (m d2 : Nat) (rs : List Rl) (L : List Cp) : Prop where
 ln : rs.length = n
 lm : L.length = m
 rules : FreshRules B w b1 d1 rs
 nodes : OwnN B w b2 d2 L
 wf : Gr.Wf ⟨rs, L.map (·.1)⟩
 fn : n ≤ 300
 fm : m ≤ 3000
 fk : ∀ x ∈ L.map (·.1), x.kids.length ≤ 100
theorem FG.chg0 {B : Nat} {w w' : World} {b1 : Option Addr} {n d1 : Nat} {b2 : Option Addr} {m d2 : Nat} {rs : List Rl} {L : List Cp} (h : FG B w b1 n d1 b2 m d2 rs L) (hc : Chg [] w w') : FG B w' b1 n d1 b2 m d2 rs L :=
 ⟨h.ln, h.lm, hc.row h.rules (fun _ _ => by simp), h.nodes.chg0 hc, h.wf, h.fn, h.fm, h.fk⟩
theorem FG.gram {B : Nat} {w : World} {b1 : Option Addr} {n d1 : Nat} {b2 : Option Addr} {m d2 : Nat} {rs : List Rl} {L : List Cp} (h : FG B w b1 n d1 b2 m d2 rs L) :
  GramAt w b1 n d1 b2 m d2 ⟨rs, L.map (·.1)⟩ ∧ Reach ⟨rs, L.map (·.1)⟩ := by
 obtain ⟨k1, k2, k3, k4⟩ := rules_row (row_base h.rules (Nat.zero_le _))
 obtain ⟨m1, m2, m3⟩ := h.nodes.read
 have e1 := h.ln
 have e2 := h.lm
 have e3 := h.fn
 have e4 := h.fm
 refine ⟨⟨e1.symm, by omega, k4, k1, by rw [List.length_map]; exact e2.symm, by omega, m3, m1, h.wf⟩, by show rs.length ≤ _; omega, by show (L.map (·.1)).length ≤ _; rw [List.length_map]; omega, fun x hx => by have := h.fk x hx; omega⟩
/-- A rule's name is written. -/
theorem FG.put {B : Nat} {w : World} {b1 : Option Addr} {n d1 : Nat} {b2 : Option Addr} {m d2 : Nat} {rs : List Rl} {L : List Cp} (h : FG B w b1 n d1 b2 m d2 rs L) {i : Nat} (hi : i < n) :
  ∃ R v, b1 = some ⟨R, 0, none⟩ ∧ B ≤ R ∧ (∃ cur, w.heap[R]? = some (.cells cur 53 (0, 0))) ∧ w.cell? ⟨R, i * 2, none⟩ = some v ∧ w.frozen? ⟨R, i * 2, none⟩ = false ∧
   ∀ nm : ByteArray, nm.size ≤ 1000 → ∃ rs', FG B (w.setCell ⟨R, i * 2, none⟩ (.string nm)) b1 n d1 b2 m d2 rs' L ∧ Chg [R] w (w.setCell ⟨R, i * 2, none⟩ (.string nm)) := by
 have hiL : i < rs.length := by have := h.ln; omega
 obtain ⟨R, e, hB, ⟨cur, hcur⟩, hc, hf, hput⟩ := rules_put h.rules hiL
 refine ⟨R, _, e, hB, ⟨cur, hcur⟩, hc, hf, fun nm hnm => ?_⟩
 obtain ⟨p1, p2⟩ := hput nm
 refine ⟨rs.set i ⟨nm, rs[i].body⟩, ⟨by rw [List.length_set]; exact h.ln, h.lm, p1, h.nodes.chg p2 (fun k hk => ?_), ⟨h.wf.nodes, fun r hr => ?_, fun r hr => ?_⟩, h.fn, h.fm, h.fk⟩, p2⟩
 ·simp only [List.mem_singleton] at hk
  subst hk
  exact ⟨.of_cells hcur (by decide), .of_cells hcur (by decide)⟩
 ·rcases List.mem_or_eq_of_mem_set hr with hr | rfl
  ·exact h.wf.names r hr
  ·simp only [maxLen]; omega
 ·rcases List.mem_or_eq_of_mem_set hr with hr | rfl
  ·exact h.wf.bodies r hr
  ·exact h.wf.bodies rs[i] (List.getElem_mem hiL)
def FitGram (n : Nat) (w : World) (e : Ending) (w' : World) : Prop := ∃ b1 d1 b2 m d2 rs L, e = .returned (.agg #[.slice b1 n d1, .slice b2 m d2]) ∧ FG w.heap.size w' b1 n d1 b2 m d2 rs L ∧ Chg [] w w'

set_option maxRecDepth 100000 in
theorem Gram_fit (w : World) (a : Option Addr) (n c : Nat) (h : BodiesF w a n) (hn : n ≤ 60) : Calls Tryz.prog 25 #[.slice a n c] w (FitGram n w) := by
 obtain ⟨KL, h1, h2, h3⟩ := h
 have hsum : sumL KL ≤ 3000 := by
  have := sumL_le KL 50 (fun b hb => (h3 b hb).2)
  have : 50 * KL.length ≤ 50 * 60 := Nat.mul_le_mul_left _ (by omega)
  omega
 refine (Gram_any w a n c KL h1 h2 (fun b hb => (h3 b hb).1.small (by have := (h3 b hb).2; omega)) hsum (by omega)).mono ?_
 rintro e w' ⟨a1, c1, a2, c2, L, rfl, hL, hR, hN, hc⟩
 obtain ⟨q1, q2, q3, q4, q5⟩ := fit_gram (fun b hb => (h3 b hb).1) hsum (by omega)
 rw [q3, ← h1]
 refine ⟨a1, c1, a2, (gramL KL).nodes.length, c2, (gramL KL).rules, L, rfl, ⟨by rw [q3, h1], by rw [← hL, List.length_map], hR, hN, ?_, by omega, by rw [q4]; exact hsum, fun x hx => q5 x (by rw [← hL]; exact hx)⟩, hc⟩
 rw [hL]
 exact q1
end Go.Proofs.YtlklmpjakeedcaaGreatDoor
set_option linter.unusedVariables false
set_option linter.unusedSimpArgs false
set_option linter.unnecessarySimpa false
namespace Go.Proofs.YtlklmpjakeedcaaGreatDoor
open Go.RowKit Go.MapKept Go.Shelf

def setN (c0 c1 c2 c3 : Int) : Nd := { bareN 3 with c0 := c0, c1 := c1, c2 := c2, c3 := c3 }
theorem fit_setN (c0 c1 c2 c3 : Int) : Fit [setN c0 c1 c2 c3] := fit_one rfl (by show I64 3; decide) (by show I64 0; decide) (by show I64 0; decide) (by show (0 : Nat) ≤ 1000; omega)
theorem fit_bare {k : Int} (h : I64 k) : Fit [bareN k] := fit_one rfl h (by show I64 0; decide) (by show I64 0; decide) (by show (0 : Nat) ≤ 1000; omega)
theorem fit_word {s : ByteArray} (h : s.size ≤ 1000) : Fit [wordN s] := fit_one rfl (by show I64 4; decide) (by show I64 0; decide) (by show I64 0; decide) h
theorem fit_call {r l : Int} (h1 : I64 r) (h2 : I64 l) : Fit [callN r l] := fit_one rfl (by show I64 5; decide) h1 h2 (by show (0 : Nat) ≤ 1000; omega)

set_option maxRecDepth 100000 in
set_option maxHeartbeats 1000000 in
theorem Leaf_fit (w : World) (k : Int) (hk : I64 k) : Calls Tryz.prog 29 #[.int .i64 k] w (FitBody 1 w) := by
 go_enter Tryz.func29, Tryz.ntmps29
 go_wp2_with fail
 go_ret
 exact ⟨some ⟨w.heap.size, 0, none⟩, 1, 1, rfl, Nat.le_refl _, fbody_one (x := bareN k) rfl (fit_bare hk) (heap_alloc_same w _), (Chg.refl _ _).alloc _⟩
set_option maxRecDepth 100000 in
set_option maxHeartbeats 1000000 in
theorem Word_fit (w : World) (s : ByteArray) (hs : s.size ≤ 1000) : Calls Tryz.prog 20 #[.string s] w (FitBody 1 w) := by
 go_enter Tryz.func20, Tryz.ntmps20
 go_wp2_with fail
 go_ret
 exact ⟨some ⟨w.heap.size, 0, none⟩, 1, 1, rfl, Nat.le_refl _, fbody_one (x := wordN s) rfl (fit_word hs) (heap_alloc_same w _), (Chg.refl _ _).alloc _⟩
set_option maxRecDepth 100000 in
set_option maxHeartbeats 1000000 in
theorem Call_fit (w : World) (r l : Int) (hr : I64 r) (hl : I64 l) : Calls Tryz.prog 22 #[.int .i64 r, .int .i64 l] w (FitBody 1 w) := by
 go_enter Tryz.func22, Tryz.ntmps22
 go_wp2_with fail
 go_ret
 exact ⟨some ⟨w.heap.size, 0, none⟩, 1, 1, rfl, Nat.le_refl _, fbody_one (x := callN r l) rfl (fit_call hr hl) (heap_alloc_same w _), (Chg.refl _ _).alloc _⟩
theorem cells4 {w : World} {b : Nat} {v0 v1 v2 v3 : Value} {t : TypeId} {m : Nat × Nat} (h : w.heap[b]? = some (.cells #[v0, v1, v2, v3] t m)) : w.cell? ⟨b, 0, none⟩ = some v0 ∧ w.cell? ⟨b, 1, none⟩ = some v1 ∧ w.cell? ⟨b, 2, none⟩ = some v2 ∧ w.cell? ⟨b, 3, none⟩ = some v3 := ⟨cell_of_cells h 0, cell_of_cells h 1, cell_of_cells h 2, cell_of_cells h 3⟩
set_option maxRecDepth 100000 in
set_option maxHeartbeats 8000000 in
theorem Among_fit (w : World) (s : ByteArray) (hs : s.size ≤ 1000) : Calls Tryz.prog 58 #[.string s] w (FitBody 1 w) := by
 go_enter Tryz.func58, Tryz.ntmps58
 go_wp2_with fail
 go_loopg [4] s.size (fun dd iv wr => ∃ i : Nat, dd = s.size - i ∧ i ≤ s.size ∧ iv = .int .i64 i ∧ Hid (∃ c0 c1 c2 c3, wr.heap[w.heap.size]? = some (.cells #[.int .u64 c0, .int .u64 c1, .int .u64 c2, .int .u64 c3] 63 (0, 0)) ∧ Chg [] w wr))
 case atStart => exact ⟨0, rfl, Nat.zero_le _, rfl, Lib.hid ⟨0, 0, 0, 0, heap_alloc_same _ _, (Chg.refl _ _).alloc _⟩⟩
 case round =>
  obtain ⟨i, rfl, hi, rfl, hin⟩ := hrel
  obtain ⟨wq, rfl⟩ : ∃ wz, wz = wr := ⟨_, rfl⟩
  obtain ⟨c0, c1, c2, c3, hb, hc⟩ := hin.out
  have HC := Lib.hid (And.intro hb hc)
  obtain ⟨x0, x1, x2, x3⟩ := cells4 hb
  have f0 := free_of_cells hb 0
  have f1 := free_of_cells hb 1
  have f2 := free_of_cells hb 2
  have f3 := free_of_cells hb 3
  clear hb hc hin
  by_cases hlt : i < s.size
  ·have hx := s[i].toNat_lt
   rcases (show (s[i].toNat : Int) / 64 = 0 ∨ (s[i].toNat : Int) / 64 = 1 ∨ (s[i].toNat : Int) / 64 = 2 ∨ (s[i].toNat : Int) / 64 = 3 by omega) with e | e | e | e
   ·go_wp2_with fail
    go_region
    go_wp2_with fail
    obtain ⟨z, hz⟩ : ∃ z, z = bits BinOp.or IntKind.u64 c0 (IntKind.u64.wrap (2 ^ (s[i].toNat % 64))) := ⟨_, rfl⟩
    rw [← hz]
    go_roundg (s.size - (i + 1))
    case measure => omega
    case rel => exact ⟨i + 1, rfl, by omega, by go_num, Lib.hid ⟨z, c1, c2, c3, heap_setCell_same HC.out.1 0 _, (HC.out.2.setCell (p := ⟨w.heap.size, 0, none⟩) (.inr (Nat.le_refl _)) _).drew⟩⟩
   ·go_wp2_with fail
    go_region
    go_wp2_with fail
    obtain ⟨z, hz⟩ : ∃ z, z = bits BinOp.or IntKind.u64 c1 (IntKind.u64.wrap (2 ^ (s[i].toNat % 64))) := ⟨_, rfl⟩
    rw [← hz]
    go_roundg (s.size - (i + 1))
    case measure => omega
    case rel => exact ⟨i + 1, rfl, by omega, by go_num, Lib.hid ⟨c0, z, c2, c3, heap_setCell_same HC.out.1 1 _, (HC.out.2.setCell (p := ⟨w.heap.size, 1, none⟩) (.inr (Nat.le_refl _)) _).drew⟩⟩
   ·go_wp2_with fail
    go_region
    go_wp2_with fail
    obtain ⟨z, hz⟩ : ∃ z, z = bits BinOp.or IntKind.u64 c2 (IntKind.u64.wrap (2 ^ (s[i].toNat % 64))) := ⟨_, rfl⟩
    rw [← hz]
    go_roundg (s.size - (i + 1))
    case measure => omega
    case rel => exact ⟨i + 1, rfl, by omega, by go_num, Lib.hid ⟨c0, c1, z, c3, heap_setCell_same HC.out.1 2 _, (HC.out.2.setCell (p := ⟨w.heap.size, 2, none⟩) (.inr (Nat.le_refl _)) _).drew⟩⟩
   ·go_wp2_with fail
    go_region
    go_wp2_with fail
    obtain ⟨z, hz⟩ : ∃ z, z = bits BinOp.or IntKind.u64 c3 (IntKind.u64.wrap (2 ^ (s[i].toNat % 64))) := ⟨_, rfl⟩
    rw [← hz]
    go_roundg (s.size - (i + 1))
    case measure => omega
    case rel => exact ⟨i + 1, rfl, by omega, by go_num, Lib.hid ⟨c0, c1, c2, z, heap_setCell_same HC.out.1 3 _, (HC.out.2.setCell (p := ⟨w.heap.size, 3, none⟩) (.inr (Nat.le_refl _)) _).drew⟩⟩
  ·obtain rfl : i = s.size := by omega
   go_wp2_with fail
   go_ret
   exact ⟨some ⟨wq.heap.size, 0, none⟩, 1, 1, rfl, Nat.le_refl _, fbody_one (x := setN c0 c1 c2 c3) rfl (fit_setN _ _ _ _) (heap_alloc_same wq _), HC.out.2.alloc _⟩

theorem Of_fit (w : World) (k : Int) (hk : I64 k) (a : Option Addr) (n c s : Nat) (KL : List (List Nd)) (hn : n = KL.length) (hb : Bodies w a KL) (hf : ∀ b ∈ KL, Fit b) (hs : sumL KL = s) (h1 : s ≤ 2000) (h2 : n ≤ 100) :
  Calls Tryz.prog 24 #[.int .i64 k, .slice a n c] w (FitBody (s + 1) w) := by
 refine (Of_any w k a n c KL hn hb (fun b hm => (hf b hm).small ?_) (by omega) (by omega)).mono fun e w' h => h.fit (fit_of hk hf (by omega)) (by rw [ofL_len, hs]; exact Nat.le_refl _)
 have hle : ∀ (l : List (List Nd)), b ∈ l → b.length ≤ sumL l := by
  intro l
  induction l with
  | nil => intro h; cases h
  | cons x xs ih =>
   intro h
   simp only [sumL, List.map_cons, List.sum_cons]
   rcases List.mem_cons.1 h with rfl | h
   ·omega
   ·have := ih h
    simp only [sumL] at this
    omega
 have := hle KL hm
 omega
theorem In_fit (w : World) (k : Int) (hk : I64 k) (a : Option Addr) (n c : Nat) (h : FBody w a n c) (h1 : n ≤ 1000) : Calls Tryz.prog 23 #[.int .i64 k, .slice a n c] w (FitBody (n + 1) w) := by
 obtain ⟨ns, rfl, g2, g3⟩ := h.nodes
 refine (In_any w k a c ns g2 (g3.small (by omega))).mono fun e w' h => h.fit (fit_of hk (fun b hb => ?_) (by simp)) (by rw [ofL_len]; simp [sumL])
 simp only [List.mem_singleton] at hb
 subst hb
 exact g3
theorem Chain_fit (w : World) (a : Option Addr) (n c : Nat) (h : FBody w a n c) (a' : Option Addr) (n' c' : Nat) (h' : FBody w a' n' c') (h1 : n + n' ≤ 1000) : Calls Tryz.prog 21 #[.slice a n c, .slice a' n' c'] w (FitBody (n + n' + 1) w) := by
 obtain ⟨ns, rfl, g2, g3⟩ := h.nodes
 obtain ⟨ms, rfl, g2', g3'⟩ := h'.nodes
 refine (Chain_any w a c ns a' c' ms g2 (g3.small (by omega)) g2' (g3'.small (by omega)) (by omega)).mono fun e w' h => h.fit (fit_of (by decide) (fun b hb => ?_) (by simp)) (by rw [ofL_len]; simp [sumL])
 simp only [List.mem_cons, List.not_mem_nil, or_false] at hb
 rcases hb with rfl | rfl
 ·exact g3
 ·exact g3'
theorem First_fit (w : World) (a : Option Addr) (n c : Nat) (h : FBody w a n c) (a' : Option Addr) (n' c' : Nat) (h' : FBody w a' n' c') (h1 : n + n' ≤ 1000) : Calls Tryz.prog 56 #[.slice a n c, .slice a' n' c'] w (FitBody (n + n' + 1) w) := by
 obtain ⟨ns, rfl, g2, g3⟩ := h.nodes
 obtain ⟨ms, rfl, g2', g3'⟩ := h'.nodes
 refine (First_any w a c ns a' c' ms g2 (g3.small (by omega)) g2' (g3'.small (by omega)) (by omega)).mono fun e w' h => h.fit (fit_of (by decide) (fun b hb => ?_) (by simp)) (by rw [ofL_len]; simp [sumL])
 simp only [List.mem_cons, List.not_mem_nil, or_false] at hb
 rcases hb with rfl | rfl
 ·exact g3
 ·exact g3'
/-- A node over 3 bodies, in a row just made. -/
theorem Of3_fit (w : World) (k : Int) (hk : I64 k) (a0 : Option Addr) (n0 c0 : Nat) (h0 : FBody w a0 n0 c0) (a1 : Option Addr) (n1 c1 : Nat) (h1 : FBody w a1 n1 c1) (a2 : Option Addr) (n2 c2 : Nat) (h2 : FBody w a2 n2 c2) (hl : n0 + n1 + n2 ≤ 1000) {K : Nat} (hK : w.heap[K]? = some (.cells #[.slice a0 n0 c0, .slice a1 n1 c1, .slice a2 n2 c2] 29 (0, 0))) :
  Calls Tryz.prog 24 #[.int .i64 k, .slice (some ⟨K, 0, none⟩) 3 3] w (FitBody (n0 + n1 + n2 + 1) w) := by
 obtain ⟨x0, rfl, p0, q0⟩ := h0.nodes
 obtain ⟨x1, rfl, p1, q1⟩ := h1.nodes
 obtain ⟨x2, rfl, p2, q2⟩ := h2.nodes
 refine Of_fit w k hk _ 3 3 (x0.length + x1.length + x2.length) [x0, x1, x2] rfl (bodies_made (vs := [(a0, c0), (a1, c1), (a2, c2)]) rfl (fun i h => ?_) hK) (fun b hb => ?_) (by simp [sumL]; omega) (by omega) (by decide)
 ·have hi : i = 0 ∨ i = 1 ∨ i = 2 := by simp at h; omega
  rcases hi with rfl | rfl | rfl
  ·exact p0
  ·exact p1
  ·exact p2
 ·simp only [List.mem_cons, List.not_mem_nil, or_false] at hb
  rcases hb with rfl | rfl | rfl
  ·exact q0
  ·exact q1
  ·exact q2

end Go.Proofs.YtlklmpjakeedcaaGreatDoor
set_option linter.unusedVariables false
set_option linter.unusedSimpArgs false
set_option linter.unnecessarySimpa false
namespace Go.Proofs.YtlklmpjakeedcaaGreatDoor
open Go.RowKit Go.MapKept Go.Shelf

theorem bodies2 {w : World} {a0 : Option Addr} {n0 c0 : Nat} (h0 : FBody w a0 n0 c0) (l0 : n0 ≤ 50) {a1 : Option Addr} {n1 c1 : Nat} (h1 : FBody w a1 n1 c1) (l1 : n1 ≤ 50) {K : Nat} (hK : w.heap[K]? = some (.cells #[.slice a0 n0 c0, .slice a1 n1 c1] 29 (0, 0))) : BodiesF w (some ⟨K, 0, none⟩) 2 := by
 refine bodiesF_at (by decide) (fun i hi => ?_)
 rcases (show i = 0 ∨ i = 1 by omega) with rfl | rfl
 ·exact ⟨K, 0, _, _, _, rfl, cell_of_cells hK 0, h0, l0⟩
 ·exact ⟨K, 0, _, _, _, rfl, cell_of_cells hK 1, h1, l1⟩
theorem FG.chg {B : Nat} {w w' : World} {S : List Nat} {b1 : Option Addr} {n d1 : Nat} {b2 : Option Addr} {m d2 : Nat} {rs : List Rl} {L : List Cp} (h : FG B w b1 n d1 b2 m d2 rs L) (hc : Chg S w w') (hS : ∀ k ∈ S, NotRow w 53 k ∧ NotRow w 65 k ∧ NotRow w 3 k) : FG B w' b1 n d1 b2 m d2 rs L :=
 ⟨h.ln, h.lm, hc.rowOf h.rules (fun k hk => (hS k hk).1), h.nodes.chg hc (fun k hk => (hS k hk).2), h.wf, h.fn, h.fm, h.fk⟩
theorem two_set9 {W : World} {b : Nat} {u0 u1 : Value} {t : TypeId} (h : W.heap[b]? = some (.cells #[u0, u1] t (0, 0))) (v0 v1 : Value) : ∃ w', w' = (W.setCell ⟨b, 0, none⟩ v0).setCell ⟨b, 1, none⟩ v1 ∧ w'.heap[b]? = some (.cells #[v0, v1] t (0, 0)) ∧ Chg [b] W w' := by
 refine ⟨_, rfl, ?_, ((Chg.refl [b] W).setCell (p := ⟨b, 0, none⟩) (.inl (by simp)) _).setCell (p := ⟨b, 1, none⟩) (.inl (by simp)) _⟩
 have h1 := heap_setCell_same h 0 v0
 have h2 := heap_setCell_same h1 1 v1
 exact h2
theorem bodies3 {w : World} {a0 : Option Addr} {n0 c0 : Nat} (h0 : FBody w a0 n0 c0) (l0 : n0 ≤ 50) {a1 : Option Addr} {n1 c1 : Nat} (h1 : FBody w a1 n1 c1) (l1 : n1 ≤ 50) {a2 : Option Addr} {n2 c2 : Nat} (h2 : FBody w a2 n2 c2) (l2 : n2 ≤ 50) {K : Nat} (hK : w.heap[K]? = some (.cells #[.slice a0 n0 c0, .slice a1 n1 c1, .slice a2 n2 c2] 29 (0, 0))) : BodiesF w (some ⟨K, 0, none⟩) 3 := by
 refine bodiesF_at (by decide) (fun i hi => ?_)
 rcases (show i = 0 ∨ i = 1 ∨ i = 2 by omega) with rfl | rfl | rfl
 ·exact ⟨K, 0, _, _, _, rfl, cell_of_cells hK 0, h0, l0⟩
 ·exact ⟨K, 0, _, _, _, rfl, cell_of_cells hK 1, h1, l1⟩
 ·exact ⟨K, 0, _, _, _, rfl, cell_of_cells hK 2, h2, l2⟩
theorem Tryz.infoBody9 : (Tryz.prog.info? 29).map (fun i => (i.zero, i.size, i.bytes)) = some (some (.slice none 0 0), 1, 24) := by kernel_rfl
theorem gram_none (w : World) : GramAt w none 0 0 none 0 0 ⟨[], []⟩ ∧ Reach ⟨[], []⟩ :=
 ⟨⟨rfl, Nat.le_refl _, Nat.zero_le _, (fun i h => by cases h), rfl, Nat.le_refl _, Nat.zero_le _, (fun i h => by cases h), ⟨(fun x hx => by cases hx), (fun x hx => by cases hx), (fun x hx => by cases hx)⟩⟩, by decide, by decide, fun x hx => by cases hx⟩

end Go.Proofs.YtlklmpjakeedcaaGreatDoor

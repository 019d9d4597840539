/-
  A graph turned round, in memory: rows that grow, edge by edge.
  Conditions: none.
-/
import Derived.Test.YtplpboknmhgpiaaCPtCpO0
set_option linter.unusedVariables false
set_option linter.unusedSimpArgs false
set_option linter.unnecessarySimpa false
namespace Go.Proofs.Ytplpboknmhgpiaa
open Go.RowKit Go.MapKept Go.Shelf

/-- Who leads to a number, by so many edges. -/
def turnF (es : List (Nat × Nat)) (q : Nat) : List Int := (es.filter (fun e => e.2 == q)).map (fun e => (e.1 : Int))
theorem turnF_snoc (es : List (Nat × Nat)) (a b : Nat) : turnF (es ++ [(a, b)]) = Cp.upd (turnF es) b (turnF es b ++ [(a : Int)]) := by
  funext q
  unfold turnF Cp.upd
  rw [List.filter_append, List.map_append]
  by_cases h : b = q
  · subst h; simp
  · have : ¬ q = b := fun e => h e.symm
    simp [h, this]
theorem turn_row1 {l : List Nat} (a q : Nat) (h : l.Nodup) : ((l.map (fun b => (a, b))).filter (fun e => e.2 == q)).map (fun e => (e.1 : Int)) = if l.contains q then [(a : Int)] else [] := by
  induction l with
  | nil => simp
  | cons x l ih =>
    obtain ⟨h1, h2⟩ := List.nodup_cons.1 h
    have := ih h2
    by_cases e : x = q
    · subst e
      have h3 : l.contains x = false := by simpa using h1
      rw [h3] at this
      simp only [List.map_cons, List.filter_cons, beq_self_eq_true, if_true, this, List.contains_cons, Bool.true_or]
      simp
    · have h3 : (x == q) = false := by simpa using e
      have h4 : (q == x) = false := by simpa using fun k => e k.symm
      simp only [List.map_cons, List.filter_cons, h3, Bool.false_eq_true, if_false, List.contains_cons, h4, Bool.false_or]
      exact this
theorem turnF_all {G : List (List Nat)} (hG : Cp.RG G) (q : Nat) (hq : q < G.length) : turnF (Cp.edges G) q = natI (Cp.row (Cp.turnR G) q) := by
  rw [Cp.row_turn q hq]
  unfold turnF Cp.edges natI
  generalize List.range G.length = l
  induction l with
  | nil => rfl
  | cons a l ih =>
    rw [List.flatMap_cons, List.filter_append, List.map_append, ih, turn_row1 a q ((hG.rise a).imp (fun h => Nat.ne_of_lt h)), List.filter_cons]
    by_cases h : (Cp.row G a).contains q = true
    · rw [if_pos h, if_pos h]; rfl
    · rw [if_neg h, if_neg h]; rfl
theorem turnF_len {G : List (List Nat)} (hG : Cp.RG G) {pre r : List (Nat × Nat)} (h : pre ++ r = Cp.edges G) (q : Nat) : (turnF pre q).length ≤ 4096 := by
  have h1 := Cp.edges_len hG
  rw [← h, List.length_append] at h1
  unfold turnF
  rw [List.length_map]
  have := List.length_filter_le (fun e : Nat × Nat => e.2 == q) pre
  omega
theorem turn_tab {G : List (List Nat)} (hG : Cp.RG G) : (List.range G.length).map (turnF (Cp.edges G)) = Cp.intsG (Cp.turnR G) := by
  apply List.ext_getElem?
  intro i
  unfold Cp.intsG
  rw [List.getElem?_map, List.getElem?_map]
  by_cases h : i < G.length
  · have h2 : i < (Cp.turnR G).length := by rw [Cp.turn_len]; exact h
    rw [List.getElem?_range h, List.getElem?_eq_getElem h2, Option.map_some, Option.map_some, turnF_all hG i h]
    unfold Cp.row natI
    simp [h2]
  · rw [List.getElem?_eq_none (by simpa using h), List.getElem?_eq_none (by rw [Cp.turn_len]; omega)]; rfl

structure TurnAt (w : World) (b n : Nat) (frm : Nat → List Int) (FS : List Is) (W : World) : Prop where
  chg : Chg [] w W
  base : w.heap.size = b
  own : OwnIs b W (some ⟨b, 0, none⟩) n FS
  box : W.heap[b + 1]? = some (.cells #[.slice (some ⟨b, 0, none⟩) n n] 22 (0, 0))
  frm : FS.map (·.2.2) = (List.range n).map frm
section
variable {w W W' : World} {b n : Nat} {frm : Nat → List Int} {FS : List Is}
theorem TurnAt.len (h : TurnAt w b n frm FS W) : FS.length = n := by
  have := congrArg List.length h.frm
  simpa using this
theorem TurnAt.stays (B : Nat) (hB : b ≤ B) : Stays B (TurnAt w b n frm FS) :=
  ⟨fun h hc => ⟨h.chg.tr hc, h.base, h.own.chg0 hc, hc.heap h.box (by simp), h.frm⟩,
   fun h ht => ⟨(Stays.since B [] w (by rw [h.base]; exact hB)).turn h.chg ht, h.base, (OwnIs.stays B _ _ _ _).turn h.own ht, ht.heap h.box rfl, h.frm⟩⟩
theorem TurnAt.chg0 (h : TurnAt w b n frm FS W) (hc : Chg [] W W') : TurnAt w b n frm FS W' := (TurnAt.stays b (Nat.le_refl b)).chg h hc
theorem TurnAt.putF (h : TurnAt w b n frm FS W) {q : Nat} (hq : q < FS.length) {p' : Is} {W1 : World} (hg : Chg (FS[q].own.toList) W W1) (hp : FreshInts b W1 p'.1 p'.2.1 p'.2.2) (ho : p'.own = FS[q].own ∨ ∃ k, p'.own = some k ∧ W.heap.size ≤ k) :
    TurnAt w b n (Cp.upd frm q p'.2.2) (FS.set q p') (W1.setCell ⟨b, q, none⟩ p'.cell) ∧ Chg [b] W1 (W1.setCell ⟨b, q, none⟩ p'.cell) := by
  obtain ⟨g, e, -, -, -, -, h6, h7⟩ := h.own.put hq hg hp ho
  obtain rfl : b = g := by simpa using e
  have hn4 : b + 1 ∉ FS[q].own.toList := fun hm => ownsRow_ne (h.own.each _ (List.getElem_mem hq)) h.box (by decide) (Option.mem_toList.1 hm)
  refine ⟨⟨?_, h.base, h6, h7.heap (hg.heap h.box hn4) (by simp), ?_⟩, h7⟩
  · refine (h.chg.trans hg (fun j hj => .inr ?_)).trans h7 (fun j hj => .inr (by rw [List.mem_singleton.1 hj, h.base]; omega))
    have := (row_lt (h.own.each _ (List.getElem_mem hq)) (k := j) (by simpa using hj)).1
    rw [h.base]; omega
  · rw [List.map_set, h.frm, Cp.set_range]
end
theorem turn_start (w : World) (b n : Nat) (o6 : Obj) (hb : w.heap.size = b) (hn : n ≤ 64) :
    TurnAt w b n (turnF []) (List.replicate n (none, 0, [])) (((w.alloc (rowN n)).alloc (Obj.cells #[.slice (some ⟨b, 0, none⟩) n n] 22)).alloc o6) ∧
    (((w.alloc (rowN n)).alloc (Obj.cells #[.slice (some ⟨b, 0, none⟩) n n] 22)).alloc o6).heap[b + 2]? = some o6 ∧
    (((w.alloc (rowN n)).alloc (Obj.cells #[.slice (some ⟨b, 0, none⟩) n n] 22)).alloc o6).heap.size = b + 3 := by
  obtain ⟨wa, ea⟩ : ∃ wa, wa = w.alloc (rowN n) := ⟨_, rfl⟩
  rw [← ea]
  obtain ⟨wb, eb⟩ : ∃ wb, wb = wa.alloc (Obj.cells #[Value.slice (some ⟨b, 0, none⟩) n n] 22) := ⟨_, rfl⟩
  rw [← eb]
  obtain ⟨wf, ef⟩ : ∃ wf, wf = wb.alloc o6 := ⟨_, rfl⟩
  rw [← ef]
  have za : wa.heap.size = b + 1 := by rw [ea, ← hb]; simp
  have zb : wb.heap.size = b + 2 := by rw [eb]; simp [za]
  have zf : wf.heap.size = b + 3 := by rw [ef]; simp [zb]
  have cf : Chg [] wb wf := by rw [ef]; exact (Chg.refl [] wb).alloc _
  have cb : Chg [] wa wf := by rw [eb] at cf; exact ((Chg.refl [] wa).alloc _).tr cf
  have ca : Chg [] w wf := by rw [ea] at cb; exact ((Chg.refl [] w).alloc _).tr cb
  have h0 : wa.heap[b]? = some (rowN n) := by rw [ea, ← hb]; exact heap_alloc_same _ _
  have h1 : wb.heap[b + 1]? = some (.cells #[.slice (some ⟨b, 0, none⟩) n n] 22 (0, 0)) := by rw [eb, ← za]; exact heap_alloc_same _ _
  have h5 : wf.heap[b + 2]? = some o6 := by rw [ef, ← zb]; exact heap_alloc_same _ _
  refine ⟨⟨ca, hb, ⟨?_, fun p hp => ?_, ?_⟩, cf.heap h1 (by simp), ?_⟩, h5, zf⟩
  · rw [List.length_replicate, List.map_replicate]
    exact rowN_own (cb.heap h0 (by simp)) (Nat.le_refl _) (by simp only [maxLen]; omega)
  · rw [List.eq_of_mem_replicate hp]
    exact World.ownsRow_nil _ _ _ _
  · refine List.Pairwise.imp_of_mem (R := fun _ _ => True) (fun {p q} hp hq _ k hk => ?_) (List.pairwise_iff_getElem.2 (fun _ _ _ _ _ => trivial))
    rw [List.eq_of_mem_replicate hp] at hk
    cases hk
  · rw [List.map_replicate, show (List.range n).map (turnF []) = (List.range n).map (fun _ => ([] : List Int)) from List.map_congr_left (fun p _ => rfl), List.map_const', List.length_range]
end Go.Proofs.Ytplpboknmhgpiaa

/-
  The memory at work while the parts are put in their order: counts, rows of who leads to a part, boxes.
  Conditions: none.
-/
import Derived.Test.YtlklmpjakeedcaaGreatDoorSEnCpV
import Derived.Test.YtlklmpjakeedcaaGreatDoorSEnCpMb
import Derived.Test.YtlklmpjakeedcaaGreatDoorSEnCpE
set_option linter.unusedVariables false
set_option linter.unusedSimpArgs false
set_option linter.unnecessarySimpa false
namespace Go.Proofs.YtlklmpjakeedcaaGreatDoor
open Go.RowKit Go.MapKept Go.Shelf

theorem pairwise_set {α : Type} {R : α → α → Prop} {l : List α} {i : Nat} {x : α} (h : l.Pairwise R) (hx : ∀ (j : Nat) (hj : j < l.length), j ≠ i → R l[j] x ∧ R x l[j]) : (l.set i x).Pairwise R := by
  rw [List.pairwise_iff_getElem] at h ⊢
  intro j k hj hk hjk
  rw [List.length_set] at hj hk
  rw [List.getElem_set, List.getElem_set]
  by_cases e1 : i = j
  · rw [if_pos e1, if_neg (by omega)]
    exact (hx k hk (by omega)).2
  · rw [if_neg e1]
    by_cases e2 : i = k
    · rw [if_pos e2]; exact (hx j hj (by omega)).1
    · rw [if_neg e2]; exact h j k hj hk hjk
/-- A row among rows of one's own has grown, and is put back. -/
theorem OwnIs.put {B : Nat} {w w1 : World} {a : Option Addr} {c : Nat} {VS : List Is} (h : OwnIs B w a c VS) {q : Nat} (hq : q < VS.length) {p' : Is} (hg : Chg (VS[q].own.toList) w w1) (hp : FreshInts B w1 p'.1 p'.2.1 p'.2.2) (ho : p'.own = VS[q].own ∨ ∃ k, p'.own = some k ∧ w.heap.size ≤ k) :
    ∃ g, a = some ⟨g, 0, none⟩ ∧ B ≤ g ∧ g < w.heap.size ∧ w1.cell? ⟨g, q, none⟩ = some VS[q].cell ∧ w1.frozen? ⟨g, q, none⟩ = false ∧ OwnIs B (w1.setCell ⟨g, q, none⟩ p'.cell) a c (VS.set q p') ∧ Chg [g] w1 (w1.setCell ⟨g, q, none⟩ p'.cell) := by
  obtain ⟨g, rfl, hgB, hgc⟩ := h.at hq
  have hr1 : w1.ownsRow B 34 1 (.slice (some ⟨g, 0, none⟩) VS.length c) VS.length (VS.map Is.cell) := hg.row h.row (fun k hk hm => by
    exact row_notrow h.row hk (by decide) _ _ _ _ _ (h.each _ (List.getElem_mem hq)) (Option.mem_toList.1 hm))
  obtain ⟨h1, h2, h3, ⟨cur, h4⟩, h5⟩ := row_put hr1 (i := q) (by omega)
  obtain ⟨h6, h7⟩ := h5 p'.cell
  have hgl : g < w.heap.size := by
    have := (row_beyond h.row (j := g) rfl).2.1
    exact this
  have hold : ∀ (j : Nat) (hj : j < VS.length), j ≠ q → FreshInts B w1 VS[j].1 VS[j].2.1 VS[j].2.2 := fun j hj hjq => hg.row (h.each _ (List.getElem_mem hj)) (fun k hk hm => by
    have hm' : VS[q].own = some k := by simpa using hm
    have hap := List.pairwise_iff_getElem.1 h.apart
    rcases Nat.lt_or_ge j q with hlt | hge
    · exact hap j q hj hq hlt k hk hm'
    · exact hap q j hq hj (by omega) k hm' hk)
  have hkeep : ∀ {X : Is}, FreshInts B w1 X.1 X.2.1 X.2.2 → FreshInts B (w1.setCell ⟨g, q, none⟩ p'.cell) X.1 X.2.1 X.2.2 := fun hX => h7.row hX (fun k hk hm => by
    rw [List.mem_singleton.1 hm] at hk
    exact ownsRow_ne hX h4 (by decide) hk)
  refine ⟨g, rfl, hgB, hgl, by rw [h1, List.getElem?_map, List.getElem?_eq_getElem hq]; rfl, h2, ⟨?_, fun p hp2 => ?_, ?_⟩, h7⟩
  · rw [List.length_set, List.map_set]; exact h6
  · obtain ⟨j, hj, rfl⟩ := List.getElem_of_mem hp2
    rw [List.length_set] at hj
    rw [List.getElem_set]
    by_cases e : q = j
    · rw [if_pos e]; exact hkeep hp
    · rw [if_neg e]; exact hkeep (hold j hj (fun k => e k.symm))
  · refine pairwise_set h.apart (fun j hj hjq => ?_)
    have hap := List.pairwise_iff_getElem.1 h.apart
    have hlt : ∀ k, VS[j].own = some k → k < w.heap.size := fun k hk => (row_lt (h.each _ (List.getElem_mem hj)) hk).2
    have hne : ∀ k, VS[j].own = some k → VS[q].own ≠ some k := fun k hk hk2 => by
      rcases Nat.lt_or_ge j q with hl | hge
      · exact hap j q hj hq hl k hk hk2
      · exact hap q j hq hj (by omega) k hk2 hk
    refine ⟨fun k hk hk2 => ?_, fun k hk hk2 => ?_⟩
    · rcases ho with e | ⟨k', e, hl⟩
      · rw [e] at hk2; exact hne k hk hk2
      · rw [e] at hk2
        have := hlt k hk
        simp only [Option.some.injEq] at hk2; omega
    · rcases ho with e | ⟨k', e, hl⟩
      · rw [e] at hk; exact hne k hk2 hk
      · rw [e] at hk
        have := hlt k hk2
        simp only [Option.some.injEq] at hk; omega
theorem OwnIs.stays (B' B : Nat) (a : Option Addr) (c : Nat) (VS : List Is) : Stays B' fun W => OwnIs B W a c VS :=
  ⟨fun h hc => h.chg0 hc, fun h ht => ⟨(Stays.row B' _ _ _ _ _ _).turn h.row ht, fun p hp => (Stays.row B' _ _ _ _ _ _).turn (h.each p hp) ht, h.apart⟩⟩
theorem OwnIs.keepQ {B : Nat} {w w' : World} {S : List Nat} {a : Option Addr} {c : Nat} {VS : List Is} (h : OwnIs B w a c VS) (hc : Chg S w w') (h1 : ∀ k ∈ S, (Value.slice a VS.length c).ownBlock ≠ some k) (h2 : ∀ k ∈ S, ∀ p ∈ VS, p.own ≠ some k) : OwnIs B w' a c VS :=
  ⟨hc.row h.row (fun k hk hm => h1 k hm hk), fun p hp => hc.row (h.each p hp) (fun k hk hm => h2 k hm p hp hk), h.apart⟩

/-- What is at work: counts of edges, who leads to a part, three boxes. -/
structure OrdAt (w : World) (b sb m : Nat) (left : Nat → Int) (frm : Nat → List Int) (FS : List Is) (W : World) : Prop where
  chg : Chg [] w W
  base : w.heap.size = b
  box : W.heap[b]? = some (.cells #[.pointer (some ⟨sb, 0, none⟩)] 154 (0, 0))
  left : W.heap[b + 1]? = some (rowI ((List.range m).map left))
  bxl : W.heap[b + 2]? = some (.cells #[.slice (some ⟨b + 1, 0, none⟩) m m] 34 (0, 0))
  own : OwnIs (b + 3) W (some ⟨b + 3, 0, none⟩) m FS
  bxf : W.heap[b + 4]? = some (.cells #[.slice (some ⟨b + 3, 0, none⟩) m m] 36 (0, 0))
  frm : FS.map (·.2.2) = (List.range m).map frm
section
variable {w W W' : World} {b sb m : Nat} {left : Nat → Int} {frm : Nat → List Int} {FS : List Is}
theorem OrdAt.len (h : OrdAt w b sb m left frm FS W) : FS.length = m := by
  have := congrArg List.length h.frm
  simpa using this
theorem OrdAt.stays (B : Nat) (hB : b ≤ B) : Stays B (OrdAt w b sb m left frm FS) :=
  ⟨fun h hc => ⟨h.chg.tr hc, h.base, hc.heap h.box (by simp), hc.heap h.left (by simp), hc.heap h.bxl (by simp), h.own.chg0 hc, hc.heap h.bxf (by simp), h.frm⟩,
   fun h ht => ⟨(Stays.since B [] w (by rw [h.base]; exact hB)).turn h.chg ht, h.base, ht.heap h.box rfl, ht.heap h.left rfl, ht.heap h.bxl rfl, (OwnIs.stays B _ _ _ _).turn h.own ht, ht.heap h.bxf rfl, h.frm⟩⟩
theorem OrdAt.chg0 (h : OrdAt w b sb m left frm FS W) (hc : Chg [] W W') : OrdAt w b sb m left frm FS W' := (OrdAt.stays b (Nat.le_refl b)).chg h hc
/-- Other rows are written. -/
theorem OrdAt.keep (h : OrdAt w b sb m left frm FS W) {S : List Nat} (hc : Chg S W W') (hS : ∀ k ∈ S, b + 5 ≤ k ∧ NotRow W 3 k) : OrdAt w b sb m left frm FS W' := by
  have hn : ∀ j, j ≤ b + 4 → j ∉ S := fun j hj hm => by have := (hS j hm).1; omega
  exact ⟨h.chg.trans hc (fun j hj => .inr (by have := (hS j hj).1; have := h.base; omega)), h.base, hc.heap h.box (hn _ (by omega)), hc.heap h.left (hn _ (by omega)), hc.heap h.bxl (hn _ (by omega)), h.own.keepQ hc (fun k hk e => by
    have := (hS k hk).1
    simp [Value.ownBlock] at e
    omega) (fun k hk p hp => (hS k hk).2 _ _ _ _ _ (h.own.each p hp)), hc.heap h.bxf (hn _ (by omega)), h.frm⟩
theorem rowI_set {w : World} {g n i : Nat} {f : Nat → Int} (h : w.heap[g]? = some (rowI ((List.range n).map f))) (v : Int) : (w.setCell ⟨g, i, none⟩ (.int .i64 v)).heap[g]? = some (rowI ((List.range n).map (Cp.upd f i v))) := by
  rw [heap_setCell_same h, ← Cp.set_range, rowI, List.map_set, List.setIfInBounds_toArray]
theorem rowI_get {w : World} {g n i : Nat} {f : Nat → Int} (h : w.heap[g]? = some (rowI ((List.range n).map f))) (hi : i < n) : w.cell? ⟨g, i, none⟩ = some (.int .i64 (f i)) := by
  rw [cell_of_cells h]; simp [hi]
/-- A count is written. -/
theorem OrdAt.putL (h : OrdAt w b sb m left frm FS W) (i : Nat) (v : Int) : OrdAt w b sb m (Cp.upd left i v) frm FS (W.setCell ⟨b + 1, i, none⟩ (.int .i64 v)) ∧ Chg [b + 1] W (W.setCell ⟨b + 1, i, none⟩ (.int .i64 v)) := by
  have hc : Chg [b + 1] W (W.setCell ⟨b + 1, i, none⟩ (.int .i64 v)) := (Chg.refl [b + 1] W).setCell (p := ⟨b + 1, i, none⟩) (.inl (by simp)) _
  refine ⟨⟨h.chg.trans hc (fun j hj => .inr (by rw [List.mem_singleton.1 hj, h.base]; omega)), h.base, hc.heap h.box (by simp), rowI_set h.left v, hc.heap h.bxl (by simp), h.own.keepQ hc (fun k hk e => ?_) (fun k hk p hp e => ?_), hc.heap h.bxf (by simp), h.frm⟩, hc⟩
  · rw [List.mem_singleton.1 hk] at e
    simp [Value.ownBlock] at e
  · rw [List.mem_singleton.1 hk] at e
    have := (row_lt (h.own.each p hp) e).1; omega
/-- The row of one that is led to has grown, and is put back. -/
theorem OrdAt.putF (h : OrdAt w b sb m left frm FS W) {q : Nat} (hq : q < FS.length) {p' : Is} {W1 : World} (hg : Chg (FS[q].own.toList) W W1) (hp : FreshInts (b + 3) W1 p'.1 p'.2.1 p'.2.2) (ho : p'.own = FS[q].own ∨ ∃ k, p'.own = some k ∧ W.heap.size ≤ k) :
    OrdAt w b sb m left (Cp.upd frm q p'.2.2) (FS.set q p') (W1.setCell ⟨b + 3, q, none⟩ p'.cell) ∧ Chg [b + 3] W1 (W1.setCell ⟨b + 3, q, none⟩ p'.cell) := by
  obtain ⟨g, e, -, -, -, -, h6, h7⟩ := h.own.put hq hg hp ho
  obtain rfl : b + 3 = g := by simpa using e
  have hne : ∀ j, j ≤ b + 2 → j ∉ FS[q].own.toList := fun j hj hm => by
    have := (row_lt (h.own.each _ (List.getElem_mem hq)) (k := j) (by simpa using hm)).1; omega
  have hn4 : b + 4 ∉ FS[q].own.toList := fun hm => ownsRow_ne (h.own.each _ (List.getElem_mem hq)) h.bxf (by decide) (Option.mem_toList.1 hm)
  refine ⟨⟨?_, h.base, h7.heap (hg.heap h.box (hne _ (by omega))) (by simp), h7.heap (hg.heap h.left (hne _ (by omega))) (by simp), h7.heap (hg.heap h.bxl (hne _ (by omega))) (by simp), h6, h7.heap (hg.heap h.bxf hn4) (by simp), ?_⟩, h7⟩
  · refine (h.chg.trans hg (fun j hj => .inr ?_)).trans h7 (fun j hj => .inr (by rw [List.mem_singleton.1 hj, h.base]; omega))
    have := (row_lt (h.own.each _ (List.getElem_mem hq)) (k := j) (by simpa using hj)).1
    rw [h.base]; omega
  · rw [List.map_set, h.frm, Cp.set_range]
end
/-- A row is made, then appended to another one: how far that went. -/
def MixF (B : Nat) (w5 : World) (p : Is) (z : Int) (l1 l2 : Bool) (v1 v2 : Value) (W : World) : Prop :=
  (l2 = true → l1 = true) ∧ Chg p.own.toList w5 W ∧ (l2 = false → Chg [] w5 W) ∧ (l1 = true → l2 = false → ∃ g, v1 = .slice (some ⟨g, 0, none⟩) 1 1 ∧ W.heap[g]? = some (.cells #[.int .i64 z] 3 (0, 0))) ∧
  (l2 = true → ∃ p' : Is, v2 = p'.cell ∧ p'.2.2 = p.2.2 ++ [z] ∧ FreshInts B W p'.1 p'.2.1 p'.2.2 ∧ (p'.own = p.own ∨ ∃ k, p'.own = some k ∧ w5.heap.size ≤ k))
theorem MixF.start (B : Nat) (w5 : World) (p : Is) (z : Int) (v1 v2 : Value) : MixF B w5 p z false false v1 v2 w5.drew :=
  ⟨(fun h => by cases h), (Chg.refl _ _).drew, fun _ => (Chg.refl _ _).drew, (fun h => by cases h), (fun h => by cases h)⟩
theorem MixF.make {B : Nat} {w5 W : World} {p : Is} {z : Int} {l2 : Bool} {v1 v2 : Value} (h : MixF B w5 p z false l2 v1 v2 W) : MixF B w5 p z true l2 (.slice (some ⟨W.heap.size, 0, none⟩) 1 1) v2 (W.alloc (Obj.cells #[.int .i64 z] 3)) := by
  have hl : l2 = false := by
    cases l2 with
    | false => rfl
    | true => have := h.1 rfl; cases this
  subst hl
  exact ⟨(fun h => by cases h), h.2.1.alloc _, fun _ => (h.2.2.1 rfl).alloc _, fun _ _ => ⟨_, rfl, heap_alloc_same _ _⟩, (fun h => by cases h)⟩
theorem MixF.app {B : Nat} {w5 W : World} {p : Is} {z : Int} {v1 v2 : Value} {o : Oper} {a : Act} {K : Act → World → Prop} {Q : Exit → Act → World → Prop} (h : MixF B w5 p z true false v1 v2 W) (hB : B ≤ w5.heap.size) (hp : FreshInts B w5 p.1 p.2.1 p.2.2) (hlen : p.2.2.length ≤ 100000)
    (s x : Operand) (ho : o.op = .call { callee := .builtin .append, args := #[s, x], argTypes := #[34, 34] }) (hs : a.eval s = p.cell) (hx : a.eval x = v1) (hK : ∀ v W', MixF B w5 p z true true v1 v W' → K (a.put o.dst v) W') : Oper.wp Tryz.prog o a W K Q := by
  obtain ⟨-, -, hc, h3, -⟩ := h
  replace hc := hc rfl
  obtain ⟨g, rfl, hg⟩ := h3 rfl rfl
  obtain ⟨i0, hin, hz0, hz1, hz2⟩ := info_parts Tryz.infoInt
  have hr : W.ownsRow B 3 1 p.cell p.2.2.length (p.2.2.map (Value.int .i64)) := hc.row hp (fun _ _ => by simp)
  refine wp_append_row s x 34 ho 3 i0 _ 1 8 Tryz.underlying34 hin hz0 hz1 hz2 rfl (by decide) p.cell p.2.2.length (p.2.2.map (Value.int .i64)) hs (row_base hr (Nat.zero_le _)) ⟨g, 0, none⟩ 1 1 [.int .i64 z] hx rfl (cells_at hg) (by simp [Value.oneCell']) (by simp only [maxLen]; omega) (by omega) ?_
  intro a5 c5 w6 hr6 hg6 hk6
  have hlen6 : (p.2.2 ++ [z]).length = p.2.2.length + 1 := by simp
  have hown : Is.own (a5, c5, p.2.2 ++ [z]) = (Value.slice a5 (p.2.2.length + 1) c5).ownBlock := by
    show (Value.slice a5 (p.2.2 ++ [z]).length c5).ownBlock = _; rw [hlen6]
  have := hK (.slice a5 (p.2.2.length + 1) c5) w6 ⟨fun _ => rfl, ?_, (fun h => by cases h), (fun _ h => by cases h), fun _ => ⟨(a5, c5, p.2.2 ++ [z]), by show _ = Value.slice a5 (p.2.2 ++ [z]).length c5; rw [hlen6], rfl, ?_, ?_⟩⟩
  · exact this
  · exact (hc.any (S := p.own.toList)).grown hg6 (fun k hk => .inl (by show k ∈ p.own.toList; rw [show p.own = some k from hk]; simp))
  · show FreshInts B w6 a5 c5 (p.2.2 ++ [z])
    unfold FreshInts
    rw [hlen6, List.map_append]
    refine row_up hr6 (fun k hk => ?_)
    rcases hk6 with e | e
    · rw [e] at hk
      exact (row_beyond hp hk).1
    · rw [e] at hk
      have := hc.size
      simp only [Option.some.injEq] at hk
      omega
  · rcases hk6 with e | e
    · exact .inl (by rw [hown, e]; rfl)
    · exact .inr ⟨_, by rw [hown, e], hc.size⟩
/-- Ahead of the first edge. -/
theorem ord_start (w : World) (b sb m : Nat) (part : Nat → Int) (o6 : Obj) (hb : w.heap.size = b) (hm : m ≤ 64) :
    OrdAt w b sb m (Cp.lefts part []) (Cp.fromO part []) (List.replicate m (none, 0, [])) ((((((w.alloc (Obj.cells #[.pointer (some ⟨sb, 0, none⟩)] 154)).alloc (rowI (List.replicate m 0))).alloc (Obj.cells #[.slice (some ⟨b + 1, 0, none⟩) m m] 34)).alloc (rowN m)).alloc (Obj.cells #[.slice (some ⟨b + 3, 0, none⟩) m m] 36)).alloc o6) ∧
    ((((((w.alloc (Obj.cells #[.pointer (some ⟨sb, 0, none⟩)] 154)).alloc (rowI (List.replicate m 0))).alloc (Obj.cells #[.slice (some ⟨b + 1, 0, none⟩) m m] 34)).alloc (rowN m)).alloc (Obj.cells #[.slice (some ⟨b + 3, 0, none⟩) m m] 36)).alloc o6).heap[b + 5]? = some o6 ∧
    ((((((w.alloc (Obj.cells #[.pointer (some ⟨sb, 0, none⟩)] 154)).alloc (rowI (List.replicate m 0))).alloc (Obj.cells #[.slice (some ⟨b + 1, 0, none⟩) m m] 34)).alloc (rowN m)).alloc (Obj.cells #[.slice (some ⟨b + 3, 0, none⟩) m m] 36)).alloc o6).heap.size = b + 6 := by
  obtain ⟨wa, ea⟩ : ∃ wa, wa = w.alloc (Obj.cells #[Value.pointer (some ⟨sb, 0, none⟩)] 154) := ⟨_, rfl⟩
  rw [← ea]
  obtain ⟨wb, eb⟩ : ∃ wb, wb = wa.alloc (rowI (List.replicate m 0)) := ⟨_, rfl⟩
  rw [← eb]
  obtain ⟨wc, ec⟩ : ∃ wc, wc = wb.alloc (Obj.cells #[Value.slice (some ⟨b + 1, 0, none⟩) m m] 34) := ⟨_, rfl⟩
  rw [← ec]
  obtain ⟨wd, ed⟩ : ∃ wd, wd = wc.alloc (rowN m) := ⟨_, rfl⟩
  rw [← ed]
  obtain ⟨we, ee⟩ : ∃ we, we = wd.alloc (Obj.cells #[Value.slice (some ⟨b + 3, 0, none⟩) m m] 36) := ⟨_, rfl⟩
  rw [← ee]
  obtain ⟨wf, ef⟩ : ∃ wf, wf = we.alloc o6 := ⟨_, rfl⟩
  rw [← ef]
  have za : wa.heap.size = b + 1 := by rw [ea, ← hb]; simp
  have zb : wb.heap.size = b + 2 := by rw [eb]; simp [za]
  have zc : wc.heap.size = b + 3 := by rw [ec]; simp [zb]
  have zd : wd.heap.size = b + 4 := by rw [ed]; simp [zc]
  have ze : we.heap.size = b + 5 := by rw [ee]; simp [zd]
  have zf : wf.heap.size = b + 6 := by rw [ef]; simp [ze]
  have cf : Chg [] we wf := by rw [ef]; exact (Chg.refl [] we).alloc _
  have ce : Chg [] wd wf := by rw [ee] at cf; exact ((Chg.refl [] wd).alloc _).tr cf
  have cd : Chg [] wc wf := by rw [ed] at ce; exact ((Chg.refl [] wc).alloc _).tr ce
  have cc : Chg [] wb wf := by rw [ec] at cd; exact ((Chg.refl [] wb).alloc _).tr cd
  have cb : Chg [] wa wf := by rw [eb] at cc; exact ((Chg.refl [] wa).alloc _).tr cc
  have ca : Chg [] w wf := by rw [ea] at cb; exact ((Chg.refl [] w).alloc _).tr cb
  have h0 : wa.heap[b]? = some (.cells #[.pointer (some ⟨sb, 0, none⟩)] 154 (0, 0)) := by rw [ea, ← hb]; exact heap_alloc_same _ _
  have h1 : wb.heap[b + 1]? = some (rowI (List.replicate m 0)) := by rw [eb, ← za]; exact heap_alloc_same _ _
  have h2 : wc.heap[b + 2]? = some (.cells #[.slice (some ⟨b + 1, 0, none⟩) m m] 34 (0, 0)) := by rw [ec, ← zb]; exact heap_alloc_same _ _
  have h3 : wd.heap[b + 3]? = some (rowN m) := by rw [ed, ← zc]; exact heap_alloc_same _ _
  have h4 : we.heap[b + 4]? = some (.cells #[.slice (some ⟨b + 3, 0, none⟩) m m] 36 (0, 0)) := by rw [ee, ← zd]; exact heap_alloc_same _ _
  have h5 : wf.heap[b + 5]? = some o6 := by rw [ef, ← ze]; exact heap_alloc_same _ _
  have e1 : List.replicate m (0 : Int) = (List.range m).map (Cp.lefts part []) := by
    rw [show (List.range m).map (Cp.lefts part []) = (List.range m).map (fun _ => (0 : Int)) from List.map_congr_left (fun p _ => by unfold Cp.lefts; rw [Cp.leftN_nil]; rfl), List.map_const', List.length_range]
  refine ⟨⟨ca, hb, cb.heap h0 (by simp), by rw [← e1]; exact cc.heap h1 (by simp), cd.heap h2 (by simp), ⟨?_, fun p hp => ?_, ?_⟩, cf.heap h4 (by simp), ?_⟩, h5, zf⟩
  · rw [List.length_replicate, List.map_replicate]
    exact rowN_own (ce.heap h3 (by simp)) (Nat.le_refl _) (by simp only [maxLen]; omega)
  · rw [List.eq_of_mem_replicate hp]
    exact World.ownsRow_nil _ _ _ _
  · refine List.Pairwise.imp_of_mem (R := fun _ _ => True) (fun {p q} hp hq _ k hk => ?_) (List.pairwise_iff_getElem.2 (fun _ _ _ _ _ => trivial))
    rw [List.eq_of_mem_replicate hp] at hk
    cases hk
  · rw [List.map_replicate, show (List.range m).map (Cp.fromO part []) = (List.range m).map (fun _ => ([] : List Int)) from List.map_congr_left (fun p _ => rfl), List.map_const', List.length_range]
end Go.Proofs.YtlklmpjakeedcaaGreatDoor
set_option linter.unusedVariables false
set_option linter.unusedSimpArgs false
set_option linter.unnecessarySimpa false
namespace Go.Proofs.YtlklmpjakeedcaaGreatDoor
open Go.RowKit Go.MapKept Go.Shelf

def atV (VS : List Is) (p : Nat) : Is := VS.getD p (none, 0, [])
theorem atV_eq {VS : List Is} {p : Nat} (h : p < VS.length) : atV VS p = VS[p] := by simp [atV, h]
section
variable {B : Nat} {w w' : World} {sb : Nat} {ga : Option Addr} {gn gc n : Nat} {A M K P : Is} {la : Option Addr} {lc : Nat} {VS : List Is} {s : Cp.TS} {G : List (List Nat)}
theorem SearchIs.part_row (h : SearchIs B w sb ga gn gc n A M K P la lc VS s) {p : Nat} (hp : p < VS.length) : VS[p].2.2 = natI (s.parts.getD p []) := by
  have h1 : (VS.map (·.2.2))[p]? = (s.parts.map natI)[p]? := by rw [h.parts]
  have h2 : p < s.parts.length := by rw [← h.len]; exact hp
  have h3 : s.parts.getD p [] = s.parts[p] := by simp [h2]
  rw [h3]
  simpa [hp, h2] using h1
theorem SearchIs.part_at (h : SearchIs B w sb ga gn gc n A M K P la lc VS s) (hP : Cp.Parted G s.part s.parts) {p : Nat} (hp : p < VS.length) :
    ∃ gl g c k, la = some ⟨gl, 0, none⟩ ∧ w.cell? ⟨gl, p, none⟩ = some (.slice (some ⟨g, 0, none⟩) k c) ∧ VS[p].cell = .slice (some ⟨g, 0, none⟩) k c ∧ k = (s.parts.getD p []).length ∧ 0 < k ∧ k ≤ c ∧ c ≤ 9223372036854775807 ∧ w.cell? ⟨g, 0, none⟩ = some (.int .i64 (Cp.headO s.parts p : Nat)) ∧ FreshInts B w (some ⟨g, 0, none⟩) c (natI (s.parts.getD p [])) := by
  obtain ⟨gl, rfl, -, hc⟩ := h.own.at hp
  have hr := h.part_row hp
  have h2 : p < s.parts.length := by rw [← h.len]; exact hp
  have h3 : s.parts.getD p [] = s.parts[p] := by simp [h2]
  obtain ⟨a, ha, hpa⟩ := hP.some p h2
  have hmem : a ∈ s.parts.getD p [] := by rw [h3, hP.rows p h2]; simp [ha, hpa]
  have hrow := h.own.each _ (List.getElem_mem hp)
  obtain ⟨ra, rc, zs, hV⟩ : ∃ ra rc zs, VS[p] = (ra, rc, zs) := ⟨_, _, _, rfl⟩
  rw [hV] at hr hrow hc ⊢
  dsimp only at hr hrow
  subst hr
  obtain ⟨k, hk⟩ : ∃ k, k = (s.parts.getD p []).length := ⟨_, rfl⟩
  have hk0 : 0 < k := by rw [hk]; exact List.length_pos_of_mem hmem
  have hln : (natI (s.parts.getD p [])).length = k := by rw [natI_len, hk]
  have hrow' := hrow
  unfold FreshInts at hrow'
  rw [hln] at hrow'
  rcases hrow'.2 with ⟨h0, h1⟩ | ⟨g, cap, cur, h0, hb, hg, hn, hcm, hcs, ht⟩
  · omega
  · simp only [Value.slice.injEq] at h0
    obtain ⟨rfl, -, rfl⟩ := h0
    refine ⟨gl, g, rc, k, rfl, ?_, ?_, hk, hk0, hn, by simpa only [maxLen] using hcm, ?_, hrow⟩
    · rw [hc, Is.cell, hln]
    · rw [Is.cell, hln]
    · rw [(row_put hrow' (i := 0) (by omega)).1]
      cases he : s.parts.getD p [] with
      | nil => rw [he] at hmem; cases hmem
      | cons x l =>
        have : Cp.headO s.parts p = x := by unfold Cp.headO; rw [he]; rfl
        rw [this]; rfl
/-- The parts in another order. -/
theorem SearchIs.turnV (h : SearchIs B w sb ga gn gc n A M K P la lc VS s) {os : List Nat} {oa : Option Addr} {oc : Nat} (hlt : ∀ p ∈ os, p < VS.length) (hnd : os.Nodup) (hr : w.ownsRow B 34 1 (.slice oa os.length oc) os.length ((os.map (atV VS)).map Is.cell)) :
    SearchIs B (w.setCell ⟨sb, 5, none⟩ (.slice oa os.length oc)) sb ga gn gc n A M K P oa oc (os.map (atV VS)) { s with parts := os.map (fun p => s.parts.getD p []) } ∧ Chg [sb] w (w.setCell ⟨sb, 5, none⟩ (.slice oa os.length oc)) := by
  have hc : Chg [sb] w (w.setCell ⟨sb, 5, none⟩ (.slice oa os.length oc)) := (Chg.refl [sb] w).setCell (p := ⟨sb, 5, none⟩) (.inl (by simp)) _
  have hn : ∀ {X : Is}, FreshInts B w X.1 X.2.1 X.2.2 → FreshInts B (w.setCell ⟨sb, 5, none⟩ (.slice oa os.length oc)) X.1 X.2.1 X.2.2 := fun hX => hc.row hX (fun k hk hm => by rw [List.mem_singleton.1 hm] at hk; exact row_ne_search hX h.head hk)
  have hmem : ∀ q ∈ os.map (atV VS), q ∈ VS := fun q hq => by
    obtain ⟨p, hp, rfl⟩ := List.mem_map.1 hq
    rw [atV_eq (hlt p hp)]; exact List.getElem_mem _
  refine ⟨⟨h.low, ?_, hn h.rA, hn h.rM, hn h.rK, hn h.rP, ⟨?_, fun p hp => hn (h.own.each p (hmem p hp)), ?_⟩, h.aAM, h.aAK, h.aAP, h.aMK, h.aMP, h.aKP, fun q hq => h.vA q (hmem q hq), fun q hq => h.vM q (hmem q hq), fun q hq => h.vK q (hmem q hq), fun q hq => h.vP q (hmem q hq), h.aside, h.met, h.back, h.part, ?_⟩, hc⟩
  · rw [heap_setCell_same h.head 5, List.length_map]; rfl
  · rw [List.length_map]
    exact hc.row hr (fun k hk hm => by
      rw [List.mem_singleton.1 hm] at hk
      exact ownsRow_ne hr h.head (by decide) hk)
  · rw [List.pairwise_map]
    refine (List.nodup_iff_pairwise_ne.1 hnd).imp_of_mem fun {p q} hp hq hpq k hk hk2 => ?_
    rw [atV_eq (hlt p hp)] at hk
    rw [atV_eq (hlt q hq)] at hk2
    have hap := List.pairwise_iff_getElem.1 h.own.apart
    rcases Nat.lt_or_ge p q with hl | hge
    · exact hap p q (hlt p hp) (hlt q hq) hl k hk hk2
    · exact hap q p (hlt q hq) (hlt p hp) (by omega) k hk2 hk
  · rw [List.map_map, List.map_map]
    refine List.map_congr_left fun p hp => ?_
    show (atV VS p).2.2 = natI (s.parts.getD p [])
    rw [atV_eq (hlt p hp)]; exact h.part_row (hlt p hp)
theorem SearchIs.partF (h : SearchIs B w sb ga gn gc n A M K P la lc VS s) {f : Nat → Int} (hf : ∀ a, a < n → s.part a = f a) : SearchIs B w sb ga gn gc n A M K P la lc VS { s with part := f } :=
  ⟨h.low, h.head, h.rA, h.rM, h.rK, h.rP, h.own, h.aAM, h.aAK, h.aAP, h.aMK, h.aMP, h.aKP, h.vA, h.vM, h.vK, h.vP, h.aside, h.met, h.back, h.part.trans (List.map_congr_left fun a ha => hf a (List.mem_range.1 ha)), h.parts⟩
theorem SearchIs.stays (B' : Nat) : Stays B' fun W => SearchIs B W sb ga gn gc n A M K P la lc VS s :=
  ⟨fun h hc => h.chg0 hc, fun h ht => ⟨h.low, ht.heap h.head rfl, (Stays.row B' _ _ _ _ _ _).turn h.rA ht, (Stays.row B' _ _ _ _ _ _).turn h.rM ht, (Stays.row B' _ _ _ _ _ _).turn h.rK ht, (Stays.row B' _ _ _ _ _ _).turn h.rP ht, (OwnIs.stays B' _ _ _ _).turn h.own ht, h.aAM, h.aAK, h.aAP, h.aMK, h.aMP, h.aKP, h.vA, h.vM, h.vK, h.vP, h.aside, h.met, h.back, h.part, h.parts⟩⟩
end
end Go.Proofs.YtlklmpjakeedcaaGreatDoor

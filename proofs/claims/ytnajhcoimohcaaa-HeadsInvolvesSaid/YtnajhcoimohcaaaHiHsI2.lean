/-
  HeadsInvolves: the rows of rules in memory; pairs stand once.
  Conditions: none.
-/
import Derived.Test.YtnajhcoimohcaaaHiHsI1
set_option linter.unusedVariables false
set_option linter.unusedSimpArgs false
set_option linter.unnecessarySimpa false
namespace Go.Proofs.Ytnajhcoimohcaaa
open Go.RowKit Go.MapKept

def DistX (x : Stt) : Prop := x.l.Pairwise fun a b => ¬ (a.rule = b.rule ∧ a.place = b.place)
theorem DistX.step {k : Nat} {x : Stt} (h : DistX x) (d : Stp) : DistX (stepX k d x) := by
  unfold stepX
  split
  · unfold enterX
    split
    · exact h
    · rename_i hw
      refine List.pairwise_append.2 ⟨h, by simp, fun a ha b hb => ?_⟩
      simp only [List.mem_singleton] at hb
      subst hb
      rcases atI_cases (x.l.map Sd.fm) d.rule (plI x.l d.on) with ⟨-, h2⟩ | ⟨W, hW, h1, -⟩
      · exact h2 a.fm (List.mem_map_of_mem ha)
      · unfold whereI at hw; omega
  · split
    · exact List.Pairwise.sublist (List.take_sublist _ _) h
    · split
      · unfold readX
        split
        · exact h
        · exact h
      · exact h
theorem dist_runAt (ds : List Stp) : ∀ k, k ≤ ds.length → DistX (runAt ds k) := by
  intro k
  induction k with
  | zero => intro _; exact .nil
  | succ k ih =>
    intro hk
    rw [runAt_succ ds (List.getElem?_eq_getElem (by omega))]
    exact (ih (by omega)).step _
theorem inv_at {k : Nat} {x : Stt} (hI : HIv k x) (hD : DistX x) {q : Nat} {f : Fm} {g : Sd} (hf : x.s[q]? = some f) (hg : x.l[q]? = some g) : invL x.s g.rule g.place = f.inv := by
  obtain ⟨hql, hgv⟩ := List.getElem?_eq_some_iff.1 hg
  have hw : whereI x.l g.rule g.place = q := atI_some (s := x.l.map Sd.fm) (by simpa using hql) (by simp only [List.getElem_map, hgv]; exact ⟨rfl, rfl⟩) (fun j hj => by
    simp only [List.getElem_map]
    have := List.pairwise_iff_getElem.1 hD j q (by omega) hql hj
    rw [hgv] at this
    exact this)
  unfold invL
  rw [hI.at_eq, hw, if_neg (by omega), Int.toNat_natCast, hf]

structure Ri where
  zs : List Int
  a : Option Addr
  c : Nat
def Ri.v (x : Ri) : Value := .slice x.a x.zs.length x.c
def riCells (l : List Ri) : List Value := l.map Ri.v
theorem riCells_len (l : List Ri) : (riCells l).length = l.length := by simp [riCells]
/-- Rows of rules, each its own. -/
structure InAt (b : Nat) (w : World) (ia : Option Addr) (ic : Nat) (l : List Ri) : Prop where
  row : w.ownsRow b 38 1 (.slice ia l.length ic) l.length (riCells l)
  rows : ∀ (i : Nat) (x : Ri), l[i]? = some x → FreshInts b w x.a x.c x.zs
  apart : ∀ (i j : Nat) (x y : Ri), l[i]? = some x → l[j]? = some y → i ≠ j → ∀ k, x.v.ownBlock = some k → y.v.ownBlock ≠ some k
theorem InAt.start (b : Nat) (w : World) : InAt b w none 0 [] := ⟨World.ownsRow_nil _ _ _ _, by simp, by simp⟩
theorem InAt.chg0 {b : Nat} {w w' : World} {ia : Option Addr} {ic : Nat} {l : List Ri} (h : InAt b w ia ic l) (hc : Chg [] w w') : InAt b w' ia ic l :=
  ⟨hc.row h.row (fun _ _ => by simp), fun i x hx => hc.row (h.rows i x hx) (fun _ _ => by simp), h.apart⟩
theorem InAt.chgB {b b' : Nat} {w w' : World} {ia : Option Addr} {ic : Nat} {l : List Ri} (h : InAt b w ia ic l) (hc : ChgB b' w w') : InAt b w' ia ic l :=
  ⟨hc.row h.row (.inr rfl), fun i x hx => hc.row (h.rows i x hx) (.inl rfl), h.apart⟩
def ChgA (b : Nat) (w w' : World) : Prop := ∃ S, (∀ k ∈ S, b ≤ k) ∧ Chg S w w'
theorem ChgB.toA {b : Nat} {w w' : World} (h : ChgB b w w') : ChgA b w w' := by
  obtain ⟨S, h1, h2⟩ := h
  exact ⟨S, fun k hk => (h1 k hk).1, h2⟩
theorem ChgA.tr {b : Nat} {u v w : World} (h : ChgA b u v) (k : ChgA b v w) : ChgA b u w := by
  obtain ⟨S, h1, h2⟩ := h
  obtain ⟨T, k1, k2⟩ := k
  exact ⟨S ++ T, fun j hj => (List.mem_append.1 hj).elim (h1 j) (k1 j), (h2.mono (T := S ++ T) (fun j hj => .inl (by simp [hj]))).trans k2 (fun j hj => .inl (by simp [hj]))⟩
theorem ChgA.done {b : Nat} {v w : World} (h : ChgA b v w) (hb : v.heap.size ≤ b) : Chg [] v w := by
  obtain ⟨S, h1, h2⟩ := h
  exact h2.mono fun j hj => .inr (by have := h1 j hj; omega)
theorem ChgA.size {b : Nat} {v w : World} (h : ChgA b v w) : v.heap.size ≤ w.heap.size := by
  obtain ⟨S, _, h2⟩ := h
  exact h2.size
/-- Of what was, at most rows of numbers and rows of these are others. -/
def ChgI (b : Nat) (w w' : World) : Prop := ∃ S, (∀ k ∈ S, b ≤ k ∧ ∃ cs t, w.heap[k]? = some (.cells cs t (0, 0)) ∧ (t = 3 ∨ t = 38)) ∧ Chg S w w'
theorem ChgI.toA {b : Nat} {w w' : World} (h : ChgI b w w') : ChgA b w w' := by
  obtain ⟨S, h1, h2⟩ := h
  exact ⟨S, fun k hk => (h1 k hk).1, h2⟩
theorem HPX.keepI {b : Nat} {w w' : World} {H : Nat} {x : Stt} (h : HPX b w H x) (hc : ChgI b w w') : HPX b w' H x := by
  obtain ⟨B, a, c, fr, y, h1, h2, h3, h4⟩ := h
  obtain ⟨S, k1, k2⟩ := hc
  refine ⟨B, a, c, fr, y, h1.chg k2 (fun k hk hm => ?_), h2.chg k2 (fun k hk hm => ?_), h3, h4⟩
  · obtain ⟨-, cs, t, e1, e2⟩ := k1 k hm
    rcases h1.fpKind hk e1 with e | e <;> rcases e2 with e2 | e2 <;> (rw [e2] at e; exact absurd e (by decide))
  · obtain ⟨-, cs, t, e1, e2⟩ := k1 k hm
    rcases e2 with rfl | rfl <;> exact h2.notFp e1 (by decide) (by decide) (by decide) (by decide) hk
theorem InAt.get {b : Nat} {w : World} {ia : Option Addr} {ic : Nat} {l : List Ri} (h : InAt b w ia ic l) {i : Nat} {x : Ri} (hx : l[i]? = some x) :
    ∃ G, ia = some ⟨G, 0, none⟩ ∧ l.length ≤ ic ∧ ic ≤ 9223372036854775807 ∧ w.cell? ⟨G, i, none⟩ = some (.slice x.a x.zs.length x.c) ∧ w.frozen? ⟨G, i, none⟩ = false ∧ G < w.heap.size ∧ ∃ cur, w.heap[G]? = some (.cells cur 38 (0, 0)) := by
  have hil := (List.getElem?_eq_some_iff.1 hx).1
  obtain ⟨G, e, h1, h2, h3, h4, cur, h5⟩ := row_cells h.row (by omega)
  refine ⟨G, e, h1, h2, ?_, free_of_cells h5 i, h4, cur, h5⟩
  rw [h3 i (by omega)]
  simp only [riCells, List.getElem?_map, hx, Option.map_some, Ri.v]
theorem InAt.pushNil {b : Nat} {w wA w5 : World} {ia : Option Addr} {ic : Nat} {l : List Ri} (h : InAt b w ia ic l) (hbw : b ≤ w.heap.size) (hA : Chg [] w wA) {a2 : Option Addr} {c2 : Nat}
    (hr : w5.ownsRow 0 38 1 (.slice a2 (l.length + 1) c2) (l.length + 1) (riCells l ++ [.slice none 0 0])) (hg : wA.grownBy w5 (Value.slice ia l.length ic).ownBlock) (hk : (Value.slice a2 (l.length + 1) c2).ownBlock = (Value.slice ia l.length ic).ownBlock ∨ (Value.slice a2 (l.length + 1) c2).ownBlock = some wA.heap.size) :
    InAt b w5 a2 c2 (l ++ [⟨[], none, 0⟩]) ∧ ChgI b w w5 := by
  have hA2 := h.chg0 hA
  have hsz := hA.size
  have hcG : Chg (Value.slice ia l.length ic).ownBlock.toList wA w5 := (Chg.refl _ wA).grown hg (fun k hk => .inl (by rw [hk]; simp))
  refine ⟨⟨?_, fun i x hx => ?_, fun i j x y hx hy hij k hk1 hk2 => ?_⟩, ?_⟩
  · rw [show riCells (l ++ [⟨[], none, 0⟩]) = riCells l ++ [.slice none 0 0] by simp [riCells, Ri.v], List.length_append, List.length_singleton]
    refine row_up b hr (fun k hk3 => ?_)
    rcases hk with e | e
    · rw [e] at hk3; exact (row_beyond hA2.row hk3).1
    · rw [e] at hk3; cases hk3; omega
  · by_cases hi : i < l.length
    · rw [List.getElem?_append_left hi] at hx
      refine hcG.rowOf (hA2.rows i x hx) (fun k hk3 => ?_)
      obtain ⟨_, _, cur, hcur⟩ := row_beyond hA2.row (by simpa using hk3)
      exact .of_cells hcur (by decide)
    · obtain ⟨hlt, -⟩ := List.getElem?_eq_some_iff.1 hx
      have hi2 : i = l.length := by simp at hlt; omega
      subst hi2
      rw [List.getElem?_append_right (Nat.le_refl _), Nat.sub_self] at hx
      cases hx
      exact World.ownsRow_nil _ _ _ _
  · by_cases hi : i < l.length
    · by_cases hj : j < l.length
      · rw [List.getElem?_append_left hi] at hx
        rw [List.getElem?_append_left hj] at hy
        exact h.apart i j x y hx hy hij k hk1 hk2
      · rw [List.getElem?_append_right (by omega)] at hy
        have : y = ⟨[], none, 0⟩ := by have := List.mem_of_getElem? hy; simpa using this
        subst this
        simp [Ri.v, Value.ownBlock] at hk2
    · rw [List.getElem?_append_right (by omega)] at hx
      have : x = ⟨[], none, 0⟩ := by have := List.mem_of_getElem? hx; simpa using this
      subst this
      simp [Ri.v, Value.ownBlock] at hk1
  · refine ⟨_, fun k hk3 => ?_, (hA.any).tr hcG⟩
    obtain ⟨h1, h2, cur, hcur⟩ := row_beyond h.row (by simpa using hk3)
    exact ⟨h1, cur, _, hcur, .inr rfl⟩
theorem InAt.take {b : Nat} {w : World} {G : Addr} {ic : Nat} {l : List Ri} (h : InAt b w (some G) ic l) {m : Nat} (hm : m ≤ l.length) : InAt b w (some G) ic (l.take m) := by
  have e : (l.take m).length = m := by rw [List.length_take]; omega
  have ht := row_take h.row hm (by simp)
  have e1 : (riCells l).take (m * 1) = riCells (l.take m) := by simp [riCells, List.map_take]
  rw [e1] at ht
  refine ⟨by rw [e]; exact ht, fun i x hx => h.rows i x ?_, fun i j x y hx hy => h.apart i j x y ?_ ?_⟩
  · have hi : i < m := by have := (List.getElem?_eq_some_iff.1 hx).1; omega
    rwa [List.getElem?_take_of_lt hi] at hx
  · have hi : i < m := by have := (List.getElem?_eq_some_iff.1 hx).1; omega
    rwa [List.getElem?_take_of_lt hi] at hx
  · have hi : j < m := by have := (List.getElem?_eq_some_iff.1 hy).1; omega
    rwa [List.getElem?_take_of_lt hi] at hy
/-- A rule more in one of the rows. -/
theorem InAt.put {b : Nat} {w wA w5 : World} {G : Nat} {ic : Nat} {l : List Ri} (h : InAt b w (some ⟨G, 0, none⟩) ic l) (hbw : b ≤ w.heap.size) (hA : Chg [] w wA) {i : Nat} {x : Ri} (hx : l[i]? = some x) (z : Int) {a2 : Option Addr} {c2 : Nat}
    (hr : w5.ownsRow 0 3 1 (.slice a2 (x.zs.length + 1) c2) (x.zs.length + 1) (x.zs.map (Value.int .i64) ++ [.int .i64 z])) (hg : wA.grownBy w5 (Value.slice x.a x.zs.length x.c).ownBlock) (hk : (Value.slice a2 (x.zs.length + 1) c2).ownBlock = (Value.slice x.a x.zs.length x.c).ownBlock ∨ (Value.slice a2 (x.zs.length + 1) c2).ownBlock = some wA.heap.size) :
    InAt b (w5.setCell ⟨G, i, none⟩ (.slice a2 (x.zs.length + 1) c2)) (some ⟨G, 0, none⟩) ic (l.set i ⟨x.zs ++ [z], a2, c2⟩) ∧ ChgI b w (w5.setCell ⟨G, i, none⟩ (.slice a2 (x.zs.length + 1) c2)) := by
  have hA2 := h.chg0 hA
  have hsz := hA.size
  have hil := (List.getElem?_eq_some_iff.1 hx).1
  have hcG : Chg (Value.slice x.a x.zs.length x.c).ownBlock.toList wA w5 := (Chg.refl _ wA).grown hg (fun k hk => .inl (by rw [hk]; simp))
  have hxA := hA2.rows i x hx
  have hrow5 : w5.ownsRow b 38 1 (.slice (some ⟨G, 0, none⟩) l.length ic) l.length (riCells l) := hcG.rowOf hA2.row (fun k hk3 => by
    obtain ⟨_, _, cur, hcur⟩ := row_beyond hxA (by simpa using hk3)
    exact .of_cells hcur (by decide))
  obtain ⟨-, -, hbG, ⟨cur, hcur⟩, hput⟩ := row_put hrow5 (i := i) (by omega)
  obtain ⟨hp1, hp2⟩ := hput (.slice a2 (x.zs.length + 1) c2)
  obtain ⟨hb0, hG0, cur0, hcur0⟩ := row_beyond h.row (j := G) rfl
  have hnotG : ∀ k ∈ [G], NotRow w5 3 k := fun k hk3 => by
    simp only [List.mem_singleton] at hk3
    subst hk3
    exact .of_cells hcur (by decide)
  have hblk2 : ∀ k, (Value.slice a2 (x.zs.length + 1) c2).ownBlock = some k → (Value.slice x.a x.zs.length x.c).ownBlock = some k ∨ k = wA.heap.size := fun k hk3 => by
    rcases hk with e | e
    · rw [e] at hk3; exact .inl hk3
    · rw [e] at hk3; cases hk3; exact .inr rfl
  have hset : ∀ (j : Nat) (y : Ri), (l.set i ⟨x.zs ++ [z], a2, c2⟩)[j]? = some y → (j = i ∧ y = ⟨x.zs ++ [z], a2, c2⟩) ∨ (j ≠ i ∧ l[j]? = some y) := fun j y hy => by
    by_cases e : j = i
    · subst e
      rw [List.getElem?_set_self hil] at hy
      cases hy
      exact .inl ⟨rfl, rfl⟩
    · rw [List.getElem?_set_ne (fun h => e h.symm)] at hy
      exact .inr ⟨e, hy⟩
  have hltA : ∀ (j : Nat) (y : Ri), l[j]? = some y → ∀ k, y.v.ownBlock = some k → k < wA.heap.size := fun j y hy k hk3 => (row_beyond (hA2.rows j y hy) hk3).2.1
  refine ⟨⟨?_, fun j y hy => ?_, fun j j2 y y2 hy hy2 hne k hk1 hk2 => ?_⟩, ?_⟩
  · rw [List.length_set]
    have e : riCells (l.set i ⟨x.zs ++ [z], a2, c2⟩) = (riCells l).set i (.slice a2 (x.zs.length + 1) c2) := by simp [riCells, List.map_set, Ri.v]
    rw [e]
    exact hp1
  · rcases hset j y hy with ⟨-, rfl⟩ | ⟨hj, hy⟩
    · unfold FreshInts
      simp only [List.length_append, List.length_singleton, List.map_append, List.map_cons, List.map_nil]
      refine hp2.rowOf (row_up b hr (fun k hk3 => ?_)) hnotG
      rcases hblk2 k hk3 with e | e
      · exact (row_beyond hxA e).1
      · omega
    · refine hp2.rowOf (hcG.row (hA2.rows j y hy) (fun k hk3 hm => ?_)) hnotG
      exact h.apart j i y x hy hx hj k hk3 (by simpa [Ri.v] using hm)
  · rcases hset j y hy with ⟨rfl, rfl⟩ | ⟨hj, hy'⟩
    · rcases hset j2 y2 hy2 with ⟨rfl, rfl⟩ | ⟨hj2, hy2'⟩
      · exact hne rfl
      · have hk1 : (Value.slice a2 (x.zs.length + 1) c2).ownBlock = some k := by simpa [Ri.v] using hk1
        rcases hblk2 k hk1 with e | e
        · exact h.apart j j2 x y2 hx hy2' hne k e hk2
        · have := hltA j2 y2 hy2' k hk2; omega
    · rcases hset j2 y2 hy2 with ⟨rfl, rfl⟩ | ⟨hj2, hy2'⟩
      · have hk2 : (Value.slice a2 (x.zs.length + 1) c2).ownBlock = some k := by simpa [Ri.v] using hk2
        rcases hblk2 k hk2 with e | e
        · exact h.apart j j2 y x hy' hx hne k hk1 e
        · have := hltA j y hy' k hk1; omega
      · exact h.apart j j2 y y2 hy' hy2' hne k hk1 hk2
  · refine ⟨(Value.slice x.a x.zs.length x.c).ownBlock.toList ++ [G], fun k hk3 => ?_, ((hA.any.tr (hcG.mono (fun j hj => .inl (by simp only [List.mem_append]; exact .inl hj)))).tr (hp2.mono (fun j hj => .inl (by simp only [List.mem_append]; exact .inr hj))))⟩
    rcases List.mem_append.1 hk3 with hk3 | hk3
    · obtain ⟨h1, h2, cur, hcur⟩ := row_beyond (h.rows i x hx) (by simpa using hk3)
      exact ⟨h1, cur, _, hcur, .inl rfl⟩
    · simp only [List.mem_singleton] at hk3
      subst hk3
      exact ⟨hb0, cur0, _, hcur0, .inr rfl⟩
end Go.Proofs.Ytnajhcoimohcaaa

/-
  The walks over package seed: a pair goes live.
  Conditions: as in the texts before.
-/
import Derived.Test.YtffjfkjlahdedaaSnsSeedC
set_option linter.unusedVariables false
set_option linter.unusedSimpArgs false
set_option linter.unnecessarySimpa false
namespace Go.Proofs.Ytffjfkjlahdedaa
open Go.RowKit Go.MapKept

theorem foundAt_shape {NB : Nat} {w : World} {v : Value} {f : Found} (h : FoundAt NB w v f) : ∃ b e l a n c, v = foundV b e l a n c := by
  cases f with
  | none => exact ⟨_, _, _, _, _, _, h⟩
  | some x => obtain ⟨e, l, t⟩ := x; obtain ⟨a, n, c, h, _⟩ := h; exact ⟨_, _, _, _, _, _, h⟩
theorem St.get_none {s : St} {q : Int × Int} (h : q ∉ s.map (·.1)) : s.get q = none := by
  unfold St.get
  simp only [Option.map_eq_none_iff, List.find?_eq_none, decide_eq_true_eq]
  intro x hx e
  exact h (List.mem_map.2 ⟨x, hx, e⟩)
theorem St.get_some {s : St} {q : Int × Int} (h : q ∈ s.map (·.1)) : ∃ f, s.get q = some f := by
  unfold St.get
  obtain ⟨x, hx, e⟩ := List.mem_map.1 h
  cases hf : s.find? (fun x => x.1 = q) with
  | none => have := List.find?_eq_none.1 hf x hx; simp [e] at this
  | some y => exact ⟨y.2, rfl⟩

def BeginPost (NB : Nat) (b : Nat) (v : Value) (m : Nat) (s : St) (q : Int × Int) (w : World) (e : Ending) (w' : World) : Prop :=
  ∃ v', e = .returned (.int .i64 (if q ∈ s.map (·.1) then 8 else 0)) ∧ StoreAt NB w' b v' m (if q ∈ s.map (·.1) then s else s ++ [(q, none)]) ∧ Chg (own b v m) w w' ∧ (∀ k, v'.ownBlock = some k → v.ownBlock = some k ∨ w.heap.size ≤ k)

theorem StoreAt.keep {NB : Nat} {w w' : World} {b m : Nat} {v : Value} {s : St} (h : StoreAt NB w b v m s) (hc : Chg [] w w') : StoreAt NB w' b v m s := by
  obtain ⟨M, hM, hg⟩ := h.map
  refine ⟨hc.heap h.head (by simp), hc.row h.row (by simp), ⟨M, hM.chg hc (by simp), fun q => ?_⟩, h.keys, h.wf, Nat.lt_of_lt_of_le h.ban hc.size⟩
  have := hg q
  cases hq : s.get q with
  | none => rw [hq] at this; exact this
  | some f =>
    rw [hq] at this
    obtain ⟨val, h1, h2⟩ := this
    refine ⟨val, h1, ?_⟩
    cases f with
    | none => exact h2
    | some x => obtain ⟨e, l, t⟩ := x; obtain ⟨a, n, c, h3, h4⟩ := h2; exact ⟨a, n, c, h3, ⟨hc.row h4.1.1 (by simp), h4.1.2⟩, h4.2⟩

theorem St.get_push (s : St) (q p : Int × Int) (f : Found) : St.get (s ++ [(q, f)]) p = match s.get p with | some g => some g | none => if p = q then some f else none := by
  unfold St.get
  rw [List.find?_append]
  cases h : s.find? (fun x => x.1 = p) with
  | some y => simp
  | none =>
    by_cases e : q = p
    · subst e; simp
    · simp [e, Ne.symm e]
theorem FoundAt.keepS {NB : Nat} {w w' : World} {S : List Nat} {v : Value} {f : Found} (h : FoundAt NB w v f) (hc : Chg S w w') (hS : ∀ k ∈ S, NotRow w 33 k) : FoundAt NB w' v f := by
  cases f with
  | none => exact h
  | some x => obtain ⟨e, l, t⟩ := x; obtain ⟨a, n, c, h3, h4⟩ := h; exact ⟨a, n, c, h3, ⟨hc.rowOf h4.1.1 hS, h4.1.2⟩, h4.2⟩
theorem own_notRow {NB : Nat} {w : World} {b m : Nat} {v : Value} {s : St} (h : StoreAt NB w b v m s) : ∀ k ∈ own b v m, NotRow w 33 k := by
  obtain ⟨M, hM, _⟩ := h.map
  obtain ⟨es, c, hm⟩ := hM.block
  intro k hk
  simp only [own, List.mem_cons, Option.mem_toList] at hk
  rcases hk with rfl | rfl | hk
  · exact NotRow.of_cells h.head (by decide)
  · exact NotRow.of_map hm
  · rcases h.row.2 with ⟨rfl, _⟩ | ⟨g, cap, cur, rfl, _, hg, _⟩
    · cases hk
    · cases hk
      exact NotRow.of_cells hg (by decide)

set_option maxRecDepth 100000 in
set_option maxHeartbeats 400000 in
theorem begin_twice {NB : Nat} (w : World) (b m : Nat) (v : Value) (s : St) (q : Int × Int) (h : StoreAt NB w b v m s) (hq : q ∈ s.map (·.1)) (h1 : I64 q.1) (h2 : I64 q.2) :
    Calls Try.prog 9 #[.pointer (some ⟨b, 0, none⟩), .int .i64 q.1, .int .i64 q.2] w (BeginPost NB b v m s q w) := by
  obtain ⟨M, hM, hg⟩ := h.map
  obtain ⟨f, hf⟩ := St.get_some hq
  obtain ⟨l, hl⟩ := pairKey q h1 h2
  have hgq := hg q
  rw [hf] at hgq
  obtain ⟨val, hv, hval⟩ := hgq
  obtain ⟨b0, e0, l0, a0, n0, c0, rfl⟩ := foundAt_shape hval
  have hlook := fun o1 o2 => (hM.chg (((Chg.refl [] _).alloc o1).alloc o2).drew (by simp)).look pairV_inj Try.keyedPair Try.underlying66 (Try.zeroValue73 _) hl true
  have hlook1 := fun o1 => (hM.chg ((Chg.refl [] _).alloc o1).drew (by simp)).look pairV_inj Try.keyedPair Try.underlying66 (Try.zeroValue73 _) hl true
  simp only [hv, pairV, foundV, Option.getD_some, Option.isSome_some, if_true] at hlook hlook1
  have hb := lt_of_block h.head
  have c1 := cell_of_cells h.head 1
  simp at c1
  have H := Lib.hid (And.intro h hq)
  clear h hq hM hg hv hval hl hf h1 h2
  go_enter Try.func9, Try.ntmps9
  go_wp2_with fail
  refine (made_yes _ _ _ c1).mono ?_
  rintro e w' ⟨rfl, rfl⟩
  go_wp2
  go_region
  go_wp2
  go_ret
  obtain ⟨h, hq⟩ := H.out
  refine ⟨v, by rw [if_pos hq]; rfl, by rw [if_pos hq]; exact h.keep (((Chg.refl _ _).alloc _).alloc _).drew, (((Chg.refl _ _).alloc _).alloc _).drew, fun k hk => .inl hk⟩

theorem own_ne {NB : Nat} {w : World} {b m : Nat} {v : Value} {s : St} (h : StoreAt NB w b v m s) : m ≠ b ∧ v.ownBlock ≠ some b ∧ v.ownBlock ≠ some m := by
  obtain ⟨M, hM, _⟩ := h.map
  obtain ⟨es, c, hm⟩ := hM.block
  refine ⟨fun e => ?_, ownsRow_ne h.row h.head (by decide), ownsRow_ne_map h.row hm⟩
  subst e
  rw [h.head] at hm
  cases hm

set_option maxRecDepth 100000 in
set_option maxHeartbeats 800000 in
theorem begin_new {NB : Nat} (w : World) (b m : Nat) (v : Value) (s : St) (q : Int × Int) (h : StoreAt NB w b v m s) (hq : q ∉ s.map (·.1)) (h1 : I64 q.1) (h2 : I64 q.2) (hs : s.length ≤ 1099511627776) :
    Calls Try.prog 9 #[.pointer (some ⟨b, 0, none⟩), .int .i64 q.1, .int .i64 q.2] w (BeginPost NB b v m s q w) := by
  obtain ⟨M, hM, hg⟩ := h.map
  obtain ⟨l, hl⟩ := pairKey q h1 h2
  have hv : M q = none := by have := hg q; rw [St.get_none hq] at this; exact this
  have hlook := fun o1 o2 => (hM.chg (((Chg.refl [] _).alloc o1).alloc o2).drew (by simp)).look pairV_inj Try.keyedPair Try.underlying66 (Try.zeroValue73 _) hl true
  have hlook1 := fun o1 => (hM.chg ((Chg.refl [] _).alloc o1).drew (by simp)).look pairV_inj Try.keyedPair Try.underlying66 (Try.zeroValue73 _) hl true
  simp only [hv, pairV, foundV, Option.getD_none, Option.isSome_none, if_true] at hlook hlook1
  have hb := lt_of_block h.head
  have c1 := cell_of_cells h.head 1
  simp at c1
  have H := Lib.hid (And.intro h (And.intro hq (And.intro hM (And.intro hl (And.intro hg (And.intro hs (And.intro h1 h2)))))))
  clear h hq hM hg hv hl h1 h2
  go_enter Try.func9, Try.ntmps9
  go_wp2_with fail
  refine (made_yes _ _ _ c1).mono ?_
  rintro e w' ⟨rfl, rfl⟩
  go_wp2
  go_region
  go_wp2_with fail
  clear hlook hlook1
  have hd := ((((Chg.refl [] w).alloc (.cells #[.int .i64 q.1, .int .i64 q.2] 71)).alloc (.cells #[.bool false, .int .i64 0, .int .i64 0, .slice none 0 0] 73)).drew).drew
  have HD := Lib.hid hd
  clear hd
  go_region_with (go_at_call 27; refine (push_any _ b m v s.length (pairCells s) _ _ (HD.out.heap H.out.1.head (by simp)) (HD.out.row H.out.1.row (by simp)) H.out.2.2.2.2.2.1).mono ?_; rintro e w2 ⟨rfl, v2, hh2, hr2, hc2, hk2⟩; have HP := Lib.hid (And.intro hh2 (And.intro hr2 (And.intro hc2 hk2))); clear hh2 hr2 hc2 hk2)
  go_wp2_with fail
  obtain ⟨hh2, hr2, hc2, hk2⟩ := HP.out
  obtain ⟨n1, n2, n3⟩ := own_ne H.out.1
  have hM2 : MapIs Try.prog 71 pairV w2 m M := (H.out.2.2.1.chg HD.out (by simp)).chg hc2 (by simp [n1]; exact fun e => n3 e)
  obtain ⟨w3, hrun, hM3, hc3⟩ := MapIs.put (w := w2.drew) hM2 pairV_inj Try.keyedPair Try.underlying66 H.out.2.2.2.1 (foundV false 0 0 none 0 0)
  simp only [pairV, foundV] at hrun
  have c2 := cell_of_cells hh2 1
  simp at c2
  have hp2 := hc2.heap (k := w.heap.size) (o := .cells #[.int .i64 q.1, .int .i64 q.2] 71) (heap_alloc_lt (heap_alloc_same w _) _) (by
    simp only [List.mem_cons, Option.mem_toList, not_or]
    exact ⟨by omega, fun e => by have := (H.out.1.row.lt _ e).2; omega⟩)
  have p0 := cell_of_cells hp2 0
  have p1 := cell_of_cells hp2 1
  simp at p0 p1
  have HP2 := Lib.hid (And.intro hp2 (And.intro hM3 (And.intro hc3 (And.intro n1 (And.intro n2 (And.intro n3 hM2))))))
  clear hh2 hr2 hc2 hk2 hM2 hM3 hc3 hp2 n1 n2 n3
  go_region
  go_wp2
  go_ret
  obtain ⟨h, hq, hM, _, hg, _, h1, h2⟩ := H.out
  obtain ⟨hh2, hr2, hc2, hk2⟩ := HP.out
  obtain ⟨hp2, hM3, hc3, n1, n2, n3, hM2⟩ := HP2.out
  obtain ⟨es2, cl2, hm2⟩ := hM2.block
  have hcw : Chg (own b v m) w w3 := (HD.out.any.tr (hc2.mono (fun j hj => by simp [own] at hj ⊢; grind))).tr ((Chg.refl _ _).drew.tr (hc3.mono (fun j hj => by simp [own] at hj ⊢; grind)))
  have hc3' : Chg [m] w2 w3 := ((Chg.refl _ _).drew).tr hc3
  refine ⟨v2, by rw [if_neg hq]; rfl, ?_, hcw, fun k hk => (hk2 k hk).imp id fun hk => by simp at hk; omega⟩
  rw [if_neg hq]
  refine ⟨hc3'.heap hh2 (by simp [n1.symm]), ?_, ⟨_, hM3, fun p => ?_⟩, ?_, ?_, Nat.lt_of_lt_of_le h.ban hcw.size⟩
  · rw [pairCells_append, List.length_append]
    exact hc3'.row hr2 (fun k hk hm => by simp at hm; subst hm; exact ownsRow_ne_map hr2 hm2 hk)
  · rw [St.get_push]
    by_cases e : p = q
    · subst e
      rw [St.get_none hq]
      simp only [if_true]
      exact ⟨_, rfl, rfl⟩
    · have := hg p
      cases hp : s.get p with
      | none => rw [hp] at this; simp only [if_neg e]; exact this
      | some f =>
        rw [hp] at this
        obtain ⟨val, h3, h4⟩ := this
        simp only [if_neg e]
        exact ⟨val, h3, h4.keepS hcw (own_notRow h)⟩
  · rw [List.map_append]
    exact List.nodup_append.2 ⟨h.keys, by simp, by intro a ha b hb; simp at hb; subst hb; exact fun e => hq (e ▸ ha)⟩
  · intro x hx
    rcases List.mem_append.1 hx with hx | hx
    · exact h.wf x hx
    · simp at hx; subst hx; exact ⟨h1, h2⟩

theorem begin_any {NB : Nat} (w : World) (b m : Nat) (v : Value) (s : St) (q : Int × Int) (h : StoreAt NB w b v m s) (h1 : I64 q.1) (h2 : I64 q.2) (hs : s.length ≤ 1099511627776) :
    Calls Try.prog 9 #[.pointer (some ⟨b, 0, none⟩), .int .i64 q.1, .int .i64 q.2] w (BeginPost NB b v m s q w) := by
  by_cases hq : q ∈ s.map (·.1)
  · exact begin_twice w b m v s q h hq h1 h2
  · exact begin_new w b m v s q h hq h1 h2 hs
end Go.Proofs.Ytffjfkjlahdedaa

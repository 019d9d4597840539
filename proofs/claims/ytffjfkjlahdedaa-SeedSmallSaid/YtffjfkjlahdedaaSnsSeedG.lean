/-
  The walks over package seed: End, Read, Len.
  Conditions: as in the texts before.
-/
import Derived.Test.YtffjfkjlahdedaaSnsSeedF
set_option linter.unusedVariables false
set_option linter.unusedSimpArgs false
set_option linter.unnecessarySimpa false
namespace Go.Proofs.Ytffjfkjlahdedaa
open Go.RowKit Go.MapKept

/-- The last pair gone. -/
def EndPost (NB : Nat) (b : Nat) (v : Value) (m : Nat) (s : St) (x : Int) (w : World) (r : Ending) (w' : World) : Prop :=
  ∃ v', r = .returned (.int .i64 x) ∧ StoreAt NB w' b v' m s ∧ Chg (own b v m) w w' ∧ v'.ownBlock = v.ownBlock

set_option maxRecDepth 100000 in
set_option maxHeartbeats 800000 in
theorem lets_any {NB : Nat} (w : World) (b m : Nat) (v : Value) (s : St) (q : Int × Int) (f : Found) (h : StoreAt NB w b v m (s ++ [(q, f)])) (hs : s.length ≤ 1099511627776) :
    Calls Try.prog 35 #[.pointer (some ⟨b, 0, none⟩), .agg #[.int .i64 q.1, .int .i64 q.2]] w (EndPost NB b v m s 0 w) := by
  obtain ⟨g, cp, rfl, hn, hcm, p0, p1⟩ := pairs_last h
  obtain ⟨M, hM, hg⟩ := h.map
  have hw := h.wf (q, f) (by simp)
  obtain ⟨ky, hl⟩ := pairKey q hw.1 hw.2
  have hb := lt_of_block h.head
  have c0 := cell_of_cells h.head 0
  have f0 := free_of_cells h.head 0
  have c1 := cell_of_cells h.head 1
  simp at c0 c1
  have hc : Chg [b] w ((w.setCell ⟨b, 0, none⟩ (.slice (some ⟨g, 0, none⟩) s.length cp)).alloc (.cells #[.int .i64 q.1, .int .i64 q.2] 71)) := ((Chg.refl _ _).setCell (.inl (by simp)) _).alloc _
  obtain ⟨es, cl, hm⟩ := hM.block
  have hmb := own_ne h
  have hM1 := hM.chg hc (by simp [hmb.1])
  obtain ⟨w3, hrun, hM3, hc3⟩ := MapIs.drop (w := ((w.setCell ⟨b, 0, none⟩ (.slice (some ⟨g, 0, none⟩) s.length cp)).alloc (.cells #[.int .i64 q.1, .int .i64 q.2] 71)).drew.drew) (ty := 0) hM1 pairV_inj Try.keyedPair Try.underlying66 hl
  have H := Lib.hid (And.intro h (And.intro hM (And.intro hg (And.intro hl (And.intro hc (And.intro hM1 (And.intro hrun (And.intro hM3 (And.intro hc3 hs)))))))))
  clear h hM hg hl hc hM1 hrun hM3 hc3 hw p0 p1 hm hmb
  go_enter Try.func35, Try.ntmps35
  go_wp2_with fail
  refine (pop_any _ b s.length cp (some ⟨g, 0, none⟩) ?_ ?_ hs hn hcm).mono ?_
  · exact ((Chg.refl [] w).alloc _).cell c0 (by simp)
  · exact free_of_cells (heap_alloc_lt H.out.1.head _) 0
  rintro r w' ⟨rfl, rfl⟩
  go_wp2_with fail
  go_region_law (refine step_delete rfl _ _ 66 71 rfl rfl rfl H.out.2.2.2.2.2.2.1 ?_)
  all_goals go_wp2
  all_goals go_ret
  all_goals
    obtain ⟨h, hM, hg, hl, hc, hM1, hrun, hM3, hc3, hs⟩ := H.out
    have hne := own_ne h
    have hkr := own_notRow h
    have hcw : Chg [b, m] w w3 := (hc.mono (fun j hj => by simp at hj ⊢; omega)).tr (((Chg.refl _ _).drew.drew).tr (hc3.mono (fun j hj => by simp at hj ⊢; omega)))
    have hq : q ∉ s.map (·.1) := by
      have hk := h.keys
      rw [List.map_append] at hk
      exact fun hm => (List.nodup_append.1 hk).2.2 q hm q (by simp) rfl
    obtain ⟨es3, cl3, hm3⟩ := hM3.block
    refine ⟨.slice (some ⟨g, 0, none⟩) s.length cp, rfl, ⟨?_, ?_, ⟨_, hM3, fun p => ?_⟩, ?_, fun x hx => h.wf x (List.mem_append.2 (.inl hx)), Nat.lt_of_lt_of_le h.ban hcw.size⟩, hcw.mono (fun j hj => by simp [own] at hj ⊢; omega), rfl⟩
    · refine hc3.heap (k := b) ?_ (by simp [hne.1.symm])
      have := heap_setCell_same h.head 0 (.slice (some ⟨g, 0, none⟩) s.length cp)
      exact heap_alloc_lt (by simpa using this) _
    · have hr := hcw.row h.row (fun k hk hm => by simp at hm; rcases hm with rfl | rfl; exact hne.2.1 hk; exact hne.2.2 hk)
      obtain ⟨hlen, hr⟩ := hr
      rcases hr with ⟨e1, _⟩ | ⟨g', cap, cur, e1, hb', hg', hn', hcm', hcs', htk⟩
      · cases e1
      · simp only [Value.slice.injEq, Option.some.injEq, Addr.mk.injEq] at e1
        obtain ⟨⟨rfl, _⟩, _, rfl⟩ := e1
        refine ⟨by rw [pairCells_length], .inr ⟨g, cp, cur, rfl, hb', hg', by omega, hcm', hcs', ?_⟩⟩
        have : (cur.toList.take ((s ++ [(q, f)]).length * 2)).take (s.length * 2) = (pairCells (s ++ [(q, f)])).take (s.length * 2) := by rw [htk]
        rw [List.take_take, pairCells_append, List.take_append_of_le_length (by rw [pairCells_length]; omega), List.take_of_length_le (l := pairCells s) (by rw [pairCells_length]; omega)] at this
        rw [← this]
        congr 1
        simp
    · have h0 := hg p
      rw [St.get_push] at h0
      cases hp : s.get p with
      | some gf =>
        rw [hp] at h0
        obtain ⟨val, h3, h4⟩ := h0
        have hpq : p ≠ q := fun e => by subst e; rw [St.get_none hq] at hp; cases hp
        simp only [if_neg hpq]
        exact ⟨val, h3, h4.keepS hcw (fun k hk => by simp at hk; rcases hk with rfl | rfl; exact hkr _ (by simp [own]); exact hkr _ (by simp [own]))⟩
      | none =>
        rw [hp] at h0
        by_cases e' : p = q
        · simp only [if_pos e']
        · simp only [if_neg e'] at h0 ⊢
          exact h0
    · have hk := h.keys
      rw [List.map_append] at hk
      exact (List.nodup_append.1 hk).1

set_option maxRecDepth 100000 in
set_option maxHeartbeats 800000 in
theorem end_lets {NB : Nat} (w : World) (b m : Nat) (v : Value) (s : St) (q : Int × Int) (f : Found) (h : StoreAt NB w b v m (s ++ [(q, f)])) (hs : s.length ≤ 1099511627776) :
    Calls Try.prog 28 #[.pointer (some ⟨b, 0, none⟩), .func (.func 35) #[.pointer (some ⟨b, 0, none⟩)] #[]] w (EndPost NB b v m s 0 w) := by
  obtain ⟨g, cp, rfl, hn, hcm, p0, p1⟩ := pairs_last h
  have hb := lt_of_block h.head
  have c0 := cell_of_cells h.head 0
  have c1 := cell_of_cells h.head 1
  simp at c0 c1
  have H := Lib.hid h
  clear h
  go_enter Try.func28, Try.ntmps28
  go_wp2_with fail
  refine (made_yes _ _ _ c1).mono ?_
  rintro r w' ⟨rfl, rfl⟩
  go_wp2_with fail
  refine (last_some _ _ _ _ _ _ _ c0 hs p0 p1).mono ?_
  rintro r w1 ⟨rfl, hc⟩
  have HC := Lib.hid hc
  clear hc c0 c1 p0 p1
  go_wp2_with fail
  refine (lets_any _ b m _ s q f (H.out.keep (HC.out.alloc _)) hs).mono ?_
  rintro r w3 ⟨v', rfl, hst, hc3, hv⟩
  have HC2 := Lib.hid (And.intro hst (And.intro hc3 hv))
  clear hst hc3 hv
  go_wp2
  go_ret
  exact ⟨v', rfl, HC2.out.1, (HC.out.alloc _).any.tr HC2.out.2.1, HC2.out.2.2⟩

set_option maxRecDepth 100000 in
set_option maxHeartbeats 800000 in
theorem End_any {NB : Nat} (w : World) (b m : Nat) (v : Value) (s : St) (h : StoreAt NB w b v m s) (hs : s.length ≤ 1099511627776) :
    Calls Try.prog 16 #[.pointer (some ⟨b, 0, none⟩)] w (EndPost NB b v m s.dropLast (if s = [] then 5 else 0) w) := by
  have H := Lib.hid (And.intro h hs)
  clear h hs
  rcases List.eq_nil_or_concat s with rfl | ⟨s0, x, rfl⟩
  · rw [if_pos rfl]
    go_enter Try.func16, Try.ntmps16
    go_wp2_with fail
    refine (end_empty _ b m v _ H.out.1).mono ?_
    rintro r w1 ⟨rfl, hc1⟩
    have HC := Lib.hid hc1
    clear hc1
    go_wp2
    go_ret
    exact ⟨v, rfl, H.out.1.keep HC.out, HC.out.any, rfl⟩
  · obtain ⟨q, f⟩ := x
    have hsl : s0.length ≤ 1099511627776 := by have := H.out.2; simp at this; omega
    rw [if_neg (by simp), List.concat_eq_append, List.dropLast_concat]
    go_enter Try.func16, Try.ntmps16
    go_wp2_with fail
    refine (end_lets _ b m v s0 q f (by simpa using H.out.1) hsl).mono ?_
    rintro r w1 ⟨v', rfl, hst, hc1, hv⟩
    have HC := Lib.hid (And.intro hst (And.intro hc1 hv))
    clear hst hc1 hv
    go_wp2
    go_ret
    exact ⟨v', rfl, HC.out.1, HC.out.2.1, HC.out.2.2⟩
end Go.Proofs.Ytffjfkjlahdedaa

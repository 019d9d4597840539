/-
  The walks over package seed: the last pair grows, or ends.
  Conditions: as in the texts before.
-/
import Derived.Test.YtffjfkjlahdedaaSnsSeedD
set_option linter.unusedVariables false
set_option linter.unusedSimpArgs false
set_option linter.unnecessarySimpa false
namespace Go.Proofs.Ytffjfkjlahdedaa
open Go.RowKit Go.MapKept

def mayGrow (f : Found) (e l : Int) : Bool := match f with | none => true | some (e0, l0, _) => decide (e0 < e) && l == l0
def foundRow (f : Found) (a : Option Addr) (n c : Nat) : Value := match f with | none => foundV false 0 0 none 0 0 | some (e, l, _) => foundV true e l a n c
theorem St.get_last {s : St} {q : Int × Int} {f : Found} (h : ((s ++ [(q, f)]).map (·.1)).Nodup) : St.get (s ++ [(q, f)]) q = some f := by
  rw [St.get_push]
  have : q ∉ s.map (·.1) := by
    rw [List.map_append] at h
    have := (List.nodup_append.1 h).2.2
    exact fun hm => this q hm q (by simp) rfl
  rw [St.get_none this]
  simp

set_option maxRecDepth 100000 in
set_option maxHeartbeats 800000 in
theorem grow1_no {NB : Nat} (w : World) (b m Bs Bx : Nat) (v : Value) (s : St) (q : Int × Int) (f : Found) (e l : Int) (a : Option Addr) (n c : Nat) (t : List Tw) (h : StoreAt NB w b v m (s ++ [(q, f)])) (hBs : w.heap[Bs]? = some (.cells #[.pointer (some ⟨b, 0, none⟩)] 24 (0, 0)))
    (hBx : w.heap[Bx]? = some (.cells #[.int .i64 e, .int .i64 l, .slice a n c] 36 (0, 0))) (ht : Tree w (.slice a n c) t) (hm : mayGrow f e l = false) :
    Calls Try.prog 29 #[.agg #[.int .i64 q.1, .int .i64 q.2], .pointer (some ⟨Bs, 0, none⟩), .pointer (some ⟨Bx, 0, none⟩)] w fun r w' => r = .returned (.int .i64 2) ∧ Chg [] w w' := by
  obtain ⟨M, hM, hg⟩ := h.map
  have hw := h.wf (q, f) (by simp)
  obtain ⟨ky, hl⟩ := pairKey q hw.1 hw.2
  have hgq := hg q
  rw [St.get_last h.keys] at hgq
  obtain ⟨val, hv, hval⟩ := hgq
  have hsh : ∃ b0 e0 l0 a0 n0 c0, val = foundV b0 e0 l0 a0 n0 c0 ∧ (!b0 || (decide (e0 < e) && l == l0)) = false := by
    cases f with
    | none => simp [mayGrow] at hm
    | some x => obtain ⟨e0, l0, t0⟩ := x; obtain ⟨a0, n0, c0, h3, _⟩ := hval; exact ⟨true, e0, l0, a0, n0, c0, h3, by simpa [mayGrow] using hm⟩
  obtain ⟨b0, e0, l0, a0, n0, c0, rfl, hm'⟩ := hsh
  have hlook := fun o1 => (hM.chg ((Chg.refl [] _).alloc o1).drew (by simp)).look pairV_inj Try.keyedPair Try.underlying66 (Try.zeroValue73 _) hl false
  simp only [hv, pairV, foundV, Option.getD_some, Bool.false_eq_true, if_false] at hlook
  have hb := lt_of_block h.head
  have hb1 := lt_of_block hBs
  have hb2 := lt_of_block hBx
  have c1 := cell_of_cells h.head 1
  have cs := cell_of_cells hBs 0
  have x0 := cell_of_cells hBx 0
  have x1 := cell_of_cells hBx 1
  have x2 := cell_of_cells hBx 2
  simp at c1 cs x0 x1 x2
  have HM := Lib.hid hm'
  clear h hM hg hv hval hl hm ht hw hBs hBx hm'
  go_enter Try.func29, Try.ntmps29
  go_wp2_with fail
  go_region
  go_wp2_with fail
  refine (further_any _ b0 e0 l0 e l a0 a n0 c0 n c).mono ?_
  rintro r w' ⟨rfl, hc⟩
  rw [HM.out]
  have HC := Lib.hid hc
  clear hc hlook
  go_wp2
  go_ret
  exact ⟨rfl, (((Chg.refl _ _).alloc _).drew).tr0 HC.out⟩

set_option maxRecDepth 100000 in
set_option maxHeartbeats 1600000 in
theorem grow1_yes {NB : Nat} (w : World) (b m Bs Bx : Nat) (v : Value) (s : St) (q : Int × Int) (f : Found) (e l : Int) (a : Option Addr) (n c : Nat) (t : List Tw) (h : StoreAt NB w b v m (s ++ [(q, f)])) (hBs : w.heap[Bs]? = some (.cells #[.pointer (some ⟨b, 0, none⟩)] 24 (0, 0)))
    (hBx : w.heap[Bx]? = some (.cells #[.int .i64 e, .int .i64 l, .slice a n c] 36 (0, 0))) (ht : Tree w (.slice a n c) t) (hm : mayGrow f e l = true) :
    Calls Try.prog 29 #[.agg #[.int .i64 q.1, .int .i64 q.2], .pointer (some ⟨Bs, 0, none⟩), .pointer (some ⟨Bx, 0, none⟩)] w fun r w' => r = .returned (.int .i64 0) ∧ StoreAt NB w' b v m (s ++ [(q, some (e, l, t))]) ∧ Chg (own b v m) w w' := by
  obtain ⟨M, hM, hg⟩ := h.map
  have hw := h.wf (q, f) (by simp)
  obtain ⟨ky, hl⟩ := pairKey q hw.1 hw.2
  have hgq := hg q
  rw [St.get_last h.keys] at hgq
  obtain ⟨val, hv, hval⟩ := hgq
  have hsh : ∃ b0 e0 l0 a0 n0 c0, val = foundV b0 e0 l0 a0 n0 c0 ∧ (!b0 || (decide (e0 < e) && l == l0)) = true := by
    cases f with
    | none => exact ⟨_, _, _, _, _, _, hval, by simp⟩
    | some x => obtain ⟨e0, l0, t0⟩ := x; obtain ⟨a0, n0, c0, h3, _⟩ := hval; exact ⟨true, e0, l0, a0, n0, c0, h3, by simpa [mayGrow] using hm⟩
  obtain ⟨b0, e0, l0, a0, n0, c0, rfl, hm'⟩ := hsh
  have hlook := fun o1 => (hM.chg ((Chg.refl [] _).alloc o1).drew (by simp)).look pairV_inj Try.keyedPair Try.underlying66 (Try.zeroValue73 _) hl false
  simp only [hv, pairV, foundV, Option.getD_some, Bool.false_eq_true, if_false] at hlook
  have hb := lt_of_block h.head
  have hb1 := lt_of_block hBs
  have hb2 := lt_of_block hBx
  have c1 := cell_of_cells h.head 1
  have cs := cell_of_cells hBs 0
  have x0 := cell_of_cells hBx 0
  have x1 := cell_of_cells hBx 1
  have x2 := cell_of_cells hBx 2
  simp at c1 cs x0 x1 x2
  have HM := Lib.hid hm'
  have H := Lib.hid (And.intro h (And.intro hM (And.intro hg (And.intro hl (And.intro ht hw)))))
  have HB := Lib.hid (And.intro hBs hBx)
  clear h hM hg hv hval hl hm ht hw hBs hBx hm'
  go_enter Try.func29, Try.ntmps29
  go_wp2_with fail
  go_region
  go_wp2_with fail
  refine (further_any _ b0 e0 l0 e l a0 a n0 c0 n c).mono ?_
  rintro r w1 ⟨rfl, hc⟩
  rw [HM.out]
  have hcw : Chg [] w w1 := (((Chg.refl _ _).alloc _).drew).tr0 hc
  have hp := hc.heap (k := w.heap.size) (o := .cells #[.int .i64 q.1, .int .i64 q.2] 71) (heap_alloc_same w _) (by simp)
  have hs1 := hc.size
  have g1 := hcw.cell c1 (by simp)
  have gs := hcw.cell cs (by simp)
  have gx0 := hcw.cell x0 (by simp)
  have gx1 := hcw.cell x1 (by simp)
  have gx2 := hcw.cell x2 (by simp)
  have p0 := cell_of_cells hp 0
  have p1 := cell_of_cells hp 1
  simp at p0 p1
  have HC := Lib.hid hcw
  clear hc hlook c1 cs x0 x1 x2 hp hs1 hcw
  go_wp2_with fail
  go_region_held3 (fun w' => w'.cell? ⟨Bs, 0, none⟩ = some (.pointer (some ⟨b, 0, none⟩)) ∧ w'.cell? ⟨b, 1, none⟩ = some (.map (some m)) ∧ w'.cell? ⟨w.heap.size, 0, none⟩ = some (.int .i64 q.1) ∧ w'.cell? ⟨w.heap.size, 1, none⟩ = some (.int .i64 q.2) ∧
      w'.cell? ⟨Bx, 0, none⟩ = some (.int .i64 e) ∧ w'.cell? ⟨Bx, 1, none⟩ = some (.int .i64 l) ∧ w'.cell? ⟨Bx, 2, none⟩ = some (.slice a n c))
    (first | go_keep | exact ⟨HK.out.1, HK.out.2.1, HK.out.2.2.1, HK.out.2.2.2.1, HK.out.2.2.2.2.1, HK.out.2.2.2.2.2.1, HK.out.2.2.2.2.2.2⟩ | exact ⟨HP.out.2.2.2.2.cellKeep HP.out.2.2.2.1 HK.out.1, HP.out.2.2.2.2.cellKeep HP.out.2.2.2.1 HK.out.2.1, HP.out.2.2.2.2.cellKeep HP.out.2.2.2.1 HK.out.2.2.1, HP.out.2.2.2.2.cellKeep HP.out.2.2.2.1 HK.out.2.2.2.1, HP.out.2.2.2.2.cellKeep HP.out.2.2.2.1 HK.out.2.2.2.2.1, HP.out.2.2.2.2.cellKeep HP.out.2.2.2.1 HK.out.2.2.2.2.2.1, HP.out.2.2.2.2.cellKeep HP.out.2.2.2.1 HK.out.2.2.2.2.2.2⟩)
    ((go_at_call 31; refine (copied_any _ e l a n c t ⟨HC.out.drew.row H.out.2.2.2.2.1.1 (by simp), H.out.2.2.2.2.1.2⟩).mono ?_; rintro r w2 ⟨a2, n2, c2, rfl, ht2, hf2, hc2⟩; replace ht2 := And.intro ht2 hf2; clear hf2; have HK := Lib.hid (And.intro (hc2.cell gs (by simp)) (And.intro (hc2.cell g1 (by simp)) (And.intro (hc2.cell p0 (by simp)) (And.intro (hc2.cell p1 (by simp)) (And.intro (hc2.cell gx0 (by simp)) (And.intro (hc2.cell gx1 (by simp)) (hc2.cell gx2 (by simp)))))))); have hM2 := (H.out.2.1.chg HC.out.drew (by simp)).chg hc2 (by simp); obtain ⟨w3, hrun, hM3, hc3⟩ := hM2.put pairV_inj Try.keyedPair Try.underlying66 H.out.2.2.2.1 (foundV true e l a2 n2 c2); simp only [pairV, foundV] at hrun; have HP := Lib.hid (And.intro ht2 (And.intro hc2 (And.intro hM3 (And.intro hc3 hM2)))); clear ht2 hc2 hM3 hc3 hM2))
  go_wp2
  go_ret
  obtain ⟨h, hM, hg, hl, ht, hw⟩ := H.out
  obtain ⟨ht2, hc2, hM3, hc3, hM2⟩ := HP.out
  obtain ⟨es2, cl2, hm2⟩ := hM2.block
  have hc0 : Chg [] w w2 := HC.out.drew.tr hc2
  have hcw : Chg [m] w w3 := hc0.any.tr hc3
  have hkr := own_notRow h
  have hne := own_ne h
  refine ⟨rfl, ⟨hcw.heap h.head (by simp [hne.1.symm]), ?_, ⟨_, hM3, fun p => ?_⟩, ?_, ?_, Nat.lt_of_lt_of_le h.ban hcw.size⟩, hcw.mono (fun j hj => by simp at hj; subst hj; simp [own])⟩
  · have hr := hcw.row h.row (fun k hk hm => by simp at hm; subst hm; exact hne.2.2 hk)
    simpa [pairCells] using hr
  · have h0 := hg p
    rw [St.get_push] at h0 ⊢
    cases hp : s.get p with
    | some g =>
      rw [hp] at h0
      obtain ⟨val, h3, h4⟩ := h0
      have hpq : p ≠ q := by
        intro e'
        subst e'
        have := St.get_last h.keys
        rw [St.get_push, hp] at this
        have hn : p ∉ s.map (·.1) := by
          have hk := h.keys
          rw [List.map_append] at hk
          exact fun hm => (List.nodup_append.1 hk).2.2 p hm p (by simp) rfl
        rw [St.get_none hn] at hp
        cases hp
      simp only [if_neg hpq]
      exact ⟨val, h3, h4.keepS hcw (fun k hk => by simp at hk; subst hk; exact hkr _ (by simp [own]))⟩
    | none =>
      rw [hp] at h0
      by_cases e' : p = q
      · subst e'
        simp only [if_true]
        exact ⟨_, rfl, a2, n2, c2, rfl, ⟨hc3.row ht2.1.1 (fun k hk hm => by simp at hm; subst hm; exact ownsRow_ne_map ht2.1.1 hm2 hk), ht2.1.2⟩, fun he => by have g1 := ht2.2 _ he; have g2 := h.ban; have g3 := HC.out.drew.size; omega⟩
      · simp only [if_neg e'] at h0 ⊢
        exact h0
  · have := h.keys
    simpa using this
  · intro x hx
    rcases List.mem_append.1 hx with hx | hx
    · exact h.wf x (List.mem_append.2 (.inl hx))
    · simp at hx; subst hx; exact hw

/-- 's.end(..)' with what Grow hands it. -/
theorem pairs_last {NB : Nat} {w : World} {b m : Nat} {v : Value} {s : St} {q : Int × Int} {f : Found} (h : StoreAt NB w b v m (s ++ [(q, f)])) : ∃ g c, v = .slice (some ⟨g, 0, none⟩) (s.length + 1) c ∧ s.length + 1 ≤ c ∧ c ≤ maxLen ∧
    w.cell? ⟨g, s.length * 2, none⟩ = some (.int .i64 q.1) ∧ w.cell? ⟨g, s.length * 2 + 1, none⟩ = some (.int .i64 q.2) := by
  have hl := pairCells_length s
  have hc : ∀ j u, (pairCells (s ++ [(q, f)]))[j]? = some u → ∀ g, v.ownBlock = some g → w.cell? ((⟨g, 0, none⟩ : Addr).add j) = some u := fun j u hu g hg => h.row.cells hg j u hu
  rcases h.row.2 with ⟨rfl, h0⟩ | ⟨g, cap, cur, rfl, _, hg, hn, hcm, hcs, _⟩
  · simp at h0
  · refine ⟨g, cap, by simp, by simpa using hn, hcm, ?_, ?_⟩
    · have := hc (s.length * 2) (.int .i64 q.1) (by rw [pairCells_append, List.getElem?_append_right (by omega), hl]; simp [pairCells]) g rfl
      simpa [Addr.add_lit] using this
    · have := hc (s.length * 2 + 1) (.int .i64 q.2) (by rw [pairCells_append, List.getElem?_append_right (by omega), hl]; simp [pairCells]) g rfl
      simpa [Addr.add_lit] using this
end Go.Proofs.Ytffjfkjlahdedaa

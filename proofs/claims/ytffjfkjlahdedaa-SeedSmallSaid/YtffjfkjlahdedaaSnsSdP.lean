/-
  SeedDoes: plain lemmas of the law: a deed as it is turned, how large the rows grow.
  Conditions: none.
-/
import Derived.Test.YtffjfkjlahdedaaSnsSs0
import Derived.Test.YtffjfkjlahdedaaSnsSdOpen
set_option linter.unusedVariables false
set_option linter.unusedSimpArgs false
set_option linter.unnecessarySimpa false
namespace Go.Proofs.Ytffjfkjlahdedaa
open Go.RowKit Go.MapKept

theorem sum_mem {l : List Nat} {x : Nat} (h : x ∈ l) : x ≤ l.sum := by
  induction l with
  | nil => cases h
  | cons a l ih =>
    simp only [List.sum_cons]
    rcases List.mem_cons.1 h with rfl | h
    · omega
    · have := ih h; omega
theorem size_few {ds : List Ds} (h : sizeTo ds ds.length ≤ 2000) : ∀ y ∈ ds, y.tree.length ≤ 2000 := by
  unfold sizeTo at h
  rw [List.take_length] at h
  intro y hy
  have := sum_mem (List.mem_map_of_mem (f := fun z : Ds => z.tree.length) hy)
  omega
/-- End and level of a deed, as they are turned. -/
def turnT (m : Int) (s : St) (en lv : Int) : Int × Int := if m = 5 then (match s.getLast? with | none => (en, lv) | some x => (Found.e x.2 + 1, Found.l x.2)) else (en, lv)
theorem turnT_ok {m : Int} {k : Nat} {s : St} {en lv : Int} (h : GoodT k s) (h1 : -9223372036854775808 ≤ en) (h2 : en ≤ 1099511627776) (h3 : -1099511627776 ≤ lv ∧ lv ≤ 1099511627776) :
    ((turnT m s en lv).1 ≤ 1099511627776 + (k + 1 : Nat) ∧ -9223372036854775808 ≤ (turnT m s en lv).1) ∧ (-1099511627776 ≤ (turnT m s en lv).2 ∧ (turnT m s en lv).2 ≤ 1099511627776) := by
  unfold turnT
  split
  · cases hl : s.getLast? with
    | none => simp only; omega
    | some x =>
      have hx := List.mem_of_getLast? hl
      have := h.ends x hx
      have := h.lv x hx
      simp only
      omega
  · simp only; omega
theorem turnT_same {m : Int} {s : St} {en lv : Int} (h : ¬ (m = 5 ∧ 0 < s.length)) : turnT m s en lv = (en, lv) := by
  unfold turnT
  split
  · rename_i h5
    cases s with
    | nil => rfl
    | cons x l => exact absurd ⟨h5, by simp⟩ h
  · rfl
theorem turnT_last {l : List Rs} {n : Nat} {en lv : Int} (h : n + 1 = l.length) (z : Rs) (hz : l[n]? = some z) : turnT 5 (rss l) en lv = (Found.e z.f + 1, Found.l z.f) := by
  unfold turnT
  rw [if_pos rfl, (rss_last h hz).1]
theorem grow_len (s : St) (e l : Int) (t : List Tw) : (s.grow e l t).length = s.length := by
  unfold St.grow
  cases hg : s.getLast? with
  | none => rfl
  | some x =>
    have hne : s ≠ [] := fun e => by subst e; cases hg
    have := List.length_pos_iff.2 hne
    simp only [growSt, List.length_append, List.length_dropLast, List.length_singleton]
    omega
theorem newSQ (w : World) : Calls Try.prog 8 #[] w fun e w' => e = .returned (.pointer (some ⟨w.heap.size + 1, 0, none⟩)) ∧ SQ 0 w.heap.size w' (w.heap.size + 1) [] ∧ Chg [] w w' := by
  refine (new_any (NB := 0) w (by omega)).mono fun e w' h => ?_
  refine ⟨h.1, ⟨_, _, h.2.1, fun k hk => ?_⟩, h.2.2⟩
  simp [own, Value.ownBlock] at hk
  omega
end Go.Proofs.Ytffjfkjlahdedaa

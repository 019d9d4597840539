/-
  A right grammar with a node's last kid turned is not right, and not the same.
  Conditions: none.
-/
import Derived.Test.YtibgfgfmljhimaaG06T
import Derived.Test.YtibgfgfmljhimaaGSame2
set_option linter.unusedVariables false
set_option linter.unusedSimpArgs false
namespace Go.Proofs.Ytibgfgfmljhimaa

theorem right_pos {g : Gr} (h : rightB g = true) : 0 < g.nodes.length := by
  have h1 := (right_sizes h).1
  simp only [rightB, Bool.and_eq_true, beq_iff_eq] at h
  obtain ⟨_, hc⟩ := h
  cases hr : g.rules with
  | nil => rw [hr] at h1; simp at h1
  | cons r rs =>
    rw [hr] at hc
    simp only [chain] at hc
    split at hc
    · split at hc
      · cases hc
      · rename_i to hh hf
        exact Nat.lt_of_le_of_lt (Nat.zero_le _) (aft_lt hf).2.1
    · cases hc
/-- A node whose last kid is turned. -/
def Nd.bend (x : Nd) (v : Int) : Nd := { x with kids := x.kids.dropLast ++ [v] }
def Gr.bend (g : Gr) (m : Nat) (v : Int) : Gr := ⟨g.rules, match g.nodes[m]? with | none => g.nodes | some x => g.nodes.set m (x.bend v)⟩
theorem bend_wrong {g : Gr} (h : rightB g = true) {m : Nat} (hm : m < g.nodes.length) {k v : Int} (hk : g.nodes[m].kids.getLast? = some k) (hv : v ≠ k) : rightB (g.bend m v) = false := by
  cases hb : rightB (g.bend m v) with
  | false => rfl
  | true =>
    exfalso
    obtain ⟨t, _, ht, _⟩ := right_tab h
    obtain ⟨t', _, ht', _⟩ := right_tab hb
    have hns : (g.bend m v).nodes = g.nodes.set m (g.nodes[m].bend v) := by simp [Gr.bend, hm]
    rw [hns] at ht'
    have hm' : m < (g.nodes.set m (g.nodes[m].bend v)).length := by simpa using hm
    obtain ⟨e, hh, h1, h2, _⟩ := tab_eq ht hm
    obtain ⟨e', hh', h1', h2', _⟩ := tab_eq ht' hm'
    have hd := tab_drop ht (m + 1) (by omega)
    have hd' := tab_drop ht' (m + 1) (by omega)
    have hsame : (g.nodes.set m (g.nodes[m].bend v)).drop (m + 1) = g.nodes.drop (m + 1) := by
      rw [List.drop_set]; simp
    rw [hsame, hd] at hd'
    simp only [Option.some.injEq] at hd'
    rw [← hd'] at h1'
    have hx : g.nodes[m].kids = g.nodes[m].kids.dropLast ++ [k] := by
      obtain ⟨ys, hy⟩ := List.getLast?_eq_some_iff.1 hk
      rw [hy]; simp
    have hx' : (g.nodes.set m (g.nodes[m].bend v))[m].kids = g.nodes[m].kids.dropLast ++ [v] := by simp [Nd.bend]
    rw [hx, kidsTab_snoc] at h1
    rw [hx', kidsTab_snoc] at h1'
    cases hq : kidsTab (t.drop (m + 1)) (m + 1) g.nodes[m].kids.dropLast (m + 1) 0 with
    | none => rw [hq] at h1; cases h1
    | some p =>
      obtain ⟨a, b⟩ := p
      rw [hq] at h1 h1'
      simp only [kidsTab] at h1 h1'
      split at h1
      · split at h1'
        · omega
        · cases h1'
      · cases h1
theorem bend_unlike {g : Gr} {m : Nat} (hm : m < g.nodes.length) {k v : Int} (hk : g.nodes[m].kids.getLast? = some k) (hv : v ≠ k) : sameG (g.bend m v) g = false := by
  cases hb : sameG (g.bend m v) g with
  | false => rfl
  | true =>
    exfalso
    have h := ((sameG_iff _ _).1 hb).2.2 m (by simp [Gr.bend, hm]) hm
    have hn : (g.bend m v).nodes = g.nodes.set m (g.nodes[m].bend v) := by simp [Gr.bend, hm]
    simp only [hn, List.getElem_set_self] at h
    simp only [sameN, decide_eq_true_eq] at h
    have h2 := h.2.2.2.2.2
    simp only [Nd.bend] at h2
    rw [← h2] at hk
    simp at hk
    exact hv hk
end Go.Proofs.Ytibgfgfmljhimaa

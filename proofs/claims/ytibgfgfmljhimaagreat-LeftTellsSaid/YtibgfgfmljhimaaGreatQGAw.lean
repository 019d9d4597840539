/-
  Small bodies, sound grammars, told by a test.
  Conditions: none.
-/
import Derived.Test.YtibgfgfmljhimaaGreatQKB3
import Derived.Test.YtibgfgfmljhimaaGreatQGAft
set_option linter.unusedVariables false
set_option linter.unusedSimpArgs false
namespace Go.Proofs.YtibgfgfmljhimaaGreat
open Go.RowKit Go.MapKept Go.Shelf

def smallB (ns : List Nd) : Bool := decide (ns.length ≤ 3000) && !ns.isEmpty && ns.all fun x => decide (x.kids.length ≤ 3000) && x.kids.all fun z => decide (-100000 ≤ z) && decide (z ≤ 100000)
theorem small_of {ns : List Nd} (h : smallB ns = true) : Small ns := by
  simp only [smallB, Bool.and_eq_true, decide_eq_true_eq, Bool.not_eq_true', List.all_eq_true] at h
  exact ⟨h.1.1, fun e => by rw [e] at h; simp at h, fun x hx => ⟨(h.2 x hx).1, fun z hz => (h.2 x hx).2 z hz⟩⟩
def wfB (g : Gr) : Bool := (g.nodes.all fun x => decide (I64 x.k) && decide (I64 x.r) && decide (I64 x.l) && (x.kids.all fun z => decide (I64 z)) && decide (x.s.size ≤ maxLen)) && g.rules.all fun r => decide (r.name.size ≤ maxLen) && decide (I64 r.body)
theorem wf_of {g : Gr} (h : wfB g = true) : g.Wf := by
  simp only [wfB, Bool.and_eq_true, decide_eq_true_eq, List.all_eq_true] at h
  exact ⟨fun x hx => ⟨(h.1 x hx).1.1.1.1, (h.1 x hx).1.1.1.2, (h.1 x hx).1.1.2, (h.1 x hx).1.2, (h.1 x hx).2⟩, fun r hr => (h.2 r hr).1, fun r hr => (h.2 r hr).2⟩
theorem NewGramRows.new {w : World} {g : Gr} {e : Ending} {w' : World} (h : NewGramRows w g e w') (wf : g.Wf) : NewGram w g e w' := by
  obtain ⟨a1, c1, a2, c2, L, h1, h2, h3, h4, h5⟩ := h
  obtain ⟨k1, k2, k3, k4⟩ := rules_row (row_base h3 (Nat.zero_le _))
  obtain ⟨m1, m2, m3⟩ := h4.read
  rw [h2] at m1
  have hl : L.length = g.nodes.length := by rw [← h2]; simp
  rw [hl] at m2
  exact ⟨a1, c1, a2, c2, h1, ⟨rfl, k3, k4, k1, rfl, m2, m3, m1, wf⟩, h5⟩
def reachB (g : Gr) : Bool := decide (g.rules.length ≤ 17592186044416) && decide (g.nodes.length ≤ 17592186044416) && g.nodes.all fun x => decide (x.kids.length ≤ 17592186044416)
theorem reach_of {g : Gr} (h : reachB g = true) : Reach g := by
  simp only [reachB, Bool.and_eq_true, decide_eq_true_eq, List.all_eq_true] at h
  exact ⟨h.1.1, h.1.2, h.2⟩

theorem kids_few {g : Gr} (h : smallG g) : g.rules.length ≤ 300 ∧ g.nodes.length ≤ 300 ∧ ∀ x ∈ g.nodes, x.kids.length ≤ 300 := by
  unfold smallG at h
  refine ⟨by omega, by omega, fun x hx => ?_⟩
  obtain ⟨i, hi, rfl⟩ := List.mem_iff_getElem.1 hx
  have := kids_le_sum g.nodes i hi
  omega

end Go.Proofs.YtibgfgfmljhimaaGreat

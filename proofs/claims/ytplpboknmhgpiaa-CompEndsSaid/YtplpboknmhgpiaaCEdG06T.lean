/-
  Layer 6's law: how many there are; the chapter's example is as the statement says.
  Conditions: the grammar reads as data (GramAt).
-/
import Derived.Test.YtplpboknmhgpiaaCEdNuA
set_option linter.unusedVariables false
set_option linter.unusedSimpArgs false
namespace Go.Proofs.Ytplpboknmhgpiaa
open Go.RowKit Go.MapKept Go.Shelf

def kidsSum (ns : List Nd) : Nat := (ns.map fun x => x.kids.length).sum
theorem kidsSum_snoc (ns : List Nd) (x : Nd) : kidsSum (ns ++ [x]) = kidsSum ns + x.kids.length := by simp [kidsSum]
theorem kidsSum_append (a b : List Nd) : kidsSum (a ++ b) = kidsSum a + kidsSum b := by simp [kidsSum]
theorem kidsSum_take_le (ns : List Nd) (k : Nat) : kidsSum (ns.take k) ≤ kidsSum ns := by
  have h : kidsSum ns = kidsSum (ns.take k) + kidsSum (ns.drop k) := by rw [← kidsSum_append, List.take_append_drop]
  omega
theorem kids_le_sum (ns : List Nd) (k : Nat) (hk : k < ns.length) : kidsSum (ns.take k) + ns[k].kids.length ≤ kidsSum ns := by
  have h1 := kidsSum_take_le ns (k + 1)
  rw [List.take_succ_eq_append_getElem hk, kidsSum_snoc] at h1
  exact h1
/-- As many rules, nodes, kids as are gone through, or fewer. -/
def smallG (g : Gr) : Prop := g.rules.length + g.nodes.length + kidsSum g.nodes ≤ 300
/-- What is told of how many there are: exact, if it is small; more, if it is not. -/
def SizePost (g : Gr) (w : World) (e : Ending) (w' : World) : Prop :=
  ∃ m : Int, e = .returned (.int .i64 m) ∧ (smallG g → m ≤ 300) ∧ (¬ smallG g → 300 < m) ∧ Chg [] w w'

def Reach (g : Gr) : Prop := g.rules.length ≤ 17592186044416 ∧ g.nodes.length ≤ 17592186044416 ∧ ∀ x ∈ g.nodes, x.kids.length ≤ 17592186044416

end Go.Proofs.Ytplpboknmhgpiaa
set_option linter.unusedVariables false
set_option linter.unusedSimpArgs false
namespace Go.Proofs.Ytplpboknmhgpiaa
open Go.RowKit Go.MapKept Go.Shelf

def nd0 (k : Int) (kids : List Int) : Nd := ⟨k, 0, 0, 0, 0, ⟨#[]⟩, 0, 0, kids⟩
def exG : Gr := ⟨[⟨⟨#[65]⟩, 0⟩], [nd0 7 [1, 4], nd0 6 [2, 3], ⟨4, 0, 0, 0, 0, ⟨#[97]⟩, 0, 0, []⟩, nd0 5 [], nd0 1 []]⟩
theorem exG_tab : wholeT exG = some [(5, 3), (3, 2), (1, 1), (1, 1), (1, 1)] := by decide +kernel
theorem exG_rule0 : ruleI exG.rules ⟨#[65]⟩ = 0 := by decide +kernel
theorem exG_rule1 : ruleI exG.rules ⟨#[66]⟩ = -1 := by decide +kernel
theorem exG_right : rightB exG = true := by rw [rightB_iff, exG_tab]; rfl
theorem exG_size0 : sizeG exG 0 = 5 := by decide +kernel
theorem exG_size1 : sizeG exG 1 = 3 := by decide +kernel
theorem exG_height : heightG exG 0 = 3 := by decide +kernel
theorem exG_owner : ownerG exG 4 = 0 := by decide +kernel

/-- The argument's box, as it was, in a later world. -/
structure GrBox (w : World) (B : Nat) (a1 : Option Addr) (n1 c1 : Nat) (a2 : Option Addr) (n2 c2 : Nat) (wr : World) : Prop where
  ch : Chg [] w wr
  box : wr.heap[B]? = some (.cells #[.slice a1 n1 c1, .slice a2 n2 c2] 142 (0, 0))
theorem GrBox.keep {w wr w' : World} {B : Nat} {a1 : Option Addr} {n1 c1 : Nat} {a2 : Option Addr} {n2 c2 : Nat} (h : GrBox w B a1 n1 c1 a2 n2 c2 wr) (hc : Chg [] wr w') : GrBox w B a1 n1 c1 a2 n2 c2 w' := ⟨h.ch.tr hc, hc.heap h.box (by simp)⟩
theorem GrBox.new (w : World) (a1 : Option Addr) (n1 c1 : Nat) (a2 : Option Addr) (n2 c2 : Nat) : GrBox w w.heap.size a1 n1 c1 a2 n2 c2 (w.alloc (.cells #[.slice a1 n1 c1, .slice a2 n2 c2] 142)) := ⟨(Chg.refl _ _).alloc _, heap_alloc_same w _⟩

def ExPost (w : World) (e : Ending) (w' : World) : Prop :=
  ∃ a1 a2, e = .returned (.agg #[.slice a1 1 1, .slice a2 5 5]) ∧ GramAt w' a1 1 1 a2 5 5 exG ∧ Chg [] w w'

theorem heap_at0 (w : World) (o0 o1 o2 o3 o4 : Obj) : (((((w.alloc o0).alloc o1).alloc o2).alloc o3).alloc o4).heap[w.heap.size]? = some o0 ∧ (((((w.alloc o0).alloc o1).alloc o2).alloc o3).alloc o4).heap[w.heap.size + 1]? = some o1 ∧ (((((w.alloc o0).alloc o1).alloc o2).alloc o3).alloc o4).heap[w.heap.size + 1 + 1]? = some o2 ∧
    (((((w.alloc o0).alloc o1).alloc o2).alloc o3).alloc o4).heap[w.heap.size + 1 + 1 + 1]? = some o3 ∧ (((((w.alloc o0).alloc o1).alloc o2).alloc o3).alloc o4).heap[w.heap.size + 1 + 1 + 1 + 1]? = some o4 := by
  have h0 := heap_alloc_same w o0
  have h1 := heap_alloc_same (w.alloc o0) o1
  have h2 := heap_alloc_same ((w.alloc o0).alloc o1) o2
  have h3 := heap_alloc_same (((w.alloc o0).alloc o1).alloc o2) o3
  have h4 := heap_alloc_same ((((w.alloc o0).alloc o1).alloc o2).alloc o3) o4
  simp only [World.size_alloc] at h1 h2 h3 h4
  exact ⟨heap_alloc_lt (heap_alloc_lt (heap_alloc_lt (heap_alloc_lt h0 _) _) _) _, heap_alloc_lt (heap_alloc_lt (heap_alloc_lt h1 _) _) _, heap_alloc_lt (heap_alloc_lt h2 _) _, heap_alloc_lt h3 _, h4⟩

theorem exG_wf : exG.Wf := by
  refine ⟨?_, ?_, ?_⟩
  · intro x hx
    simp only [exG, List.mem_cons, List.not_mem_nil, or_false] at hx
    rcases hx with rfl | rfl | rfl | rfl | rfl
    all_goals refine ⟨by decide, by decide, by decide, by decide, by simp [nd0, maxLen, ByteArray.size]⟩
  · intro x hx
    simp only [exG, List.mem_cons, List.not_mem_nil, or_false] at hx
    subst hx
    simp [maxLen, ByteArray.size]
  · intro x hx
    simp only [exG, List.mem_cons, List.not_mem_nil, or_false] at hx
    subst hx
    decide
theorem exG_at {W : World} {b1 b2 b3 b4 : Nat} (g1 : W.heap[b1]? = some (.cells #[.string ⟨#[65]⟩, .int .i64 0] 136 (0, 0))) (g2 : W.heap[b2]? = some (.cells #[.int .i64 1, .int .i64 4] 3 (0, 0))) (g3 : W.heap[b3]? = some (.cells #[.int .i64 2, .int .i64 3] 3 (0, 0)))
    (g4 : W.heap[b4]? = some (.cells #[.int .i64 7, .int .u64 0, .int .u64 0, .int .u64 0, .int .u64 0, .string ⟨#[]⟩, .int .i64 0, .int .i64 0, .slice (some ⟨b2, 0, none⟩) 2 2,
      .int .i64 6, .int .u64 0, .int .u64 0, .int .u64 0, .int .u64 0, .string ⟨#[]⟩, .int .i64 0, .int .i64 0, .slice (some ⟨b3, 0, none⟩) 2 2,
      .int .i64 4, .int .u64 0, .int .u64 0, .int .u64 0, .int .u64 0, .string ⟨#[97]⟩, .int .i64 0, .int .i64 0, .slice none 0 0,
      .int .i64 5, .int .u64 0, .int .u64 0, .int .u64 0, .int .u64 0, .string ⟨#[]⟩, .int .i64 0, .int .i64 0, .slice none 0 0,
      .int .i64 1, .int .u64 0, .int .u64 0, .int .u64 0, .int .u64 0, .string ⟨#[]⟩, .int .i64 0, .int .i64 0, .slice none 0 0] 131 (0, 0))) :
    GramAt W (some ⟨b1, 0, none⟩) 1 1 (some ⟨b4, 0, none⟩) 5 5 exG := by
  have i2 : Ints W (some ⟨b2, 0, none⟩) [1, 4] := fun i hi => match i, hi with
    | 0, _ => ⟨b2, 0, rfl, (cell_of_cells g2 _).trans rfl⟩
    | 1, _ => ⟨b2, 0, rfl, (cell_of_cells g2 _).trans rfl⟩
  have i3 : Ints W (some ⟨b3, 0, none⟩) [2, 3] := fun i hi => match i, hi with
    | 0, _ => ⟨b3, 0, rfl, (cell_of_cells g3 _).trans rfl⟩
    | 1, _ => ⟨b3, 0, rfl, (cell_of_cells g3 _).trans rfl⟩
  refine ⟨rfl, Nat.le_refl _, by simp [maxLen], ?_, rfl, Nat.le_refl _, by simp [maxLen], ?_, exG_wf⟩
  · intro i hi
    match i, hi with
    | 0, _ => exact ⟨b1, 0, rfl, (cell_of_cells g1 _).trans rfl, (cell_of_cells g1 _).trans rfl⟩
  · intro i hi
    match i, hi with
    | 0, _ => exact ⟨b4, 0, _, 2, 2, rfl, ⟨(cell_of_cells g4 _).trans rfl, (cell_of_cells g4 _).trans rfl, (cell_of_cells g4 _).trans rfl, (cell_of_cells g4 _).trans rfl, (cell_of_cells g4 _).trans rfl, (cell_of_cells g4 _).trans rfl, (cell_of_cells g4 _).trans rfl, (cell_of_cells g4 _).trans rfl, (cell_of_cells g4 _).trans rfl, rfl, Nat.le_refl _, by simp [maxLen], i2⟩⟩
    | 1, _ => exact ⟨b4, 0, _, 2, 2, rfl, ⟨(cell_of_cells g4 _).trans rfl, (cell_of_cells g4 _).trans rfl, (cell_of_cells g4 _).trans rfl, (cell_of_cells g4 _).trans rfl, (cell_of_cells g4 _).trans rfl, (cell_of_cells g4 _).trans rfl, (cell_of_cells g4 _).trans rfl, (cell_of_cells g4 _).trans rfl, (cell_of_cells g4 _).trans rfl, rfl, Nat.le_refl _, by simp [maxLen], i3⟩⟩
    | 2, _ => exact ⟨b4, 0, _, 0, 0, rfl, ⟨(cell_of_cells g4 _).trans rfl, (cell_of_cells g4 _).trans rfl, (cell_of_cells g4 _).trans rfl, (cell_of_cells g4 _).trans rfl, (cell_of_cells g4 _).trans rfl, (cell_of_cells g4 _).trans rfl, (cell_of_cells g4 _).trans rfl, (cell_of_cells g4 _).trans rfl, (cell_of_cells g4 _).trans rfl, rfl, Nat.le_refl _, by simp [maxLen], Ints.nil _ _⟩⟩
    | 3, _ => exact ⟨b4, 0, _, 0, 0, rfl, ⟨(cell_of_cells g4 _).trans rfl, (cell_of_cells g4 _).trans rfl, (cell_of_cells g4 _).trans rfl, (cell_of_cells g4 _).trans rfl, (cell_of_cells g4 _).trans rfl, (cell_of_cells g4 _).trans rfl, (cell_of_cells g4 _).trans rfl, (cell_of_cells g4 _).trans rfl, (cell_of_cells g4 _).trans rfl, rfl, Nat.le_refl _, by simp [maxLen], Ints.nil _ _⟩⟩
    | 4, _ => exact ⟨b4, 0, _, 0, 0, rfl, ⟨(cell_of_cells g4 _).trans rfl, (cell_of_cells g4 _).trans rfl, (cell_of_cells g4 _).trans rfl, (cell_of_cells g4 _).trans rfl, (cell_of_cells g4 _).trans rfl, (cell_of_cells g4 _).trans rfl, (cell_of_cells g4 _).trans rfl, (cell_of_cells g4 _).trans rfl, (cell_of_cells g4 _).trans rfl, rfl, Nat.le_refl _, by simp [maxLen], Ints.nil _ _⟩⟩

end Go.Proofs.Ytplpboknmhgpiaa
set_option linter.unusedVariables false
set_option linter.unusedSimpArgs false
namespace Go.Proofs.Ytplpboknmhgpiaa
open Go.RowKit Go.MapKept Go.Shelf

theorem tab_drop {ns : List Nd} {t : List (Nat × Nat)} (h : tab ns = some t) : ∀ n, n ≤ ns.length → tabFrom (ns.drop n) n = some (t.drop n) := by
  intro n
  induction n with
  | zero => intro _; simpa [tab] using h
  | succ n ih =>
    intro hn
    have h1 := ih (by omega)
    rw [drop_split (by omega : n < ns.length)] at h1
    simp only [tabFrom] at h1
    split at h1
    · cases h1
    · rename_i t' ht'
      split at h1
      · cases h1
      · rename_i e hh hk
        simp only [Option.some.injEq] at h1
        have h2 : t.drop (n + 1) = t' := by
          have := congrArg (List.drop 1) h1
          simp only [List.drop_succ_cons, List.drop_zero, List.drop_drop] at this
          rw [this, Nat.add_comm]
        rw [h2]
        exact ht'
theorem tab_eq {ns : List Nd} {t : List (Nat × Nat)} (h : tab ns = some t) {n : Nat} (hn : n < ns.length) : ∃ e hh, kidsTab (t.drop (n + 1)) (n + 1) ns[n].kids (n + 1) 0 = some (e, hh) ∧ t[n]? = some (e - n, hh + 1) ∧ n + 1 ≤ e := by
  have h1 := tab_drop h n (by omega)
  have h2 := tab_drop h (n + 1) (by omega)
  rw [drop_split hn] at h1
  simp only [tabFrom, h2] at h1
  split at h1
  · cases h1
  · rename_i e hh hk
    simp only [Option.some.injEq] at h1
    refine ⟨e, hh, hk, ?_, (kidsTab_le hk).1⟩
    have := congrArg (fun l => l[0]?) h1
    simpa using this.symm
theorem chain_next {g : Gr} {t : List (Nat × Nat)} {k x e : Nat} (hk : k < g.rules.length) (h : chainT g t (g.rules.drop k) k x = some e) :
    ruleI g.rules g.rules[k].name = (k : Int) ∧ g.rules[k].body = (x : Int) ∧ ∃ z h, t[x]? = some (z, h) ∧ h ≤ 16 ∧ chainT g t (g.rules.drop (k + 1)) (k + 1) (x + z) = some e := by
  rw [chainT_at hk] at h
  split at h
  · rename_i hc
    simp only [Bool.and_eq_true, decide_eq_true_eq] at hc
    split at h
    · cases h
    · rename_i z hh hz
      split at h
      · rename_i hle
        exact ⟨hc.1.2, hc.2, z, hh, hz, hle, h⟩
      · cases h
  · cases h
theorem owner_at {g : Gr} {t : List (Nat × Nat)} (ht : wholeT g = some t) {i x z h n e : Nat} (hi : i < g.rules.length) (hb : ∀ j (hj : j < g.rules.length), j < i → g.rules[j].body ≤ (x : Int)) (hbi : g.rules[i].body = (x : Int))
    (hz : t[x]? = some (z, h)) (hc : chainT g t (g.rules.drop (i + 1)) (i + 1) (x + z) = some e) (h1 : x ≤ n) (h2 : n < x + z) : ownerG g n = i := by
  have htab := (wholeT_some ht).2
  have hxl : x < g.nodes.length := by
    have h3 := (List.getElem?_eq_some_iff.1 hz).1
    have := (tab_ok htab).1
    omega
  obtain ⟨z', h', hz', _, hle, _⟩ := tabOk_le (tab_ok htab) (Nat.zero_le x) hxl
  rw [Nat.sub_zero, hz] at hz'
  cases hz'
  obtain ⟨z2, hh2, hz2, hz3, _⟩ := right_aft ht (n := n) (by omega)
  have hs : sizeG g n = z2 := (size_in ht (by omega) hz2).1
  unfold ownerG
  rw [hs, if_neg (by omega)]
  have hN : ownerN g.rules n = i + 1 := by
    unfold ownerN
    have hlow : ∀ j (hj : j < g.rules.length), j < i + 1 → decide ((n : Int) < g.rules[j].body) = false := by
      intro j hj hji
      simp only [decide_eq_false_iff_not]
      by_cases e : j = i
      · subst e; rw [hbi]; omega
      · have := hb j hj (by omega); omega
    by_cases hl : i + 1 < g.rules.length
    · refine findIdx_at hl ?_ (fun j hj => hlow j (by omega) hj)
      rw [(chain_next hl hc).2.1]
      simp; omega
    · have hl2 : i + 1 = g.rules.length := by omega
      rw [findIdx_none (fun j hj => hlow j hj (by omega)), hl2]
  rw [hN]
  omega
/-- The next kid of a node of a right grammar. -/
theorem kid_next {ns : List Nd} {t : List (Nat × Nat)} (h : tab ns = some t) {n : Nat} (hn : n < ns.length) {k a y : Nat} (hk : k < ns[n].kids.length) (hp : kidsTab (t.drop (n + 1)) (n + 1) (ns[n].kids.take k) (n + 1) 0 = some (a, y)) :
    ns[n].kids[k] = (a : Int) ∧ n + 1 ≤ a ∧ a < ns.length ∧ ∃ z hh, t[a]? = some (z, hh) ∧ a + z ≤ ns.length ∧ hh ≤ z ∧ kidsTab (t.drop (n + 1)) (n + 1) (ns[n].kids.take (k + 1)) (n + 1) 0 = some (a + z, max y hh) := by
  obtain ⟨e, hh0, hk0, _, _⟩ := tab_eq h hn
  have ha := (kidsTab_le hp).1
  have h1 : kidsTab (t.drop (n + 1)) (n + 1) (ns[n].kids.take (k + 1)) (n + 1) 0 = kidsTab (t.drop (n + 1)) (n + 1) [ns[n].kids[k]] a y := by
    rw [List.take_succ_eq_append_getElem hk, kidsTab_snoc, hp]
  have h2 : kidsTab (t.drop (n + 1)) (n + 1) (ns[n].kids.take (k + 1)) (n + 1) 0 ≠ none := by
    intro hnone
    have := kidsTab_none (l := ns[n].kids.drop (k + 1)) hnone
    rw [List.take_append_drop, hk0] at this
    cases this
  rw [h1] at h2
  simp only [kidsTab] at h2
  by_cases e1 : ns[n].kids[k] = (a : Int)
  · rw [if_pos e1] at h2
    have hd : (t.drop (n + 1))[a - (n + 1)]? = t[a]? := by rw [List.getElem?_drop]; congr 1; omega
    rw [hd] at h2
    cases hta : t[a]? with
    | none => rw [hta] at h2; exact absurd rfl h2
    | some p =>
      obtain ⟨z, hh⟩ := p
      have hal : a < ns.length := by
        have h3 := (List.getElem?_eq_some_iff.1 hta).1
        have := (tab_ok h).1
        omega
      obtain ⟨z', h', hz', _, hle, hhz⟩ := tabOk_le (tab_ok h) (Nat.zero_le a) hal
      rw [Nat.sub_zero, hta] at hz'
      cases hz'
      refine ⟨e1, ha, hal, z, hh, rfl, hle, hhz, ?_⟩
      rw [h1]
      simp only [kidsTab, if_pos e1, hd, hta]
  · rw [if_neg e1] at h2; exact absurd rfl h2

theorem whole_chain {g : Gr} {t : List (Nat × Nat)} (ht : wholeT g = some t) : chainT g t g.rules 0 0 = some g.nodes.length := by
  unfold wholeT at ht
  split at ht
  · split at ht
    · cases ht
    · rename_i t' ht'
      split at ht
      · rename_i hc
        simp only [Option.some.injEq] at ht
        subst ht
        simpa using hc
      · cases ht
  · cases ht
theorem chain_le {g : Gr} {t : List (Nat × Nat)} (ht : tab g.nodes = some t) {x z h : Nat} (hz : t[x]? = some (z, h)) : x < g.nodes.length ∧ 1 ≤ z ∧ x + z ≤ g.nodes.length := by
  have hxl : x < g.nodes.length := by
    have h3 := (List.getElem?_eq_some_iff.1 hz).1
    have := (tab_ok ht).1
    omega
  obtain ⟨z', h', hz', h1, hle, _⟩ := tabOk_le (tab_ok ht) (Nat.zero_le x) hxl
  rw [Nat.sub_zero, hz] at hz'
  cases hz'
  exact ⟨hxl, h1, hle⟩

end Go.Proofs.Ytplpboknmhgpiaa

/-
  Right, Size, Height, Owner: the walks.
  Conditions: the grammar reads as data (GramAt); the numbers are int64s.
-/
import Derived.Test.YtlklmpjakeedcaaGreatDoorSOrGWhole
set_option linter.unusedVariables false
set_option linter.unusedSimpArgs false
namespace Go.Proofs.YtlklmpjakeedcaaGreatDoor
open Go.RowKit Go.MapKept Go.Shelf

set_option maxRecDepth 100000 in
set_option maxHeartbeats 1000000 in
theorem Right_any (w : World) (a1 : Option Addr) (n1 c1 : Nat) (a2 : Option Addr) (n2 c2 : Nat) (g : Gr) (hg : GramAt w a1 n1 c1 a2 n2 c2 g) :
    Calls Tryz.prog 14 #[.agg #[.slice a1 n1 c1, .slice a2 n2 c2]] w fun e w' => e = .returned (.bool (rightB g)) ∧ Chg [] w w' := by
  have HG := Lib.hid hg
  clear hg
  go_enter Tryz.func14, Tryz.ntmps14
  go_wp2_with fail
  refine (whole_any _ a1 n1 c1 a2 n2 c2 g (HG.out.keep ((Chg.refl [] _).alloc _).kp)).mono ?_
  rintro e w2 ⟨s1, m1, d1, s2, m2, d2, rfl, hc2, ht⟩
  have H2 := Lib.hid hc2
  clear hc2 ht
  go_wp2
  go_ret
  exact ⟨ret_bool (rightB_iff g).symm, (((Chg.refl _ _).alloc _).tr H2.out).alloc _⟩

theorem size_none {g : Gr} (h : wholeT g = none) (n : Int) : sizeG g n = 0 ∧ heightG g n = 0 := by unfold sizeG heightG; rw [h]; simp
theorem size_out {g : Gr} {n : Int} (h : ¬ (0 ≤ n ∧ n < g.nodes.length)) : sizeG g n = 0 ∧ heightG g n = 0 := by
  unfold sizeG heightG
  cases wholeT g with
  | none => simp
  | some t => simp only [if_neg h]; simp
theorem size_in {g : Gr} {t : List (Nat × Nat)} {n z h : Nat} (ht : wholeT g = some t) (hn : n < g.nodes.length) (hz : t[n]? = some (z, h)) : sizeG g n = z ∧ heightG g n = h := by
  unfold sizeG heightG
  rw [ht]
  simp only []
  rw [if_pos ⟨by omega, by omega⟩, if_pos ⟨by omega, by omega⟩]
  simp [hz]

set_option maxRecDepth 100000 in
set_option maxHeartbeats 2000000 in
theorem Size_any (w : World) (a1 : Option Addr) (n1 c1 : Nat) (a2 : Option Addr) (n2 c2 : Nat) (g : Gr) (n : Int) (hg : GramAt w a1 n1 c1 a2 n2 c2 g) :
    Calls Tryz.prog 60 #[.agg #[.slice a1 n1 c1, .slice a2 n2 c2], .int .i64 n] w fun e w' => e = .returned (.int .i64 (sizeG g n)) ∧ Chg [] w w' := by
  have hs2 := hg.small.2
  have HG := Lib.hid hg
  clear hg
  go_enter Tryz.func60, Tryz.ntmps60
  go_wp2_with fail
  have hB := heap_alloc_same w (.cells #[.slice a1 n1 c1, .slice a2 n2 c2] 31)
  refine (whole_any _ a1 n1 c1 a2 n2 c2 g (HG.out.keep ((Chg.refl [] _).alloc _).kp)).mono ?_
  rintro e w2 ⟨s1, m1, d1, s2, m2, d2, rfl, hc2, ht⟩
  have hB2 := hc2.heap hB (by simp)
  obtain ⟨x0, x1⟩ := cells2 hB2
  have hBl := lt_of_block hB2
  have H2 := Lib.hid (And.intro (((Chg.refl [] w).alloc _).tr hc2) ht)
  clear hc2 ht hB hB2
  cases hw : wholeT g with
  | none =>
    have HS := Lib.hid (size_none hw n)
    clear hw
    go_wp2
    go_ret
    exact ⟨ret_int HS.out.1.symm, H2.out.1.alloc _⟩
  | some t =>
    have HW := Lib.hid hw
    clear hw
    by_cases hn : 0 ≤ n ∧ n < (n2 : Int)
    · obtain ⟨k, rfl⟩ : ∃ k : Nat, n = k := ⟨n.toNat, by omega⟩
      have hk : k < n2 := by omega
      have hkn : k < g.nodes.length := by have := HG.out.e2; omega
      obtain ⟨z, h, h1, _⟩ := right_aft HW.out hkn
      obtain ⟨e1, e2, i1, i2⟩ := H2.out.2 t HW.out
      have hkt : k < t.length := (List.getElem?_eq_some_iff.1 h1).1
      have hget : t[k] = (z, h) := (List.getElem?_eq_some_iff.1 h1).2
      obtain ⟨b1, o1, rfl, j1⟩ := i1 k (by simpa using hkt)
      simp only [List.getElem_map, hget] at j1
      have hb1 := World.block_lt_of_cell? _ _ j1
      simp only at hb1
      have hm1 : k < m1 := by omega
      have HS := Lib.hid (size_in HW.out hkn h1)
      clear h1 e1 e2 i1 i2 hget hkt hkn hn
      have hk0 : (0 : Int) ≤ (k : Int) := by omega
      go_wp2
      go_ret
      exact ⟨ret_int HS.out.1.symm, H2.out.1.alloc _⟩
    · have HS := Lib.hid (size_out (g := g) (n := n) (by rw [← HG.out.e2]; exact hn))
      have hcs : decide (n < 0) = true ∨ (decide (n < 0) = false ∧ decide ((n2 : Int) ≤ n) = true) := by simp; omega
      clear hn
      rcases hcs with q | ⟨q, q2⟩
      all_goals
        go_wp2
        go_ret
        exact ⟨ret_int HS.out.1.symm, H2.out.1.alloc _⟩

set_option maxRecDepth 100000 in
set_option maxHeartbeats 2000000 in
theorem Height_any (w : World) (a1 : Option Addr) (n1 c1 : Nat) (a2 : Option Addr) (n2 c2 : Nat) (g : Gr) (n : Int) (hg : GramAt w a1 n1 c1 a2 n2 c2 g) :
    Calls Tryz.prog 30 #[.agg #[.slice a1 n1 c1, .slice a2 n2 c2], .int .i64 n] w fun e w' => e = .returned (.int .i64 (heightG g n)) ∧ Chg [] w w' := by
  have hs2 := hg.small.2
  have HG := Lib.hid hg
  clear hg
  go_enter Tryz.func30, Tryz.ntmps30
  go_wp2_with fail
  have hB := heap_alloc_same w (.cells #[.slice a1 n1 c1, .slice a2 n2 c2] 31)
  refine (whole_any _ a1 n1 c1 a2 n2 c2 g (HG.out.keep ((Chg.refl [] _).alloc _).kp)).mono ?_
  rintro e w2 ⟨s1, m1, d1, s2, m2, d2, rfl, hc2, ht⟩
  have hB2 := hc2.heap hB (by simp)
  obtain ⟨x0, x1⟩ := cells2 hB2
  have hBl := lt_of_block hB2
  have H2 := Lib.hid (And.intro (((Chg.refl [] w).alloc _).tr hc2) ht)
  clear hc2 ht hB hB2
  cases hw : wholeT g with
  | none =>
    have HS := Lib.hid (size_none hw n)
    clear hw
    go_wp2
    go_ret
    exact ⟨ret_int HS.out.2.symm, H2.out.1.alloc _⟩
  | some t =>
    have HW := Lib.hid hw
    clear hw
    by_cases hn : 0 ≤ n ∧ n < (n2 : Int)
    · obtain ⟨k, rfl⟩ : ∃ k : Nat, n = k := ⟨n.toNat, by omega⟩
      have hk : k < n2 := by omega
      have hkn : k < g.nodes.length := by have := HG.out.e2; omega
      obtain ⟨z, h, h1, _⟩ := right_aft HW.out hkn
      obtain ⟨e1, e2, i1, i2⟩ := H2.out.2 t HW.out
      have hkt : k < t.length := (List.getElem?_eq_some_iff.1 h1).1
      have hget : t[k] = (z, h) := (List.getElem?_eq_some_iff.1 h1).2
      obtain ⟨b1, o1, rfl, j1⟩ := i2 k (by simpa using hkt)
      simp only [List.getElem_map, hget] at j1
      have hb1 := World.block_lt_of_cell? _ _ j1
      simp only at hb1
      have hm1 : k < m2 := by omega
      have HS := Lib.hid (size_in HW.out hkn h1)
      clear h1 e1 e2 i1 i2 hget hkt hkn hn
      have hk0 : (0 : Int) ≤ (k : Int) := by omega
      go_wp2
      go_ret
      exact ⟨ret_int HS.out.2.symm, H2.out.1.alloc _⟩
    · have HS := Lib.hid (size_out (g := g) (n := n) (by rw [← HG.out.e2]; exact hn))
      have hcs : decide (n < 0) = true ∨ (decide (n < 0) = false ∧ decide ((n2 : Int) ≤ n) = true) := by simp; omega
      clear hn
      rcases hcs with q | ⟨q, q2⟩
      all_goals
        go_wp2
        go_ret
        exact ⟨ret_int HS.out.2.symm, H2.out.1.alloc _⟩

theorem owner_idx (rs : List Rl) (n : Int) : idxI rs (fun r => decide (n < r.body)) = if ownerN rs n < rs.length then (ownerN rs n : Int) else -1 := rfl
theorem owner_len (rs : List Rl) (n : Int) : ownerN rs n ≤ rs.length := List.findIdx_le_length

end Go.Proofs.YtlklmpjakeedcaaGreatDoor
set_option linter.unusedVariables false
set_option linter.unusedSimpArgs false
namespace Go.Proofs.YtlklmpjakeedcaaGreatDoor
open Go.RowKit Go.MapKept Go.Shelf

def kidsSum (ns : List Nd) : Nat := (ns.map fun x => x.kids.length).sum
theorem kidsSum_snoc (ns : List Nd) (x : Nd) : kidsSum (ns ++ [x]) = kidsSum ns + x.kids.length := by simp [kidsSum]
theorem kidsSum_append (a b : List Nd) : kidsSum (a ++ b) = kidsSum a + kidsSum b := by simp [kidsSum]
theorem kidsSum_take_le (ns : List Nd) (k : Nat) : kidsSum (ns.take k) ≤ kidsSum ns := by
  have h : kidsSum ns = kidsSum (ns.take k) + kidsSum (ns.drop k) := by rw [← kidsSum_append, List.take_append_drop]
  omega
theorem kids_le_sum (ns : List Nd) (k : Nat) (hk : k < ns.length) : kidsSum (ns.take k) + ns[k].kids.length ≤ kidsSum ns := by
  have h1 := kidsSum_take_le ns (k + 1)
  rw [List.take_succ_eq_append_getElem hk, kidsSum_snoc] at h1
  exact h1
/-- As many rules, nodes, kids as are gone through, or fewer. -/
def smallG (g : Gr) : Prop := g.rules.length + g.nodes.length + kidsSum g.nodes ≤ 300
/-- What is told of how many there are: exact, if it is small; more, if it is not. -/
def SizePost (g : Gr) (w : World) (e : Ending) (w' : World) : Prop :=
  ∃ m : Int, e = .returned (.int .i64 m) ∧ (smallG g → m ≤ 300) ∧ (¬ smallG g → 300 < m) ∧ Chg [] w w'

def Reach (g : Gr) : Prop := g.rules.length ≤ 17592186044416 ∧ g.nodes.length ≤ 17592186044416 ∧ ∀ x ∈ g.nodes, x.kids.length ≤ 17592186044416

end Go.Proofs.YtlklmpjakeedcaaGreatDoor
set_option linter.unusedVariables false
set_option linter.unusedSimpArgs false
namespace Go.Proofs.YtlklmpjakeedcaaGreatDoor
open Go.RowKit Go.MapKept Go.Shelf

def nd0 (k : Int) (kids : List Int) : Nd := ⟨k, 0, 0, 0, 0, ⟨#[]⟩, 0, 0, kids⟩
def exG : Gr := ⟨[⟨⟨#[65]⟩, 0⟩], [nd0 7 [1, 4], nd0 6 [2, 3], ⟨4, 0, 0, 0, 0, ⟨#[97]⟩, 0, 0, []⟩, nd0 5 [], nd0 1 []]⟩
theorem exG_tab : wholeT exG = some [(5, 3), (3, 2), (1, 1), (1, 1), (1, 1)] := by decide +kernel
theorem exG_rule0 : ruleI exG.rules ⟨#[65]⟩ = 0 := by decide +kernel
theorem exG_rule1 : ruleI exG.rules ⟨#[66]⟩ = -1 := by decide +kernel
theorem exG_right : rightB exG = true := by rw [rightB_iff, exG_tab]; rfl
theorem exG_size0 : sizeG exG 0 = 5 := by decide +kernel
theorem exG_size1 : sizeG exG 1 = 3 := by decide +kernel
theorem exG_height : heightG exG 0 = 3 := by decide +kernel
theorem exG_owner : ownerG exG 4 = 0 := by decide +kernel

/-- The argument's box, as it was, in a later world. -/
structure GrBox (w : World) (B : Nat) (a1 : Option Addr) (n1 c1 : Nat) (a2 : Option Addr) (n2 c2 : Nat) (wr : World) : Prop where
  ch : Chg [] w wr
  box : wr.heap[B]? = some (.cells #[.slice a1 n1 c1, .slice a2 n2 c2] 31 (0, 0))
theorem GrBox.keep {w wr w' : World} {B : Nat} {a1 : Option Addr} {n1 c1 : Nat} {a2 : Option Addr} {n2 c2 : Nat} (h : GrBox w B a1 n1 c1 a2 n2 c2 wr) (hc : Chg [] wr w') : GrBox w B a1 n1 c1 a2 n2 c2 w' := ⟨h.ch.tr hc, hc.heap h.box (by simp)⟩
theorem GrBox.new (w : World) (a1 : Option Addr) (n1 c1 : Nat) (a2 : Option Addr) (n2 c2 : Nat) : GrBox w w.heap.size a1 n1 c1 a2 n2 c2 (w.alloc (.cells #[.slice a1 n1 c1, .slice a2 n2 c2] 31)) := ⟨(Chg.refl _ _).alloc _, heap_alloc_same w _⟩

def ExPost (w : World) (e : Ending) (w' : World) : Prop :=
  ∃ a1 a2, e = .returned (.agg #[.slice a1 1 1, .slice a2 5 5]) ∧ GramAt w' a1 1 1 a2 5 5 exG ∧ Chg [] w w'

theorem heap_at0 (w : World) (o0 o1 o2 o3 o4 : Obj) : (((((w.alloc o0).alloc o1).alloc o2).alloc o3).alloc o4).heap[w.heap.size]? = some o0 ∧ (((((w.alloc o0).alloc o1).alloc o2).alloc o3).alloc o4).heap[w.heap.size + 1]? = some o1 ∧ (((((w.alloc o0).alloc o1).alloc o2).alloc o3).alloc o4).heap[w.heap.size + 1 + 1]? = some o2 ∧
    (((((w.alloc o0).alloc o1).alloc o2).alloc o3).alloc o4).heap[w.heap.size + 1 + 1 + 1]? = some o3 ∧ (((((w.alloc o0).alloc o1).alloc o2).alloc o3).alloc o4).heap[w.heap.size + 1 + 1 + 1 + 1]? = some o4 := by
  have h0 := heap_alloc_same w o0
  have h1 := heap_alloc_same (w.alloc o0) o1
  have h2 := heap_alloc_same ((w.alloc o0).alloc o1) o2
  have h3 := heap_alloc_same (((w.alloc o0).alloc o1).alloc o2) o3
  have h4 := heap_alloc_same ((((w.alloc o0).alloc o1).alloc o2).alloc o3) o4
  simp only [World.size_alloc] at h1 h2 h3 h4
  exact ⟨heap_alloc_lt (heap_alloc_lt (heap_alloc_lt (heap_alloc_lt h0 _) _) _) _, heap_alloc_lt (heap_alloc_lt (heap_alloc_lt h1 _) _) _, heap_alloc_lt (heap_alloc_lt h2 _) _, heap_alloc_lt h3 _, h4⟩

theorem exG_wf : exG.Wf := by
  refine ⟨?_, ?_, ?_⟩
  · intro x hx
    simp only [exG, List.mem_cons, List.not_mem_nil, or_false] at hx
    rcases hx with rfl | rfl | rfl | rfl | rfl
    all_goals refine ⟨by decide, by decide, by decide, by decide, by simp [nd0, maxLen, ByteArray.size]⟩
  · intro x hx
    simp only [exG, List.mem_cons, List.not_mem_nil, or_false] at hx
    subst hx
    simp [maxLen, ByteArray.size]
  · intro x hx
    simp only [exG, List.mem_cons, List.not_mem_nil, or_false] at hx
    subst hx
    decide
theorem exG_at {W : World} {b1 b2 b3 b4 : Nat} (g1 : W.heap[b1]? = some (.cells #[.string ⟨#[65]⟩, .int .i64 0] 53 (0, 0))) (g2 : W.heap[b2]? = some (.cells #[.int .i64 1, .int .i64 4] 3 (0, 0))) (g3 : W.heap[b3]? = some (.cells #[.int .i64 2, .int .i64 3] 3 (0, 0)))
    (g4 : W.heap[b4]? = some (.cells #[.int .i64 7, .int .u64 0, .int .u64 0, .int .u64 0, .int .u64 0, .string ⟨#[]⟩, .int .i64 0, .int .i64 0, .slice (some ⟨b2, 0, none⟩) 2 2,
      .int .i64 6, .int .u64 0, .int .u64 0, .int .u64 0, .int .u64 0, .string ⟨#[]⟩, .int .i64 0, .int .i64 0, .slice (some ⟨b3, 0, none⟩) 2 2,
      .int .i64 4, .int .u64 0, .int .u64 0, .int .u64 0, .int .u64 0, .string ⟨#[97]⟩, .int .i64 0, .int .i64 0, .slice none 0 0,
      .int .i64 5, .int .u64 0, .int .u64 0, .int .u64 0, .int .u64 0, .string ⟨#[]⟩, .int .i64 0, .int .i64 0, .slice none 0 0,
      .int .i64 1, .int .u64 0, .int .u64 0, .int .u64 0, .int .u64 0, .string ⟨#[]⟩, .int .i64 0, .int .i64 0, .slice none 0 0] 65 (0, 0))) :
    GramAt W (some ⟨b1, 0, none⟩) 1 1 (some ⟨b4, 0, none⟩) 5 5 exG := by
  have i2 : Ints W (some ⟨b2, 0, none⟩) [1, 4] := fun i hi => match i, hi with
    | 0, _ => ⟨b2, 0, rfl, (cell_of_cells g2 _).trans rfl⟩
    | 1, _ => ⟨b2, 0, rfl, (cell_of_cells g2 _).trans rfl⟩
  have i3 : Ints W (some ⟨b3, 0, none⟩) [2, 3] := fun i hi => match i, hi with
    | 0, _ => ⟨b3, 0, rfl, (cell_of_cells g3 _).trans rfl⟩
    | 1, _ => ⟨b3, 0, rfl, (cell_of_cells g3 _).trans rfl⟩
  refine ⟨rfl, Nat.le_refl _, by simp [maxLen], ?_, rfl, Nat.le_refl _, by simp [maxLen], ?_, exG_wf⟩
  · intro i hi
    match i, hi with
    | 0, _ => exact ⟨b1, 0, rfl, (cell_of_cells g1 _).trans rfl, (cell_of_cells g1 _).trans rfl⟩
  · intro i hi
    match i, hi with
    | 0, _ => exact ⟨b4, 0, _, 2, 2, rfl, ⟨(cell_of_cells g4 _).trans rfl, (cell_of_cells g4 _).trans rfl, (cell_of_cells g4 _).trans rfl, (cell_of_cells g4 _).trans rfl, (cell_of_cells g4 _).trans rfl, (cell_of_cells g4 _).trans rfl, (cell_of_cells g4 _).trans rfl, (cell_of_cells g4 _).trans rfl, (cell_of_cells g4 _).trans rfl, rfl, Nat.le_refl _, by simp [maxLen], i2⟩⟩
    | 1, _ => exact ⟨b4, 0, _, 2, 2, rfl, ⟨(cell_of_cells g4 _).trans rfl, (cell_of_cells g4 _).trans rfl, (cell_of_cells g4 _).trans rfl, (cell_of_cells g4 _).trans rfl, (cell_of_cells g4 _).trans rfl, (cell_of_cells g4 _).trans rfl, (cell_of_cells g4 _).trans rfl, (cell_of_cells g4 _).trans rfl, (cell_of_cells g4 _).trans rfl, rfl, Nat.le_refl _, by simp [maxLen], i3⟩⟩
    | 2, _ => exact ⟨b4, 0, _, 0, 0, rfl, ⟨(cell_of_cells g4 _).trans rfl, (cell_of_cells g4 _).trans rfl, (cell_of_cells g4 _).trans rfl, (cell_of_cells g4 _).trans rfl, (cell_of_cells g4 _).trans rfl, (cell_of_cells g4 _).trans rfl, (cell_of_cells g4 _).trans rfl, (cell_of_cells g4 _).trans rfl, (cell_of_cells g4 _).trans rfl, rfl, Nat.le_refl _, by simp [maxLen], Ints.nil _ _⟩⟩
    | 3, _ => exact ⟨b4, 0, _, 0, 0, rfl, ⟨(cell_of_cells g4 _).trans rfl, (cell_of_cells g4 _).trans rfl, (cell_of_cells g4 _).trans rfl, (cell_of_cells g4 _).trans rfl, (cell_of_cells g4 _).trans rfl, (cell_of_cells g4 _).trans rfl, (cell_of_cells g4 _).trans rfl, (cell_of_cells g4 _).trans rfl, (cell_of_cells g4 _).trans rfl, rfl, Nat.le_refl _, by simp [maxLen], Ints.nil _ _⟩⟩
    | 4, _ => exact ⟨b4, 0, _, 0, 0, rfl, ⟨(cell_of_cells g4 _).trans rfl, (cell_of_cells g4 _).trans rfl, (cell_of_cells g4 _).trans rfl, (cell_of_cells g4 _).trans rfl, (cell_of_cells g4 _).trans rfl, (cell_of_cells g4 _).trans rfl, (cell_of_cells g4 _).trans rfl, (cell_of_cells g4 _).trans rfl, (cell_of_cells g4 _).trans rfl, rfl, Nat.le_refl _, by simp [maxLen], Ints.nil _ _⟩⟩

end Go.Proofs.YtlklmpjakeedcaaGreatDoor

/-
  Layer 6's law: how many there are; the chapter's example is as the statement says.
  Conditions: the grammar reads as data (GramAt).
-/
import Derived.Test.YtibgfgfmljhimaaGRight
set_option linter.unusedVariables false
set_option linter.unusedSimpArgs false
namespace Go.Proofs.Ytibgfgfmljhimaa
open Go.RowKit Go.MapKept Go.Shelf

def kidsSum (ns : List Nd) : Nat := (ns.map fun x => x.kids.length).sum
theorem kidsSum_snoc (ns : List Nd) (x : Nd) : kidsSum (ns ++ [x]) = kidsSum ns + x.kids.length := by simp [kidsSum]
theorem kidsSum_append (a b : List Nd) : kidsSum (a ++ b) = kidsSum a + kidsSum b := by simp [kidsSum]
theorem kidsSum_take_le (ns : List Nd) (k : Nat) : kidsSum (ns.take k) ≤ kidsSum ns := by
  have h : kidsSum ns = kidsSum (ns.take k) + kidsSum (ns.drop k) := by rw [← kidsSum_append, List.take_append_drop]
  omega
theorem kids_le_sum (ns : List Nd) (k : Nat) (hk : k < ns.length) : kidsSum (ns.take k) + ns[k].kids.length ≤ kidsSum ns := by
  have h1 := kidsSum_take_le ns (k + 1)
  rw [List.take_succ_eq_append_getElem hk, kidsSum_snoc] at h1
  exact h1
/-- As many rules, nodes, kids as are gone through, or fewer. -/
def smallG (g : Gr) : Prop := g.rules.length + g.nodes.length + kidsSum g.nodes ≤ 300
/-- What is told of how many there are: exact, if it is small; more, if it is not. -/
def SizePost (g : Gr) (w : World) (e : Ending) (w' : World) : Prop :=
  ∃ m : Int, e = .returned (.int .i64 m) ∧ (smallG g → m ≤ 300) ∧ (¬ smallG g → 300 < m) ∧ Chg [] w w'

def Reach (g : Gr) : Prop := g.rules.length ≤ 17592186044416 ∧ g.nodes.length ≤ 17592186044416 ∧ ∀ x ∈ g.nodes, x.kids.length ≤ 17592186044416

set_option maxRecDepth 100000 in
set_option maxHeartbeats 2000000 in
theorem size06_any (w : World) (a1 : Option Addr) (n1 c1 : Nat) (a2 : Option Addr) (n2 c2 : Nat) (g : Gr) (hg : GramAt w a1 n1 c1 a2 n2 c2 g) (hr : Reach g) :
    Calls Try.prog 18 #[.agg #[.slice a1 n1 c1, .slice a2 n2 c2]] w (SizePost g w) := by
  have hb1 : n1 ≤ 17592186044416 := by rw [hg.e1]; exact hr.1
  have hb2 : n2 ≤ 17592186044416 := by rw [hg.e2]; exact hr.2.1
  have HG := Lib.hid (And.intro hg hr)
  clear hg hr
  go_enter Try.func18, Try.ntmps18
  go_wp2_with fail
  go_loop [3, 4] (fun xv kv => ∃ k m : Nat, k ≤ n2 ∧ kv = .int .i64 k ∧ xv = .int .i64 m ∧ m ≤ 70368744177664 ∧ Hid (m = n1 + n2 + kidsSum (g.nodes.take k))) (fun _ kv => n2 - (intOf kv).toNat)
  case atStart => exact ⟨0, n1 + n2, Nat.zero_le _, rfl, by go_num, by omega, Lib.hid (by simp [kidsSum])⟩
  case round =>
    obtain ⟨k, m, hk, rfl, rfl, hm, hin⟩ := hrel
    by_cases hlt : k < n2
    · have hkl : k < g.nodes.length := by have := HG.out.1.e2; omega
      by_cases hm3 : m ≤ 300
      · obtain ⟨b, o, ak, nk, ck, rfl, hx⟩ := HG.out.1.nodes k hkl
        have h8 := hx.kids
        have hkk : nk ≤ 17592186044416 := by rw [hx.len]; exact HG.out.2.2.2 _ (List.getElem_mem hkl)
        have hb8 := World.block_lt_of_cell? _ _ h8
        simp only at hb8
        have HX := Lib.hid hx.len
        clear hx
        go_wp2
        go_round
        case rel =>
          refine ⟨k + 1, m + nk, by omega, by go_num, by go_num, by omega, Lib.hid ?_⟩
          rw [List.take_succ_eq_append_getElem hkl, kidsSum_snoc, ← HX.out, hin.out]
          omega
        case measure => simp [intOf]; omega
      · go_wp2
        go_ret
        refine ⟨_, rfl, fun hs => ?_, fun _ => by omega, (Chg.refl _ _).alloc _⟩
        exfalso
        have h1 := kidsSum_take_le g.nodes k
        have h2 := hin.out
        have h3 := HG.out.1.e1
        have h4 := HG.out.1.e2
        unfold smallG at hs
        omega
    · obtain rfl : k = n2 := by omega
      go_wp2
      go_ret
      have h2 := hin.out
      have h3 := HG.out.1.e1
      have h4 := HG.out.1.e2
      rw [h4, List.take_length] at h2
      refine ⟨_, rfl, fun hs => ?_, fun hs => ?_, (Chg.refl _ _).alloc _⟩
      · unfold smallG at hs; omega
      · unfold smallG at hs; omega
end Go.Proofs.Ytibgfgfmljhimaa
set_option linter.unusedVariables false
set_option linter.unusedSimpArgs false
namespace Go.Proofs.Ytibgfgfmljhimaa
open Go.RowKit Go.MapKept Go.Shelf

def nd0 (k : Int) (kids : List Int) : Nd := ⟨k, 0, 0, 0, 0, ⟨#[]⟩, 0, 0, kids⟩
def exG : Gr := ⟨[⟨⟨#[65]⟩, 0⟩], [nd0 7 [1, 4], nd0 6 [2, 3], ⟨4, 0, 0, 0, 0, ⟨#[97]⟩, 0, 0, []⟩, nd0 5 [], nd0 1 []]⟩
theorem exG_tab : wholeT exG = some [(5, 3), (3, 2), (1, 1), (1, 1), (1, 1)] := by decide +kernel
theorem exG_rule0 : ruleI exG.rules ⟨#[65]⟩ = 0 := by decide +kernel
theorem exG_rule1 : ruleI exG.rules ⟨#[66]⟩ = -1 := by decide +kernel
theorem exG_right : rightB exG = true := by rw [rightB_iff, exG_tab]; rfl
theorem exG_size0 : sizeG exG 0 = 5 := by decide +kernel
theorem exG_size1 : sizeG exG 1 = 3 := by decide +kernel
theorem exG_height : heightG exG 0 = 3 := by decide +kernel
theorem exG_owner : ownerG exG 4 = 0 := by decide +kernel

/-- The argument's box, as it was, in a later world. -/
structure GrBox (w : World) (B : Nat) (a1 : Option Addr) (n1 c1 : Nat) (a2 : Option Addr) (n2 c2 : Nat) (wr : World) : Prop where
  ch : Chg [] w wr
  box : wr.heap[B]? = some (.cells #[.slice a1 n1 c1, .slice a2 n2 c2] 25 (0, 0))
theorem GrBox.keep {w wr w' : World} {B : Nat} {a1 : Option Addr} {n1 c1 : Nat} {a2 : Option Addr} {n2 c2 : Nat} (h : GrBox w B a1 n1 c1 a2 n2 c2 wr) (hc : Chg [] wr w') : GrBox w B a1 n1 c1 a2 n2 c2 w' := ⟨h.ch.tr hc, hc.heap h.box (by simp)⟩
theorem GrBox.new (w : World) (a1 : Option Addr) (n1 c1 : Nat) (a2 : Option Addr) (n2 c2 : Nat) : GrBox w w.heap.size a1 n1 c1 a2 n2 c2 (w.alloc (.cells #[.slice a1 n1 c1, .slice a2 n2 c2] 25)) := ⟨(Chg.refl _ _).alloc _, heap_alloc_same w _⟩

def ExPost (w : World) (e : Ending) (w' : World) : Prop :=
  ∃ a1 a2, e = .returned (.agg #[.slice a1 1 1, .slice a2 5 5]) ∧ GramAt w' a1 1 1 a2 5 5 exG ∧ Chg [] w w'

theorem heap_at0 (w : World) (o0 o1 o2 o3 o4 : Obj) : (((((w.alloc o0).alloc o1).alloc o2).alloc o3).alloc o4).heap[w.heap.size]? = some o0 ∧ (((((w.alloc o0).alloc o1).alloc o2).alloc o3).alloc o4).heap[w.heap.size + 1]? = some o1 ∧ (((((w.alloc o0).alloc o1).alloc o2).alloc o3).alloc o4).heap[w.heap.size + 1 + 1]? = some o2 ∧
    (((((w.alloc o0).alloc o1).alloc o2).alloc o3).alloc o4).heap[w.heap.size + 1 + 1 + 1]? = some o3 ∧ (((((w.alloc o0).alloc o1).alloc o2).alloc o3).alloc o4).heap[w.heap.size + 1 + 1 + 1 + 1]? = some o4 := by
  have h0 := heap_alloc_same w o0
  have h1 := heap_alloc_same (w.alloc o0) o1
  have h2 := heap_alloc_same ((w.alloc o0).alloc o1) o2
  have h3 := heap_alloc_same (((w.alloc o0).alloc o1).alloc o2) o3
  have h4 := heap_alloc_same ((((w.alloc o0).alloc o1).alloc o2).alloc o3) o4
  simp only [World.size_alloc] at h1 h2 h3 h4
  exact ⟨heap_alloc_lt (heap_alloc_lt (heap_alloc_lt (heap_alloc_lt h0 _) _) _) _, heap_alloc_lt (heap_alloc_lt (heap_alloc_lt h1 _) _) _, heap_alloc_lt (heap_alloc_lt h2 _) _, heap_alloc_lt h3 _, h4⟩

theorem exG_wf : exG.Wf := by
  refine ⟨?_, ?_, ?_⟩
  · intro x hx
    simp only [exG, List.mem_cons, List.not_mem_nil, or_false] at hx
    rcases hx with rfl | rfl | rfl | rfl | rfl
    all_goals refine ⟨by decide, by decide, by decide, by decide, by simp [nd0, maxLen, ByteArray.size]⟩
  · intro x hx
    simp only [exG, List.mem_cons, List.not_mem_nil, or_false] at hx
    subst hx
    simp [maxLen, ByteArray.size]
  · intro x hx
    simp only [exG, List.mem_cons, List.not_mem_nil, or_false] at hx
    subst hx
    decide
theorem exG_at {W : World} {b1 b2 b3 b4 : Nat} (g1 : W.heap[b1]? = some (.cells #[.string ⟨#[65]⟩, .int .i64 0] 46 (0, 0))) (g2 : W.heap[b2]? = some (.cells #[.int .i64 1, .int .i64 4] 3 (0, 0))) (g3 : W.heap[b3]? = some (.cells #[.int .i64 2, .int .i64 3] 3 (0, 0)))
    (g4 : W.heap[b4]? = some (.cells #[.int .i64 7, .int .u64 0, .int .u64 0, .int .u64 0, .int .u64 0, .string ⟨#[]⟩, .int .i64 0, .int .i64 0, .slice (some ⟨b2, 0, none⟩) 2 2,
      .int .i64 6, .int .u64 0, .int .u64 0, .int .u64 0, .int .u64 0, .string ⟨#[]⟩, .int .i64 0, .int .i64 0, .slice (some ⟨b3, 0, none⟩) 2 2,
      .int .i64 4, .int .u64 0, .int .u64 0, .int .u64 0, .int .u64 0, .string ⟨#[97]⟩, .int .i64 0, .int .i64 0, .slice none 0 0,
      .int .i64 5, .int .u64 0, .int .u64 0, .int .u64 0, .int .u64 0, .string ⟨#[]⟩, .int .i64 0, .int .i64 0, .slice none 0 0,
      .int .i64 1, .int .u64 0, .int .u64 0, .int .u64 0, .int .u64 0, .string ⟨#[]⟩, .int .i64 0, .int .i64 0, .slice none 0 0] 32 (0, 0))) :
    GramAt W (some ⟨b1, 0, none⟩) 1 1 (some ⟨b4, 0, none⟩) 5 5 exG := by
  have i2 : Ints W (some ⟨b2, 0, none⟩) [1, 4] := fun i hi => match i, hi with
    | 0, _ => ⟨b2, 0, rfl, (cell_of_cells g2 _).trans rfl⟩
    | 1, _ => ⟨b2, 0, rfl, (cell_of_cells g2 _).trans rfl⟩
  have i3 : Ints W (some ⟨b3, 0, none⟩) [2, 3] := fun i hi => match i, hi with
    | 0, _ => ⟨b3, 0, rfl, (cell_of_cells g3 _).trans rfl⟩
    | 1, _ => ⟨b3, 0, rfl, (cell_of_cells g3 _).trans rfl⟩
  refine ⟨rfl, Nat.le_refl _, by simp [maxLen], ?_, rfl, Nat.le_refl _, by simp [maxLen], ?_, exG_wf⟩
  · intro i hi
    match i, hi with
    | 0, _ => exact ⟨b1, 0, rfl, (cell_of_cells g1 _).trans rfl, (cell_of_cells g1 _).trans rfl⟩
  · intro i hi
    match i, hi with
    | 0, _ => exact ⟨b4, 0, _, 2, 2, rfl, ⟨(cell_of_cells g4 _).trans rfl, (cell_of_cells g4 _).trans rfl, (cell_of_cells g4 _).trans rfl, (cell_of_cells g4 _).trans rfl, (cell_of_cells g4 _).trans rfl, (cell_of_cells g4 _).trans rfl, (cell_of_cells g4 _).trans rfl, (cell_of_cells g4 _).trans rfl, (cell_of_cells g4 _).trans rfl, rfl, Nat.le_refl _, by simp [maxLen], i2⟩⟩
    | 1, _ => exact ⟨b4, 0, _, 2, 2, rfl, ⟨(cell_of_cells g4 _).trans rfl, (cell_of_cells g4 _).trans rfl, (cell_of_cells g4 _).trans rfl, (cell_of_cells g4 _).trans rfl, (cell_of_cells g4 _).trans rfl, (cell_of_cells g4 _).trans rfl, (cell_of_cells g4 _).trans rfl, (cell_of_cells g4 _).trans rfl, (cell_of_cells g4 _).trans rfl, rfl, Nat.le_refl _, by simp [maxLen], i3⟩⟩
    | 2, _ => exact ⟨b4, 0, _, 0, 0, rfl, ⟨(cell_of_cells g4 _).trans rfl, (cell_of_cells g4 _).trans rfl, (cell_of_cells g4 _).trans rfl, (cell_of_cells g4 _).trans rfl, (cell_of_cells g4 _).trans rfl, (cell_of_cells g4 _).trans rfl, (cell_of_cells g4 _).trans rfl, (cell_of_cells g4 _).trans rfl, (cell_of_cells g4 _).trans rfl, rfl, Nat.le_refl _, by simp [maxLen], Ints.nil _ _⟩⟩
    | 3, _ => exact ⟨b4, 0, _, 0, 0, rfl, ⟨(cell_of_cells g4 _).trans rfl, (cell_of_cells g4 _).trans rfl, (cell_of_cells g4 _).trans rfl, (cell_of_cells g4 _).trans rfl, (cell_of_cells g4 _).trans rfl, (cell_of_cells g4 _).trans rfl, (cell_of_cells g4 _).trans rfl, (cell_of_cells g4 _).trans rfl, (cell_of_cells g4 _).trans rfl, rfl, Nat.le_refl _, by simp [maxLen], Ints.nil _ _⟩⟩
    | 4, _ => exact ⟨b4, 0, _, 0, 0, rfl, ⟨(cell_of_cells g4 _).trans rfl, (cell_of_cells g4 _).trans rfl, (cell_of_cells g4 _).trans rfl, (cell_of_cells g4 _).trans rfl, (cell_of_cells g4 _).trans rfl, (cell_of_cells g4 _).trans rfl, (cell_of_cells g4 _).trans rfl, (cell_of_cells g4 _).trans rfl, (cell_of_cells g4 _).trans rfl, rfl, Nat.le_refl _, by simp [maxLen], Ints.nil _ _⟩⟩

set_option maxRecDepth 100000 in
set_option maxHeartbeats 2000000 in
theorem example_any (w : World) : Calls Try.prog 78 #[] w (ExPost w) := by
  go_enter Try.func78, Try.ntmps78
  go_wp2
  refine bodyPost_ret (v := .agg #[.slice (some ⟨w.heap.size + 1, 0, none⟩) 1 1, .slice (some ⟨w.heap.size + 1 + 1 + 1 + 1, 0, none⟩) 5 5]) (by simp [results, Try.results78, go_sem]) rfl ?_
  exact ⟨_, _, rfl, exG_at (heap_at0 w _ _ _ _ _).2.1 (heap_at0 w _ _ _ _ _).2.2.1 (heap_at0 w _ _ _ _ _).2.2.2.1 (heap_at0 w _ _ _ _ _).2.2.2.2, (((((Chg.refl _ _).alloc _).alloc _).alloc _).alloc _).alloc _⟩

set_option maxRecDepth 100000 in
set_option maxHeartbeats 2000000 in
theorem awake_any (w : World) : Calls Try.prog 19 #[] w fun e w' => e = .returned (.bool true) ∧ Chg [] w w' := by
  go_enter Try.func19, Try.ntmps19
  go_wp2_with fail
  refine (example_any _).mono ?_
  rintro e w1 ⟨a1, a2, rfl, hg, hc⟩
  have HG := Lib.hid (And.intro (hg.keep ((Chg.refl [] w1).alloc (.cells #[.slice a1 1 1, .slice a2 5 5] 25)).kp) hc)
  have HB := Lib.hid (GrBox.new w1 a1 1 1 a2 5 5)
  clear hg hc
  go_wp2_with fail
  refine (Right_any _ a1 1 1 a2 5 5 exG HG.out.1).mono ?_
  rintro e w2 ⟨rfl, hc⟩
  rw [exG_right]
  have HB2 := Lib.hid (HB.out.keep hc)
  have HG2 := Lib.hid (HG.out.1.keep hc.kp)
  clear hc
  obtain ⟨x0, x1⟩ := cells2 HB2.out.box
  have hl := lt_of_block HB2.out.box
  go_wp2_with fail
  refine (Size_any _ a1 1 1 a2 5 5 exG 0 HG2.out).mono ?_
  rintro e w3 ⟨rfl, hc⟩
  rw [exG_size0]
  have HB3 := Lib.hid (HB2.out.keep hc)
  have HG3 := Lib.hid (HG2.out.keep hc.kp)
  clear hc x0 x1 hl
  obtain ⟨x0, x1⟩ := cells2 HB3.out.box
  have hl := lt_of_block HB3.out.box
  go_wp2_with fail
  refine (Height_any _ a1 1 1 a2 5 5 exG 0 HG3.out).mono ?_
  rintro e w4 ⟨rfl, hc⟩
  rw [exG_height]
  have HB4 := Lib.hid (HB3.out.keep hc)
  have HG4 := Lib.hid (HG3.out.keep hc.kp)
  clear hc x0 x1 hl
  obtain ⟨x0, x1⟩ := cells2 HB4.out.box
  have hl := lt_of_block HB4.out.box
  go_wp2_with fail
  refine (Size_any _ a1 1 1 a2 5 5 exG 1 HG4.out).mono ?_
  rintro e w5 ⟨rfl, hc⟩
  rw [exG_size1]
  have HB5 := Lib.hid (HB4.out.keep hc)
  have HG5 := Lib.hid (HG4.out.keep hc.kp)
  clear hc x0 x1 hl
  obtain ⟨x0, x1⟩ := cells2 HB5.out.box
  have hl := lt_of_block HB5.out.box
  go_wp2_with fail
  refine (Owner_any _ a1 1 1 a2 5 5 exG 4 HG5.out).mono ?_
  rintro e w6 ⟨rfl, hc⟩
  rw [exG_owner]
  have HB6 := Lib.hid (HB5.out.keep hc)
  have HG6 := Lib.hid (HG5.out.keep hc.kp)
  clear hc x0 x1 hl
  obtain ⟨x0, x1⟩ := cells2 HB6.out.box
  have hl := lt_of_block HB6.out.box
  go_wp2_with fail
  refine (Rule_any _ a1 1 1 a2 5 5 exG.rules ⟨#[65]⟩ HG6.out.e1 (by decide) HG6.out.rules).mono ?_
  rintro e w7 ⟨rfl, hc⟩
  rw [exG_rule0]
  have HB7 := Lib.hid (HB6.out.keep hc)
  have HG7 := Lib.hid (HG6.out.keep hc.kp)
  clear hc x0 x1 hl
  obtain ⟨x0, x1⟩ := cells2 HB7.out.box
  have hl := lt_of_block HB7.out.box
  go_wp2_with fail
  refine (Rule_any _ a1 1 1 a2 5 5 exG.rules ⟨#[66]⟩ HG7.out.e1 (by decide) HG7.out.rules).mono ?_
  rintro e w8 ⟨rfl, hc⟩
  rw [exG_rule1]
  have HB8 := Lib.hid (HB7.out.keep hc)
  clear hc x0 x1 hl
  go_wp2
  go_ret
  exact ⟨rfl, HG.out.2.tr HB8.out.ch⟩
end Go.Proofs.Ytibgfgfmljhimaa

/-
  Layer 6's law: how many there are; the chapter's example is as the statement says.
  Conditions: the grammar reads as data (GramAt).
-/
import Derived.Test.YtibgfgfmljhimaaGRight
set_option linter.unusedVariables false
set_option linter.unusedSimpArgs false
namespace Go.Proofs.Ytibgfgfmljhimaa
open Go.RowKit Go.MapKept Go.Shelf

def kidsSum (ns : List Nd) : Nat := (ns.map fun x => x.kids.length).sum
theorem kidsSum_snoc (ns : List Nd) (x : Nd) : kidsSum (ns ++ [x]) = kidsSum ns + x.kids.length := by simp [kidsSum]
theorem kidsSum_append (a b : List Nd) : kidsSum (a ++ b) = kidsSum a + kidsSum b := by simp [kidsSum]
theorem kidsSum_take_le (ns : List Nd) (k : Nat) : kidsSum (ns.take k) ≤ kidsSum ns := by
  have h : kidsSum ns = kidsSum (ns.take k) + kidsSum (ns.drop k) := by rw [← kidsSum_append, List.take_append_drop]
  omega
theorem kids_le_sum (ns : List Nd) (k : Nat) (hk : k < ns.length) : kidsSum (ns.take k) + ns[k].kids.length ≤ kidsSum ns := by
  have h1 := kidsSum_take_le ns (k + 1)
  rw [List.take_succ_eq_append_getElem hk, kidsSum_snoc] at h1
  exact h1
/-- As many rules, nodes, kids as are gone through, or fewer. -/
def smallG (g : Gr) : Prop := g.rules.length + g.nodes.length + kidsSum g.nodes ≤ 300
/-- What is told of how many there are: exact, if it is small; more, if it is not. -/
def SizePost (g : Gr) (w : World) (e : Ending) (w' : World) : Prop :=
  ∃ m : Int, e = .returned (.int .i64 m) ∧ (smallG g → m ≤ 300) ∧ (¬ smallG g → 300 < m) ∧ Chg [] w w'

def Reach (g : Gr) : Prop := g.rules.length ≤ 17592186044416 ∧ g.nodes.length ≤ 17592186044416 ∧ ∀ x ∈ g.nodes, x.kids.length ≤ 17592186044416

set_option maxRecDepth 100000 in
set_option maxHeartbeats 2000000 in
theorem size06_any (w : World) (a1 : Option Addr) (n1 c1 : Nat) (a2 : Option Addr) (n2 c2 : Nat) (g : Gr) (hg : GramAt w a1 n1 c1 a2 n2 c2 g) (hr : Reach g) :
    Calls Try.prog 18 #[.agg #[.slice a1 n1 c1, .slice a2 n2 c2]] w (SizePost g w) := by
  have hb1 : n1 ≤ 17592186044416 := by rw [hg.e1]; exact hr.1
  have hb2 : n2 ≤ 17592186044416 := by rw [hg.e2]; exact hr.2.1
  have HG := Lib.hid (And.intro hg hr)
  clear hg hr
  go_enter Try.func18, Try.ntmps18
  go_wp2_with fail
  go_loop [3, 4] (fun xv kv => ∃ k m : Nat, k ≤ n2 ∧ kv = .int .i64 k ∧ xv = .int .i64 m ∧ m ≤ 70368744177664 ∧ Hid (m = n1 + n2 + kidsSum (g.nodes.take k))) (fun _ kv => n2 - (intOf kv).toNat)
  case atStart => exact ⟨0, n1 + n2, Nat.zero_le _, rfl, by go_num, by omega, Lib.hid (by simp [kidsSum])⟩
  case round =>
    obtain ⟨k, m, hk, rfl, rfl, hm, hin⟩ := hrel
    by_cases hlt : k < n2
    · have hkl : k < g.nodes.length := by have := HG.out.1.e2; omega
      by_cases hm3 : m ≤ 300
      · obtain ⟨b, o, ak, nk, ck, rfl, hx⟩ := HG.out.1.nodes k hkl
        have h8 := hx.kids
        have hkk : nk ≤ 17592186044416 := by rw [hx.len]; exact HG.out.2.2.2 _ (List.getElem_mem hkl)
        have hb8 := World.block_lt_of_cell? _ _ h8
        simp only at hb8
        have HX := Lib.hid hx.len
        clear hx
        go_wp2
        go_round
        case rel =>
          refine ⟨k + 1, m + nk, by omega, by go_num, by go_num, by omega, Lib.hid ?_⟩
          rw [List.take_succ_eq_append_getElem hkl, kidsSum_snoc, ← HX.out, hin.out]
          omega
        case measure => simp [intOf]; omega
      · go_wp2
        go_ret
        refine ⟨_, rfl, fun hs => ?_, fun _ => by omega, (Chg.refl _ _).alloc _⟩
        exfalso
        have h1 := kidsSum_take_le g.nodes k
        have h2 := hin.out
        have h3 := HG.out.1.e1
        have h4 := HG.out.1.e2
        unfold smallG at hs
        omega
    · obtain rfl : k = n2 := by omega
      go_wp2
      go_ret
      have h2 := hin.out
      have h3 := HG.out.1.e1
      have h4 := HG.out.1.e2
      rw [h4, List.take_length] at h2
      refine ⟨_, rfl, fun hs => ?_, fun hs => ?_, (Chg.refl _ _).alloc _⟩
      · unfold smallG at hs; omega
      · unfold smallG at hs; omega
end Go.Proofs.Ytibgfgfmljhimaa

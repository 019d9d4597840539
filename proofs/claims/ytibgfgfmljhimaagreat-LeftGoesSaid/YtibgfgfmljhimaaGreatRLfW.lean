/-
  The kit: a number of so many.
  Conditions: there is one at least.
-/
import Derived.Test.YtibgfgfmljhimaaGreatRGramA
import Derived.Test.YtibgfgfmljhimaaGreatRLf2
set_option linter.unusedVariables false
set_option linter.unusedSimpArgs false
namespace Go.Proofs.YtibgfgfmljhimaaGreat
open Go.RowKit Go.MapKept Go.Shelf

theorem tmod_emodK (x n : Int) : x.tmod n % n = x % n := by
  have h := Int.mul_tdiv_add_tmod x n
  have : x.tmod n = x - n * x.tdiv n := by omega
  rw [this, Int.sub_mul_emod_self_left]
theorem pick_posK (x n : Int) (hn : 1 ≤ n) (h : 0 ≤ x.tmod n) : x.tmod n = x % n := by
  have t1 := Int.tmod_lt_of_pos x (show 0 < n by omega)
  rw [← tmod_emodK, Int.emod_eq_of_lt h t1]
theorem pick_negK (x n : Int) (hn : 1 ≤ n) (h : x.tmod n < 0) : x.tmod n + n = x % n := by
  have t2 := Int.lt_tmod_of_pos x (show 0 < n by omega)
  rw [← tmod_emodK, ← Int.add_emod_right, Int.emod_eq_of_lt (by omega) (by omega)]
set_option maxHeartbeats 400000 in
theorem pickK_any (x n : Int) (w : World) (hn : 1 ≤ n) (hn2 : n ≤ 1000000) (h1 : -9223372036854775808 ≤ x) (h2 : x ≤ 9223372036854775807) :
    Calls Tryz.prog 13 #[.int .i64 x, .int .i64 n] w fun e w' => e = .returned (.int .i64 (x % n)) ∧ Chg [] w w' := by
  have t1 := Int.tmod_lt_of_pos x (show 0 < n by omega)
  have t2 := Int.lt_tmod_of_pos x (show 0 < n by omega)
  go_enter Tryz.func13, Tryz.ntmps13
  go_wp2
  all_goals go_ret
  all_goals refine ⟨ret_int ?_, Chg.refl _ _⟩
  · exact pick_negK x n hn (by assumption)
  · exact pick_posK x n hn (by assumption)
end Go.Proofs.YtibgfgfmljhimaaGreat
set_option linter.unusedVariables false
set_option linter.unusedSimpArgs false
set_option linter.unnecessarySimpa false
namespace Go.Proofs.YtibgfgfmljhimaaGreat
open Go.RowKit Go.MapKept Go.Shelf

set_option maxHeartbeats 400000 in
theorem pickK0_any (x : Int) (w : World) :
    Calls Tryz.prog 13 #[.int .i64 x, .int .i64 0] w fun e w' => e = .returned (.int .i64 0) ∧ Chg [] w w' := by
  go_enter Tryz.func13, Tryz.ntmps13
  go_wp2
  all_goals go_ret
  all_goals exact ⟨rfl, Chg.refl _ _⟩
theorem pickKn_any (x : Int) (n : Nat) (w : World) (hn2 : n ≤ 1000000) (h : I64 x) :
    Calls Tryz.prog 13 #[.int .i64 x, .int .i64 (n : Int)] w fun e w' => e = .returned (.int .i64 (if n = 0 then 0 else x % n)) ∧ Chg [] w w' := by
  by_cases h0 : n = 0
  · subst h0
    rw [if_pos rfl]
    exact pickK0_any x w
  · rw [if_neg h0]
    exact pickK_any x n w (by omega) (by omega) h.1 h.2

end Go.Proofs.YtibgfgfmljhimaaGreat
set_option linter.unusedVariables false
set_option linter.unusedSimpArgs false
set_option linter.unnecessarySimpa false
namespace Go.Proofs.YtibgfgfmljhimaaGreat
open Go.RowKit Go.MapKept Go.Shelf

theorem graph_up {g : Gr} (hr : rightB g = true) : ∀ zs ∈ graphG g, zs.Pairwise (· < ·) := by
  intro zs hzs
  have e : graphG g = g.rules.map (fun r => callsG g r.body) := by simp [graphG, hr]
  rw [e] at hzs
  obtain ⟨r, _, rfl⟩ := List.mem_map.1 hzs
  exact pickL_sorted _ _
theorem wayL_eq {g : Gr} (hr : rightB g = true) {i : Nat} (hi : i < g.rules.length) (k : Int) : wayL g i k = wayI (graphG g) i k := by
  rw [wayL, if_pos (show inR g i from ⟨by omega, by omega, hr⟩), Int.toNat_natCast]
  rfl
theorem backF_len (ss : List Stp) : ∀ (f : Nat) (a : Int), (backF ss f a).length ≤ f := by
  intro f
  induction f with
  | zero => intro a; exact Nat.le_refl _
  | succ f ih =>
    intro a
    rw [backF]
    split
    · simp
    · split
      · simp
      · rename_i s _
        have := ih s.2
        simp only [List.length_cons]
        omega
theorem wayL_len (g : Gr) (i k : Int) : (wayL g i k).length ≤ 34 := by
  unfold wayL
  split
  · rename_i h
    have h1 := walkL_ok (graph_ok h.2.2) i.toNat
    have h2 := h1.few_steps
    have h3 := h1.few
    unfold wayAt
    split
    · simp
    · have := backF_len (walkL (graphG g) i.toNat).2 ((walkL (graphG g) i.toNat).2.length + 1) (idxI (walkL (graphG g) i.toNat).2 (fun s => s.1 == k))
      simp only [List.length_reverse, List.length_append, List.length_cons, List.length_nil, backL]
      omega
  · simp
/-! ### The walk -/
end Go.Proofs.YtibgfgfmljhimaaGreat

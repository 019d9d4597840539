/-
  The place of a rule's name; the rule whose body has a node: the tests of the rules.
  Conditions: none.
-/
import Derived.Test.YtibgfgfmljhimaaGFind
import Derived.Shelf.Abstract
set_option linter.unusedVariables false
set_option linter.unusedSimpArgs false
namespace Go.Proofs.Ytibgfgfmljhimaa
open Go.RowKit Go.MapKept Go.Shelf

set_option maxRecDepth 100000 in
set_option maxHeartbeats 400000 in
theorem rule1_any (w : World) (nm : ByteArray) (bd : Int) (B : Nat) (s : ByteArray) (hc : w.cell? ⟨B, 0, none⟩ = some (.string s)) :
    Calls Try.prog 88 #[.agg #[.string nm, .int .i64 bd], .pointer (some ⟨B, 0, none⟩)] w fun e w' => e = .returned (.bool (nm.toList == s.toList)) ∧ Chg [] w w' := by
  have hB := World.block_lt_of_cell? _ _ hc
  simp only at hB
  go_enter Try.func88, Try.ntmps88
  go_wp2
  go_ret
  exact ⟨rfl, (Chg.refl _ _).alloc _⟩

theorem ruleI_idx (rs : List Rl) (s : ByteArray) : ruleI rs s = idxI rs fun r => r.name.toList == s.toList := rfl

set_option maxRecDepth 100000 in
set_option maxHeartbeats 400000 in
theorem Rule_any (w : World) (a1 : Option Addr) (n1 c1 : Nat) (a2 : Option Addr) (n2 c2 : Nat) (rs : List Rl) (s : ByteArray) (hn : n1 = rs.length) (hs : n1 ≤ 9223372036854775807) (hr : Rules w a1 rs) :
    Calls Try.prog 27 #[.agg #[.slice a1 n1 c1, .slice a2 n2 c2], .string s] w fun e w' => e = .returned (.int .i64 (ruleI rs s)) ∧ Chg [] w w' := by
  have H := Lib.hid (And.intro hn hr)
  clear hn hr
  go_enter Try.func27, Try.ntmps27
  go_wp2_with fail
  have hb := heap_alloc_same (w.alloc (.cells #[.slice a1 n1 c1, .slice a2 n2 c2] 25)) (.cells #[.string s] 9)
  have hc0 : Chg [] w ((w.alloc (.cells #[.slice a1 n1 c1, .slice a2 n2 c2] 25)).alloc (.cells #[.string s] 9)) := ((Chg.refl _ _).alloc _).alloc _
  rw [World.size_alloc] at hb
  have hbc := (cell_of_cells hb 0).trans (show _ = some (Value.string s) from rfl)
  have HB := Lib.hid (And.intro hbc hc0)
  clear hb hbc hc0
  refine (idxRules_any _ a1 n1 c1 rs 88 #[.pointer (some ⟨w.heap.size + 1, 0, none⟩)] (fun r => r.name.toList == s.toList) H.out.1 hs (H.out.2.keep HB.out.2.kp) (fun i hi w1 h1 => rule1_any w1 _ _ _ s (h1.cell HB.out.1 (by simp))) (enters_of Try.func88 (by kernel_rfl) rfl)).mono ?_
  rintro e w1 ⟨rfl, hc1⟩
  have H1 := Lib.hid hc1
  clear hc1
  go_wp2
  go_ret
  exact ⟨rfl, HB.out.2.tr H1.out⟩

set_option maxRecDepth 100000 in
set_option maxHeartbeats 1000000 in
theorem refRule_any (w : World) (a1 : Option Addr) (n1 c1 : Nat) (a2 : Option Addr) (n2 c2 : Nat) (rs : List Rl) (s : ByteArray) (hn : n1 = rs.length) (hs : n1 ≤ 9223372036854775807) (hr : Rules w a1 rs) :
    Calls Try.prog 28 #[.agg #[.slice a1 n1 c1, .slice a2 n2 c2], .string s] w fun e w' => e = .returned (.int .i64 (ruleI rs s)) ∧ Chg [] w w' := by
  have H := Lib.hid (And.intro hn hr)
  clear hn hr
  go_enter Try.func28, Try.ntmps28
  go_wp2_with fail
  go_loop [5] (fun iv => ∃ k : Nat, k ≤ n1 ∧ iv = .int .i64 k ∧ Hid (∀ j (h : j < rs.length), j < k → (rs[j].name.toList == s.toList) = false)) (fun iv => n1 - (intOf iv).toNat)
  case atStart => exact ⟨0, Nat.zero_le _, rfl, Lib.hid (fun j _ h => by omega)⟩
  case round =>
    obtain ⟨k, hk, rfl, hb⟩ := hrel
    by_cases hlt : k < n1
    · have hk' : k < rs.length := by have := H.out.1; omega
      obtain ⟨b, o, rfl, h1, h2⟩ := H.out.2 k hk'
      have hbk := World.block_lt_of_cell? _ _ h1
      simp only at hbk
      obtain ⟨nm, hr⟩ : ∃ r, r = rs[k].name := ⟨_, rfl⟩
      rw [← hr] at h1
      have HR := Lib.hid hr
      clear hr h2
      cases hp : (nm.toList == s.toList)
      · go_wp2
        go_round
        case measure => simp [intOf]; omega
        case rel =>
          refine ⟨k + 1, by omega, by go_num, Lib.hid fun j h hj => ?_⟩
          by_cases e : j = k
          · subst e; rw [← HR.out]; exact hp
          · exact hb.out j h (by omega)
      · go_wp2
        go_ret
        refine ⟨ret_int ?_, (Chg.refl _ _).alloc _⟩
        have hf := findIdx_at (p := fun r : Rl => r.name.toList == s.toList) hk' (by show (rs[k].name.toList == _) = true; rw [← HR.out]; exact hp) (fun j hj => hb.out j (by omega) hj)
        rw [ruleI_idx]
        unfold idxI
        rw [hf, if_pos hk']
    · obtain rfl : k = n1 := by omega
      go_wp2
      go_ret
      refine ⟨ret_int ?_, (Chg.refl _ _).alloc _⟩
      have hf := findIdx_none (p := fun r : Rl => r.name.toList == s.toList) (l := rs) (fun j hj => hb.out j hj (by have := H.out.1; omega))
      rw [ruleI_idx]
      unfold idxI
      rw [hf, if_neg (by omega)]

set_option maxRecDepth 100000 in
set_option maxHeartbeats 400000 in
theorem owner1_any (w : World) (nm : ByteArray) (bd : Int) (B : Nat) (n : Int) (hc : w.cell? ⟨B, 0, none⟩ = some (.int .i64 n)) :
    Calls Try.prog 93 #[.agg #[.string nm, .int .i64 bd], .pointer (some ⟨B, 0, none⟩)] w fun e w' => e = .returned (.bool (decide (n < bd))) ∧ Chg [] w w' := by
  have hB := World.block_lt_of_cell? _ _ hc
  simp only at hB
  go_enter Try.func93, Try.ntmps93
  go_wp2
  go_ret
  exact ⟨rfl, (Chg.refl _ _).alloc _⟩
end Go.Proofs.Ytibgfgfmljhimaa

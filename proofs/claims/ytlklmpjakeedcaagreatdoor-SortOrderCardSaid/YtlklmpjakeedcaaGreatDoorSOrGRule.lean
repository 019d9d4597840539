/-
  The library's IndexFunc at rules and at nodes, whatever test; the place of a rule's name, both ways.
  Conditions: none.
-/
import Derived.Test.YtlklmpjakeedcaaGreatDoorSOrGramA
import Derived.Shelf.Abstract
set_option linter.unusedVariables false
set_option linter.unusedSimpArgs false
namespace Go.Proofs.YtlklmpjakeedcaaGreatDoor
open Go.RowKit Go.MapKept

theorem findIdx_at {α : Type} {p : α → Bool} {l : List α} {k : Nat} (hk : k < l.length) (hp : p l[k] = true) (hb : ∀ j (h : j < k), p (l[j]'(by omega)) = false) : l.findIdx p = k := by
  rw [List.findIdx_eq (by omega)]
  exact ⟨hp, fun j hj => hb j hj⟩
theorem findIdx_none {α : Type} {p : α → Bool} {l : List α} (hb : ∀ j (h : j < l.length), p l[j] = false) : l.findIdx p = l.length := by
  rw [List.findIdx_eq_length]
  intro x hx
  obtain ⟨j, hj, rfl⟩ := List.mem_iff_getElem.1 hx
  exact hb j hj
/-- The first place, or -1. -/
def idxI {α : Type} (l : List α) (p : α → Bool) : Int := if l.findIdx p < l.length then (l.findIdx p : Int) else -1

set_option maxRecDepth 100000 in
set_option maxHeartbeats 1000000 in
theorem idxRules_any (w : World) (a : Option Addr) (n c : Nat) (rs : List Rl) (g : Nat) (lb : Array Value) (p : Rl → Bool) (hn : n = rs.length) (hs : n ≤ 9223372036854775807) (hr : Rules w a rs)
    (hp : ∀ i (h : i < rs.length) w1, Chg [] w w1 → Calls Tryz.prog g (#[.agg #[.string rs[i].name, .int .i64 rs[i].body]] ++ lb) w1 fun e w2 => e = .returned (.bool (p rs[i])) ∧ Chg [] w1 w2)
    (eg : ∀ args w, (callFunc g args).run Tryz.prog w = .ok (.enter g args) w) :
    Calls Tryz.prog 100 #[.slice a n c, .func (.func g) #[] lb] w fun e w' => e = .returned (.int .i64 (idxI rs p)) ∧ Chg [] w w' := by
  have H := Lib.hid (And.intro hn (And.intro hr hp))
  clear hn hr hp
  go_enter Tryz.func100, Tryz.ntmps100
  go_wp2_with fail
  go_loopg [8] n (fun d iv wr => ∃ k : Nat, d = n - k ∧ k ≤ n ∧ iv = .int .i64 k ∧ Chg [] w wr ∧ Hid (∀ j (h : j < rs.length), j < k → p rs[j] = false))
  case atStart => exact ⟨0, rfl, Nat.zero_le _, rfl, Chg.refl _ _, Lib.hid (fun j _ h => by omega)⟩
  case round =>
    obtain ⟨k, rfl, hk, rfl, hcw, hb⟩ := hrel
    have HC := Lib.hid hcw
    clear hcw
    by_cases hlt : k < n
    · have hk' : k < rs.length := by have := H.out.1; omega
      obtain ⟨b, o, rfl, h1, h2⟩ := (H.out.2.1.keep HC.out.kp) k hk'
      have hcall := H.out.2.2 k hk'
      have hbk := World.block_lt_of_cell? _ _ h1
      simp only at hbk
      obtain ⟨r, hr⟩ : ∃ r, r = rs[k] := ⟨_, rfl⟩
      rw [← hr] at hcall h1 h2
      obtain ⟨nm, bd⟩ := r
      have HR := Lib.hid (And.intro hr hcall)
      clear hcall hr
      dsimp only at h1 h2
      go_wp2_with fail
      refine (HR.out.2 _ HC.out).mono ?_
      rintro e w1 ⟨rfl, hc1⟩
      have H1 := Lib.hid hc1
      clear hc1
      cases hp : p ⟨nm, bd⟩
      · go_wp2
        go_roundg (n - (k + 1))
        case measure => omega
        case rel =>
          refine ⟨k + 1, rfl, by omega, by go_num, HC.out.tr H1.out, Lib.hid fun j h hj => ?_⟩
          by_cases e : j = k
          · subst e; rw [← HR.out.1]; exact hp
          · exact hb.out j h (by omega)
      · go_wp2
        go_ret
        refine ⟨ret_int ?_, HC.out.tr H1.out⟩
        have hk' : k < rs.length := by have := H.out.1; omega
        have hf := findIdx_at hk' (by rw [← HR.out.1]; exact hp) (fun j hj => hb.out j (by omega) hj)
        unfold idxI
        rw [hf, if_pos hk']
    · obtain rfl : k = n := by omega
      go_wp2
      go_ret
      refine ⟨ret_int ?_, HC.out⟩
      have hf := findIdx_none (p := p) (l := rs) (fun j hj => hb.out j hj (by have := H.out.1; omega))
      unfold idxI
      rw [hf, if_neg (by omega)]

set_option maxRecDepth 100000 in
set_option maxHeartbeats 1000000 in
theorem idxNodes_any (w : World) (a : Option Addr) (n c : Nat) (ns : List Nd) (g : Nat) (lb : Array Value) (p : Nd → Bool) (hn : n = ns.length) (hs : n ≤ 9223372036854775807) (hr : Nodes w a ns)
    (hp : ∀ i (h : i < ns.length) b o ak nk ck, NodeAt w b o ns[i] ak nk ck → ∀ w1, Chg [] w w1 → Calls Tryz.prog g (#[.agg (ns[i].cells ak nk ck)] ++ lb) w1 fun e w2 => e = .returned (.bool (p ns[i])) ∧ Chg [] w1 w2)
    (eg : ∀ args w, (callFunc g args).run Tryz.prog w = .ok (.enter g args) w) :
    Calls Tryz.prog 95 #[.slice a n c, .func (.func g) #[] lb] w fun e w' => e = .returned (.int .i64 (idxI ns p)) ∧ Chg [] w w' := by
  have H := Lib.hid (And.intro hn (And.intro hr hp))
  clear hn hr hp
  go_enter Tryz.func95, Tryz.ntmps95
  go_wp2_with fail
  go_loopg [8] n (fun d iv wr => ∃ k : Nat, d = n - k ∧ k ≤ n ∧ iv = .int .i64 k ∧ Chg [] w wr ∧ Hid (∀ j (h : j < ns.length), j < k → p ns[j] = false))
  case atStart => exact ⟨0, rfl, Nat.zero_le _, rfl, Chg.refl _ _, Lib.hid (fun j _ h => by omega)⟩
  case round =>
    obtain ⟨k, rfl, hk, rfl, hcw, hb⟩ := hrel
    have HC := Lib.hid hcw
    clear hcw
    by_cases hlt : k < n
    · have hk' : k < ns.length := by have := H.out.1; omega
      obtain ⟨b, o, ak, nk, ck, rfl, hx⟩ := H.out.2.1 k hk'
      have hcall := H.out.2.2 k hk' b _ ak nk ck hx
      have hx' := hx.keep HC.out.kp
      obtain ⟨x, hr⟩ : ∃ x, x = ns[k] := ⟨_, rfl⟩
      rw [← hr] at hcall hx'
      obtain ⟨xk, x0, x1, x2, x3, xs, xr, xl, xkids⟩ := x
      obtain ⟨h0, h1, h2, h3, h4, h5, h6, h7, h8, q1, q2, q3, q4⟩ := hx'
      clear q1 q2 q3 q4
      have hbk := World.block_lt_of_cell? _ _ h0
      simp only at hbk
      unfold Nd.cells at hcall
      dsimp only at h0 h1 h2 h3 h4 h5 h6 h7 h8 hcall
      have HR := Lib.hid (And.intro hr hcall)
      clear hcall hr hx
      go_wp2_with fail
      refine (HR.out.2 _ HC.out).mono ?_
      rintro e w1 ⟨rfl, hc1⟩
      have H1 := Lib.hid hc1
      clear hc1
      cases hp : p ⟨xk, x0, x1, x2, x3, xs, xr, xl, xkids⟩
      · go_wp2
        go_roundg (n - (k + 1))
        case measure => omega
        case rel =>
          refine ⟨k + 1, rfl, by omega, by go_num, HC.out.tr H1.out, Lib.hid fun j h hj => ?_⟩
          by_cases e : j = k
          · subst e; rw [← HR.out.1]; exact hp
          · exact hb.out j h (by omega)
      · go_wp2
        go_ret
        refine ⟨ret_int ?_, HC.out.tr H1.out⟩
        have hk' : k < ns.length := by have := H.out.1; omega
        have hf := findIdx_at hk' (by rw [← HR.out.1]; exact hp) (fun j hj => hb.out j (by omega) hj)
        unfold idxI
        rw [hf, if_pos hk']
    · obtain rfl : k = n := by omega
      go_wp2
      go_ret
      refine ⟨ret_int ?_, HC.out⟩
      have hf := findIdx_none (p := p) (l := ns) (fun j hj => hb.out j hj (by have := H.out.1; omega))
      unfold idxI
      rw [hf, if_neg (by omega)]
end Go.Proofs.YtlklmpjakeedcaaGreatDoor
set_option linter.unusedVariables false
set_option linter.unusedSimpArgs false
namespace Go.Proofs.YtlklmpjakeedcaaGreatDoor
open Go.RowKit Go.MapKept Go.Shelf

set_option maxRecDepth 100000 in
set_option maxHeartbeats 400000 in
theorem rule1_any (w : World) (nm : ByteArray) (bd : Int) (B : Nat) (s : ByteArray) (hc : w.cell? ⟨B, 0, none⟩ = some (.string s)) :
    Calls Tryz.prog 101 #[.agg #[.string nm, .int .i64 bd], .pointer (some ⟨B, 0, none⟩)] w fun e w' => e = .returned (.bool (nm.toList == s.toList)) ∧ Chg [] w w' := by
  have hB := World.block_lt_of_cell? _ _ hc
  simp only at hB
  go_enter Tryz.func101, Tryz.ntmps101
  go_wp2
  go_ret
  exact ⟨rfl, (Chg.refl _ _).alloc _⟩

theorem ruleI_idx (rs : List Rl) (s : ByteArray) : ruleI rs s = idxI rs fun r => r.name.toList == s.toList := rfl

set_option maxRecDepth 100000 in
set_option maxHeartbeats 400000 in
theorem Rule_any (w : World) (a1 : Option Addr) (n1 c1 : Nat) (a2 : Option Addr) (n2 c2 : Nat) (rs : List Rl) (s : ByteArray) (hn : n1 = rs.length) (hs : n1 ≤ 9223372036854775807) (hr : Rules w a1 rs) :
    Calls Tryz.prog 70 #[.agg #[.slice a1 n1 c1, .slice a2 n2 c2], .string s] w fun e w' => e = .returned (.int .i64 (ruleI rs s)) ∧ Chg [] w w' := by
  have H := Lib.hid (And.intro hn hr)
  clear hn hr
  go_enter Tryz.func70, Tryz.ntmps70
  go_wp2_with fail
  have hb := heap_alloc_same (w.alloc (.cells #[.slice a1 n1 c1, .slice a2 n2 c2] 31)) (.cells #[.string s] 9)
  have hc0 : Chg [] w ((w.alloc (.cells #[.slice a1 n1 c1, .slice a2 n2 c2] 31)).alloc (.cells #[.string s] 9)) := ((Chg.refl _ _).alloc _).alloc _
  rw [World.size_alloc] at hb
  have hbc := (cell_of_cells hb 0).trans (show _ = some (Value.string s) from rfl)
  have HB := Lib.hid (And.intro hbc hc0)
  clear hb hbc hc0
  refine (idxRules_any _ a1 n1 c1 rs 101 #[.pointer (some ⟨w.heap.size + 1, 0, none⟩)] (fun r => r.name.toList == s.toList) H.out.1 hs (H.out.2.keep HB.out.2.kp) (fun i hi w1 h1 => rule1_any w1 _ _ _ s (h1.cell HB.out.1 (by simp))) (enters_of Tryz.func101 (by kernel_rfl) rfl)).mono ?_
  rintro e w1 ⟨rfl, hc1⟩
  have H1 := Lib.hid hc1
  clear hc1
  go_wp2
  go_ret
  exact ⟨rfl, HB.out.2.tr H1.out⟩

set_option maxRecDepth 100000 in
set_option maxHeartbeats 1000000 in
theorem refRule_any (w : World) (a1 : Option Addr) (n1 c1 : Nat) (a2 : Option Addr) (n2 c2 : Nat) (rs : List Rl) (s : ByteArray) (hn : n1 = rs.length) (hs : n1 ≤ 9223372036854775807) (hr : Rules w a1 rs) :
    Calls Tryz.prog 162 #[.agg #[.slice a1 n1 c1, .slice a2 n2 c2], .string s] w fun e w' => e = .returned (.int .i64 (ruleI rs s)) ∧ Chg [] w w' := by
  have H := Lib.hid (And.intro hn hr)
  clear hn hr
  go_enter Tryz.func162, Tryz.ntmps162
  go_wp2_with fail
  go_loop [5] (fun iv => ∃ k : Nat, k ≤ n1 ∧ iv = .int .i64 k ∧ Hid (∀ j (h : j < rs.length), j < k → (rs[j].name.toList == s.toList) = false)) (fun iv => n1 - (intOf iv).toNat)
  case atStart => exact ⟨0, Nat.zero_le _, rfl, Lib.hid (fun j _ h => by omega)⟩
  case round =>
    obtain ⟨k, hk, rfl, hb⟩ := hrel
    by_cases hlt : k < n1
    · have hk' : k < rs.length := by have := H.out.1; omega
      obtain ⟨b, o, rfl, h1, h2⟩ := H.out.2 k hk'
      have hbk := World.block_lt_of_cell? _ _ h1
      simp only at hbk
      obtain ⟨nm, hr⟩ : ∃ r, r = rs[k].name := ⟨_, rfl⟩
      rw [← hr] at h1
      have HR := Lib.hid hr
      clear hr h2
      cases hp : (nm.toList == s.toList)
      · go_wp2
        go_round
        case measure => simp [intOf]; omega
        case rel =>
          refine ⟨k + 1, by omega, by go_num, Lib.hid fun j h hj => ?_⟩
          by_cases e : j = k
          · subst e; rw [← HR.out]; exact hp
          · exact hb.out j h (by omega)
      · go_wp2
        go_ret
        refine ⟨ret_int ?_, (Chg.refl _ _).alloc _⟩
        have hf := findIdx_at (p := fun r : Rl => r.name.toList == s.toList) hk' (by show (rs[k].name.toList == _) = true; rw [← HR.out]; exact hp) (fun j hj => hb.out j (by omega) hj)
        rw [ruleI_idx]
        unfold idxI
        rw [hf, if_pos hk']
    · obtain rfl : k = n1 := by omega
      go_wp2
      go_ret
      refine ⟨ret_int ?_, (Chg.refl _ _).alloc _⟩
      have hf := findIdx_none (p := fun r : Rl => r.name.toList == s.toList) (l := rs) (fun j hj => hb.out j hj (by have := H.out.1; omega))
      rw [ruleI_idx]
      unfold idxI
      rw [hf, if_neg (by omega)]

end Go.Proofs.YtlklmpjakeedcaaGreatDoor

/-
  Package heads: whether rules are free, whether the one on top is tainted; an activation entered.
  Conditions: none.
-/
import Derived.Test.YtnajhcoimohcaaaSmHd5
set_option linter.unusedVariables false
set_option linter.unusedSimpArgs false
set_option linter.unnecessarySimpa false
namespace Go.Proofs.Ytnajhcoimohcaaa
open Go.RowKit Go.MapKept

set_option maxRecDepth 100000 in
set_option maxHeartbeats 4000000 in
theorem idxFr_any (w : World) (B : Nat) (a : Option Addr) (c : Nat) (l : List Fr) (h : StackAt w B a c l) (p : Int) (b1 b2 : Nat) (h1 : w.cell? ⟨b1, 0, none⟩ = some (.pointer (some ⟨B, 0, none⟩))) (h2 : w.cell? ⟨b2, 0, none⟩ = some (.int .i64 p))
    (ax : Option Addr) (m cx : Nat) (xs : List Int) (hm : m = xs.length) (hcx : m ≤ cx) (hcm : cx ≤ 9223372036854775807) (hx : Ints w ax xs) :
    Calls Try.prog 63 #[.slice ax m cx, .func (.func 44) #[] #[.pointer (some ⟨b1, 0, none⟩), .pointer (some ⟨b2, 0, none⟩)]] w fun e w' => e = .returned (.int .i64 (fstI (standsB (fms l) p) xs)) ∧ Chg [] w w' := by
  obtain ⟨R, hR⟩ : ∃ R, R = fstI (standsB (fms l) p) xs := ⟨_, rfl⟩
  rw [← hR]
  have H := Lib.hid (And.intro h (And.intro h1 (And.intro h2 (And.intro hm (And.intro hx hR)))))
  clear h h1 h2 hm hx hR
  go_enter Try.func63, Try.ntmps63
  go_wp2_with fail
  go_loopg [8] m (fun dd iv wr => ∃ i : Nat, dd = m - i ∧ i ≤ m ∧ iv = .int .i64 i ∧ Hid ((∀ j (h : j < i) (hl : j < xs.length), standsB (fms l) p xs[j] = false) ∧ Chg [] w wr))
  case atStart => exact ⟨0, rfl, Nat.zero_le _, rfl, Lib.hid ⟨fun j hj => by omega, Chg.refl _ _⟩⟩
  case round =>
    obtain ⟨i, rfl, hi, rfl, hin⟩ := hrel
    obtain ⟨wq, rfl⟩ : ∃ wq, wq = wr := ⟨_, rfl⟩
    by_cases hil : i < m
    · have hiL : i < xs.length := by have := H.out.2.2.2.1; omega
      obtain ⟨bx, ox, rfl, hcell⟩ := (H.out.2.2.2.2.1.keep hin.out.2.kp) i hiL
      have hcall := free1_any wq B a c l (H.out.1.chg0 hin.out.2) xs[i] p b1 b2 (hin.out.2.cell H.out.2.1 (by simp)) (hin.out.2.cell H.out.2.2.1 (by simp))
      obtain ⟨z, hz⟩ : ∃ z, z = xs[i] := ⟨_, rfl⟩
      obtain ⟨s, hs⟩ : ∃ s, s = standsB (fms l) p z := ⟨_, rfl⟩
      rw [← hz] at hcell hcall
      rw [← hs] at hcall
      have HX := Lib.hid (And.intro hz hs)
      have hi1 : (i : Int) < m := by omega
      clear hz hs
      cases s with
      | true =>
        go_wp2_with fail
        refine hcall.mono ?_
        clear hcall
        rintro e w2 ⟨rfl, hc2⟩
        have HC := Lib.hid (hin.out.2.tr hc2)
        clear hc2 hcell
        go_wp2_with fail
        go_ret
        refine ⟨ret_int ?_, HC.out⟩
        rw [H.out.2.2.2.2.2]
        exact (fstI_some (k := i) hiL (by rw [← HX.out.1]; exact HX.out.2.symm) (fun j hj => hin.out.1 j hj (by omega))).symm
      | false =>
        go_wp2_with fail
        refine hcall.mono ?_
        clear hcall
        rintro e w2 ⟨rfl, hc2⟩
        have HC := Lib.hid (hin.out.2.tr hc2)
        clear hc2 hcell
        go_wp2_with fail
        go_roundg (m - (i + 1))
        case measure => omega
        case rel =>
          refine ⟨i + 1, rfl, by omega, by go_num, Lib.hid ⟨fun j hj hl => ?_, HC.out⟩⟩
          by_cases e : j = i
          · subst e; rw [← HX.out.1]; exact HX.out.2.symm
          · exact hin.out.1 j (by omega) hl
    · obtain rfl : i = m := by omega
      go_wp2_with fail
      go_ret
      refine ⟨ret_int ?_, hin.out.2⟩
      rw [H.out.2.2.2.2.2]
      refine (fstI_none fun x hx => ?_).symm
      obtain ⟨j, hj, rfl⟩ := List.mem_iff_getElem.1 hx
      exact hin.out.1 j (by have := H.out.2.2.2.1; omega) hj

set_option maxRecDepth 100000 in
set_option maxHeartbeats 2000000 in
theorem freeS_any (w : World) (B : Nat) (a : Option Addr) (c : Nat) (l : List Fr) (h : StackAt w B a c l) (p : Int) (ax : Option Addr) (m cx : Nat) (xs : List Int) (hm : m = xs.length) (hcx : m ≤ cx) (hcm : cx ≤ 9223372036854775807) (hx : Ints w ax xs) :
    Calls Try.prog 17 #[.pointer (some ⟨B, 0, none⟩), .int .i64 p, .slice ax m cx] w fun e w' => e = .returned (.bool (freeB (fms l) p xs)) ∧ Chg [] w w' := by
  have hca := ((Chg.refl [] w).alloc (.cells #[.pointer (some ⟨B, 0, none⟩)] 25)).alloc (.cells #[.int .i64 p] 3)
  obtain ⟨x0, x1⟩ := cells2 (hca.heap h.top (by simp))
  have g1 := heap_alloc_lt (heap_alloc_same w (.cells #[.pointer (some ⟨B, 0, none⟩)] 25)) (.cells #[.int .i64 p] 3)
  have g2 := heap_alloc_same (w.alloc (.cells #[.pointer (some ⟨B, 0, none⟩)] 25)) (.cells #[.int .i64 p] 3)
  rw [World.size_alloc] at g2
  have h1 := isS_any _ B true x0
  obtain ⟨w0, e0⟩ : ∃ w0, w0 = (w.alloc (.cells #[.pointer (some ⟨B, 0, none⟩)] 25)).alloc (.cells #[.int .i64 p] 3) := ⟨_, rfl⟩
  rw [← e0] at hca h1 g1 g2
  have hcells := cells1 g1
  have H := Lib.hid (And.intro h (And.intro hm (And.intro hx (And.intro hca (And.intro g1 (And.intro g2 e0))))))
  clear h hm hx hca x0 x1 g1 g2 e0
  go_enter Try.func17, Try.ntmps17
  go_wp2_with fail
  rw [← H.out.2.2.2.2.2.2]
  refine h1.mono ?_
  clear h1 hcells
  rintro e w1 ⟨rfl, hc1⟩
  have H1 := Lib.hid (And.intro (H.out.2.2.2.1.tr hc1) (And.intro (hc1.heap H.out.2.2.2.2.1 (by simp)) (hc1.heap H.out.2.2.2.2.2.1 (by simp))))
  have hidx := idxFr_any w1 B a c l (H.out.1.chg0 H1.out.1) p w.heap.size (w.heap.size + 1) (cells1 H1.out.2.1) (cells1 H1.out.2.2) ax m cx xs H.out.2.1 hcx hcm (H.out.2.2.1.keep H1.out.1.kp)
  clear hc1
  have hcf : Calls Try.prog 43 #[.slice ax m cx, .func (.func 44) #[] #[.pointer (some ⟨w.heap.size, 0, none⟩), .pointer (some ⟨w.heap.size + 1, 0, none⟩)]] w1 fun e w' => e = .returned (.bool (xs.any (standsB (fms l) p))) ∧ Chg [] w1 w' := by
    obtain ⟨k, hk⟩ : ∃ k, k = fstI (standsB (fms l) p) xs := ⟨_, rfl⟩
    have hany := fstI_any (standsB (fms l) p) xs
    rw [← hk] at hidx hany
    rw [← hany]
    clear hk hany H1 H
    go_enter Try.func43, Try.ntmps43
    go_wp2_with fail
    refine hidx.mono ?_
    clear hidx
    rintro e w2 ⟨rfl, hc⟩
    by_cases hz : 0 ≤ k
    · go_wp2_with fail
      go_ret
      exact ⟨ret_bool (by simp [hz]), hc⟩
    · go_wp2_with fail
      go_ret
      exact ⟨ret_bool (by simp [hz]), hc⟩
  obtain ⟨v, hv⟩ : ∃ v, v = xs.any (standsB (fms l) p) := ⟨_, rfl⟩
  rw [← hv] at hcf
  have HV := Lib.hid hv
  clear hidx hv
  go_wp2_with fail
  refine hcf.mono ?_
  clear hcf
  rintro e w3 ⟨rfl, hc3⟩
  have H3 := Lib.hid (H1.out.1.tr hc3)
  clear hc3
  go_wp2_with fail
  go_ret
  exact ⟨ret_bool (by rw [freeB_eq, ← HV.out]), H3.out⟩

set_option maxRecDepth 100000 in
set_option maxHeartbeats 4000000 in
theorem taintedS_any (w : World) (B : Nat) (a : Option Addr) (c : Nat) (l : List Fr) (h : StackAt w B a c l) :
    Calls Try.prog 13 #[.pointer (some ⟨B, 0, none⟩)] w fun e w' => e = .returned (.bool (tntB (fms l))) ∧ Chg [] w w' := by
  obtain ⟨R, hR⟩ : ∃ R, R = tntB (fms l) := ⟨_, rfl⟩
  obtain ⟨n, hn⟩ : ∃ n, n = l.length := ⟨_, rfl⟩
  obtain ⟨x0, x1⟩ := cells2 h.top
  have cA := calls_rg (w := w) (fun w1 h1 => isS_any w1 B true (h1.cell x0 (by simp)))
  have k1 := cell_rg x1
  rw [← hR]
  rw [← hn] at k1
  cases n with
  | zero =>
    have e : l = [] := List.eq_nil_of_length_eq_zero hn.symm
    subst e
    have hR' : R = false := hR
    subst hR'
    clear h hR hn x0 x1
    go_enter Try.func13, Try.ntmps13
    go_wp2_with fail
    refine wp_region_quiet_below (by kernel_rfl) (by kernel_rfl) ?_
    repeat (go_big_quiet_step (with_reducible exact cA _ _))
    refine wpQuiet_nil ?_
    intro w4 hw4
    have HW := Lib.hid (chg_of_rg hw4)
    clear hw4 cA k1
    go_wp2_with fail
    go_ret
    exact ⟨rfl, HW.out⟩
  | succ n =>
    have hi : n < l.length := by omega
    obtain ⟨G, rfl, hc1, hc2, -, -, -, -, y4, -, -, -⟩ := h.at hi
    have ht : R = l[n].f.tnt := by
      rw [hR]
      unfold tntB fms
      rw [List.getLast?_map, List.getLast?_eq_getElem?, List.getElem?_eq_getElem (by omega)]
      simp only [Option.map_some, show l.length - 1 = n by omega]
    rw [← ht] at y4
    have k4 := cell_rg y4
    have hnc : n + 1 ≤ c := by omega
    have hsub : IntKind.i64.wrap (((n + 1 : Nat) : Int) - 1) = n := by rw [show ((n + 1 : Nat) : Int) - 1 = n by omega]; exact IntWalk.i64_in _ (by omega)
    have hd1 : decide ((0 : Int) < ((n + 1 : Nat) : Int)) = true := decide_eq_true (by omega)
    clear h hR hn hi hc1 ht x0 x1 y4
    go_enter Try.func13, Try.ntmps13
    go_wp2_with fail
    refine wp_region_quiet_below (by kernel_rfl) (by kernel_rfl) ?_
    repeat (go_big_quiet_step (with_reducible exact cA _ _))
    refine wpQuiet_nil ?_
    intro w4 hw4
    have HW := Lib.hid (chg_of_rg hw4)
    clear hw4 cA k1 k4
    go_wp2_with fail
    go_ret
    exact ⟨rfl, HW.out⟩
end Go.Proofs.Ytnajhcoimohcaaa

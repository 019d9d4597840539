/-
  The document's heads: whether rules are free, who is involved, whether the one on top is tainted.
  Conditions: none.
-/
import Derived.Test.YtnajhcoimohcaaaSmHd12
set_option linter.unusedVariables false
set_option linter.unusedSimpArgs false
set_option linter.unnecessarySimpa false
namespace Go.Proofs.Ytnajhcoimohcaaa
open Go.RowKit Go.MapKept

set_option maxRecDepth 100000 in
set_option maxHeartbeats 2000000 in
theorem taintedR_any {NB : Nat} (w : World) (B : Nat) (a : Option Addr) (c : Nat) (l : List Rf) (h : RefAt NB w B a c l) :
    Calls Try.prog 55 #[.pointer (some ⟨B, 0, none⟩)] w fun e w' => e = .returned (.bool (tntB (rfs l))) ∧ Chg [] w w' := by
  obtain ⟨R, hR⟩ : ∃ R, R = tntB (rfs l) := ⟨_, rfl⟩
  obtain ⟨n, hn⟩ : ∃ n, n = l.length := ⟨_, rfl⟩
  have x0 := cells1 h.top
  rw [← hR]
  rw [← hn] at x0
  cases n with
  | zero =>
    have e : l = [] := List.eq_nil_of_length_eq_zero hn.symm
    subst e
    have hR' : R = false := hR
    subst hR'
    have k0 := cell_rg x0
    clear h hR hn x0
    go_enter Try.func55, Try.ntmps55
    go_wp2_with fail
    refine wp_region_quiet_below (by kernel_rfl) (by kernel_rfl) ?_
    repeat (go_big_quiet_step (fail))
    refine wpQuiet_nil ?_
    intro w4 hw4
    have HW := Lib.hid (chg_of_rg hw4)
    clear hw4 k0
    go_wp2_with fail
    go_ret
    exact ⟨rfl, HW.out⟩
  | succ n =>
    have hi : n < l.length := by omega
    obtain ⟨G, rfl, hc1, hc2, -, -, -, -, y4, -, -, -⟩ := h.at hi
    have ht : R = l[n].f.tnt := by
      rw [hR]
      unfold tntB rfs
      rw [List.getLast?_map, List.getLast?_eq_getElem?, List.getElem?_eq_getElem (by omega)]
      simp only [Option.map_some, show l.length - 1 = n by omega]
    rw [← ht] at y4
    have hnc : n + 1 ≤ c := by omega
    have hsub : IntKind.i64.wrap (((n + 1 : Nat) : Int) - 1) = n := by rw [show ((n + 1 : Nat) : Int) - 1 = n by omega]; exact IntWalk.i64_in _ (by omega)
    have hd1 : decide ((0 : Int) < ((n + 1 : Nat) : Int)) = true := decide_eq_true (by omega)
    have k0 := cell_rg x0
    have k1 := cell_rg y4
    clear h hR hn hi hc1 ht x0 y4
    go_enter Try.func55, Try.ntmps55
    go_wp2_with fail
    refine wp_region_quiet_below (by kernel_rfl) (by kernel_rfl) ?_
    repeat (go_big_quiet_step (fail))
    refine wpQuiet_nil ?_
    intro w4 hw4
    have HW := Lib.hid (chg_of_rg hw4)
    clear hw4 k0 k1
    go_wp2_with fail
    go_ret
    exact ⟨rfl, HW.out⟩

theorem freeB_no {s : List Fm} {p : Int} {xs : List Int} {i : Nat} (hi : i < xs.length) (h : 0 ≤ atI s xs[i] p) : freeB s p xs = false := by
  unfold freeB
  rw [List.all_eq_false]
  exact ⟨xs[i], List.getElem_mem hi, by simp; omega⟩
theorem freeB_yes {s : List Fm} {p : Int} {xs : List Int} (h : ∀ j (hj : j < xs.length), atI s xs[j] p < 0) : freeB s p xs = true := by
  unfold freeB
  rw [List.all_eq_true]
  intro x hx
  obtain ⟨j, hj, rfl⟩ := List.mem_iff_getElem.1 hx
  simpa using h j hj

set_option maxRecDepth 100000 in
set_option maxHeartbeats 4000000 in
theorem freeR_any {NB : Nat} (w : World) (B : Nat) (a : Option Addr) (c : Nat) (l : List Rf) (h : RefAt NB w B a c l) (p : Int) (ax : Option Addr) (m cx : Nat) (xs : List Int) (hm : m = xs.length) (hcx : m ≤ cx) (hcm : cx ≤ 9223372036854775807) (hx : Ints w ax xs) :
    Calls Try.prog 56 #[.pointer (some ⟨B, 0, none⟩), .int .i64 p, .slice ax m cx] w fun e w' => e = .returned (.bool (freeB (rfs l) p xs)) ∧ Chg [] w w' := by
  have H := Lib.hid (And.intro h (And.intro hm hx))
  clear h hm hx
  go_enter Try.func56, Try.ntmps56
  go_wp2_with fail
  go_loopg [7] m (fun dd iv wr => ∃ i : Nat, dd = m - i ∧ i ≤ m ∧ iv = .int .i64 i ∧ Hid ((∀ j (h : j < i) (hl : j < xs.length), atI (rfs l) xs[j] p < 0) ∧ Chg [] w wr))
  case atStart => exact ⟨0, rfl, Nat.zero_le _, rfl, Lib.hid ⟨fun j hj => by omega, Chg.refl _ _⟩⟩
  case round =>
    obtain ⟨i, rfl, hi, rfl, hin⟩ := hrel
    obtain ⟨wq, rfl⟩ : ∃ wq, wq = wr := ⟨_, rfl⟩
    by_cases hil : i < m
    · have hiL : i < xs.length := by have := H.out.2.1; omega
      obtain ⟨bx, ox, rfl, hcell⟩ := (H.out.2.2.keep hin.out.2.kp) i hiL
      have hcall := atR_any wq B a c l (H.out.1.chg0 hin.out.2) xs[i] p
      obtain ⟨z, hz⟩ : ∃ z, z = xs[i] := ⟨_, rfl⟩
      obtain ⟨k, hk⟩ : ∃ k, k = atI (rfs l) z p := ⟨_, rfl⟩
      rw [← hz] at hcell hcall
      rw [← hk] at hcall
      have HX : Hid (∃ h : i < xs.length, z = xs[i] ∧ k = atI (rfs l) z p) := Lib.hid ⟨hiL, hz, hk⟩
      have hi1 : (i : Int) < m := by omega
      clear hz hk hiL
      go_wp2_with fail
      refine hcall.mono ?_
      clear hcall
      rintro e w2 ⟨rfl, hc2⟩
      have HC := Lib.hid (hin.out.2.tr hc2)
      clear hc2 hcell
      by_cases hk0 : 0 ≤ k
      · go_wp2_with fail
        go_ret
        obtain ⟨hiL, e1, e2⟩ := HX.out
        refine ⟨?_, HC.out⟩
        rw [freeB_no hiL (by rw [← e1, ← e2]; exact hk0)]
        simp
      · go_wp2_with fail
        go_roundg (m - (i + 1))
        case measure => omega
        case rel =>
          refine ⟨i + 1, rfl, by omega, by go_num, Lib.hid ⟨fun j hj hl => ?_, HC.out⟩⟩
          by_cases e : j = i
          · subst e
            obtain ⟨_, e1, e2⟩ := HX.out
            rw [← e1, ← e2]; omega
          · exact hin.out.1 j (by omega) hl
    · obtain rfl : i = m := by omega
      go_wp2_with fail
      go_ret
      refine ⟨?_, hin.out.2⟩
      rw [freeB_yes (fun j hj => hin.out.1 j (by have := H.out.2.1; omega) hj)]
      simp

theorem invL_rf {l : List Rf} {r p : Int} {k : Nat} (hk : k < l.length) (h : atI (rfs l) r p = k) : invL (rfs l) r p = l[k].f.inv := by
  unfold invL
  rw [h, if_neg (by omega)]
  simp [rfs, hk]

set_option maxRecDepth 100000 in
set_option maxHeartbeats 4000000 in
theorem involvedR_any {NB : Nat} (w : World) (B : Nat) (a : Option Addr) (c : Nat) (l : List Rf) (h : RefAt NB w B a c l) (r p : Int) :
    Calls Try.prog 57 #[.pointer (some ⟨B, 0, none⟩), .int .i64 r, .int .i64 p] w fun e w' => ∃ a' n' c', e = .returned (.slice a' n' c') ∧ n' = (invL (rfs l) r p).length ∧ FreshInts 0 w' a' c' (invL (rfs l) r p) ∧ Chg [] w w' := by
  have H := Lib.hid h
  have hat := atR_any w B a c l h r p
  clear h
  go_enter Try.func57, Try.ntmps57
  rcases atI_cases (rfs l) r p with ⟨h0, -⟩ | ⟨k, hk, h0, -, -⟩
  · rw [h0] at hat
    have HA := Lib.hid h0
    clear h0
    go_wp2_with fail
    refine hat.mono ?_
    clear hat
    rintro e w2 ⟨rfl, hc2⟩
    have H2 := Lib.hid hc2
    clear hc2
    go_wp2_with fail
    go_ret
    have e9 : invL (rfs l) r p = [] := by unfold invL; rw [HA.out]; rfl
    rw [e9]
    exact ⟨none, 0, 0, rfl, rfl, World.ownsRow_nil _ _ _ _, H2.out⟩
  · rw [h0] at hat
    rw [rfs_len] at hk
    have HA := Lib.hid h0
    clear h0
    go_wp2_with fail
    refine hat.mono ?_
    clear hat
    rintro e w2 ⟨rfl, hc2⟩
    have hs2 := H.out.chg0 hc2
    have y0 := cells1 hs2.top
    obtain ⟨G, rfl, hcc1, hcc2, -, -, -, z3, -, -, hG, -⟩ := hs2.at hk
    have hrow := (hs2.rows _ (List.getElem_mem hk)).2.1
    obtain ⟨n, hn⟩ : ∃ n, n = l.length := ⟨_, rfl⟩
    rw [← hn] at y0 hk hcc1
    obtain ⟨x, hx⟩ : ∃ x, x = l[k]'(by omega) := ⟨_, rfl⟩
    rw [← hx] at z3 hrow
    obtain ⟨il, hil⟩ : ∃ q, q = x.f.inv.length := ⟨_, rfl⟩
    rw [← hil] at z3
    have HR : Hid (∃ h : k < l.length, x = l[k] ∧ il = x.f.inv.length ∧ FreshInts 0 w2 x.ia x.ic x.f.inv ∧ Chg [] w w2) := Lib.hid ⟨by omega, hx, hil, hrow, hc2⟩
    have hk1 : (k : Int) < n := by omega
    clear hc2 hs2 hrow hn hx hil
    go_wp2_with fail
    go_ret
    obtain ⟨hkl, e1, e2, e3, e4⟩ := HR.out
    rw [invL_rf hkl HA.out, ← e1]
    exact ⟨x.ia, il, x.ic, by simp, e2, e3, e4⟩
end Go.Proofs.Ytnajhcoimohcaaa

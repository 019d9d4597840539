/-
  The document's heads: the row of activations; where a pair stands; whether a place is low.
  Conditions: none.
-/
import Derived.Test.YtnajhcoimohcaaaSmHd11
set_option linter.unusedVariables false
set_option linter.unusedSimpArgs false
set_option linter.unnecessarySimpa false
namespace Go.Proofs.Ytnajhcoimohcaaa
open Go.RowKit Go.MapKept

structure Rf where
  f : Fm
  ta : Option Addr
  tc : Nat
  ia : Option Addr
  ic : Nat
def Rf.cells (x : Rf) : List Value := [.int .i64 x.f.rule, .int .i64 x.f.place, .slice x.ta x.f.tch.length x.tc, .slice x.ia x.f.inv.length x.ic, .bool x.f.tnt]
def rfCells (l : List Rf) : List Value := l.flatMap Rf.cells
theorem rfCells_len (l : List Rf) : (rfCells l).length = l.length * 5 := flat_len Rf.cells 5 (fun _ => rfl) l
def rfs (l : List Rf) : List Fm := l.map (·.f)
theorem rfs_len (l : List Rf) : (rfs l).length = l.length := by simp [rfs]
theorem rfs_get (l : List Rf) {i : Nat} (h : i < l.length) : (rfs l)[i]'(by rw [rfs_len]; exact h) = l[i].f := by simp [rfs]
/-- The document's stack: its cell, its row, its rows of rules. -/
structure RefAt (NB : Nat) (w : World) (B : Nat) (a : Option Addr) (c : Nat) (l : List Rf) : Prop where
  top : w.heap[B]? = some (.cells #[.slice a l.length c] 53 (0, 0))
  row : w.ownsRow 0 69 5 (.slice a l.length c) l.length (rfCells l)
  rows : ∀ x ∈ l, DocI NB w x.ta x.tc x.f.tch ∧ DocI NB w x.ia x.ic x.f.inv
  ban : NB < w.heap.size
theorem RefAt.chg0 {NB : Nat} {w w' : World} {B : Nat} {a : Option Addr} {c : Nat} {l : List Rf} (h : RefAt NB w B a c l) (hc : Chg [] w w') : RefAt NB w' B a c l :=
  ⟨hc.heap h.top (by simp), hc.row h.row (fun _ _ => by simp), fun x hx => ⟨(h.rows x hx).1.chg0 hc, (h.rows x hx).2.chg0 hc⟩, Nat.lt_of_lt_of_le h.ban hc.size⟩
theorem RefAt.at {NB : Nat} {w : World} {B : Nat} {a : Option Addr} {c : Nat} {l : List Rf} (h : RefAt NB w B a c l) {i : Nat} (hi : i < l.length) :
    ∃ G, a = some ⟨G, 0, none⟩ ∧ l.length ≤ c ∧ c ≤ 9223372036854775807 ∧ w.cell? ⟨G, i * 5, none⟩ = some (.int .i64 l[i].f.rule) ∧ w.cell? ⟨G, i * 5 + 1, none⟩ = some (.int .i64 l[i].f.place) ∧ w.cell? ⟨G, i * 5 + 2, none⟩ = some (.slice l[i].ta l[i].f.tch.length l[i].tc) ∧ w.cell? ⟨G, i * 5 + 3, none⟩ = some (.slice l[i].ia l[i].f.inv.length l[i].ic) ∧ w.cell? ⟨G, i * 5 + 4, none⟩ = some (.bool l[i].f.tnt) ∧ (∀ o, w.frozen? ⟨G, o, none⟩ = false) ∧ G < w.heap.size ∧ ∃ cur, w.heap[G]? = some (.cells cur 69 (0, 0)) := by
  obtain ⟨G, rfl, hn, hm, hl, hcur⟩ : ∃ G, a = some ⟨G, 0, none⟩ ∧ l.length ≤ c ∧ c ≤ maxLen ∧ G < w.heap.size ∧ ∃ cur, w.heap[G]? = some (.cells cur 69 (0, 0)) := by
    rcases h.row.2 with ⟨h0, h1⟩ | ⟨g, cap, cur, h0, hb, hg, hn, hc, _⟩
    · omega
    · cases h0; exact ⟨g, rfl, hn, hc, lt_of_block hg, cur, hg⟩
  have key : ∀ r, r < 5 → w.cell? ⟨G, i * 5 + r, none⟩ = l[i].cells[r]? := fun r hr => by
    rw [(row_put h.row (i := i * 5 + r) (by omega)).1]
    have h1 := flat_get Rf.cells 5 (fun _ => rfl) l i r hr
    rw [List.getElem?_eq_getElem hi, Option.bind_some] at h1
    exact h1
  obtain ⟨cur, hcur⟩ := hcur
  exact ⟨G, rfl, hn, by simp only [maxLen] at hm; exact hm, key 0 (by decide), key 1 (by decide), key 2 (by decide), key 3 (by decide), key 4 (by decide), fun o => free_of_cells hcur o, hl, cur, hcur⟩

set_option maxRecDepth 100000 in
set_option maxHeartbeats 4000000 in
theorem atR_any {NB : Nat} (w : World) (B : Nat) (a : Option Addr) (c : Nat) (l : List Rf) (h : RefAt NB w B a c l) (r p : Int) :
    Calls Try.prog 48 #[.pointer (some ⟨B, 0, none⟩), .int .i64 r, .int .i64 p] w fun e w' => e = .returned (.int .i64 (atI (rfs l) r p)) ∧ Chg [] w w' := by
  obtain ⟨n, hn⟩ : ∃ n, n = l.length := ⟨_, rfl⟩
  have x0 := cells1 h.top
  rw [← hn] at x0
  have H := Lib.hid (And.intro h hn)
  clear h hn
  go_enter Try.func48, Try.ntmps48
  go_wp2_with fail
  clear x0
  go_loopg [7] n (fun dd iv wr => ∃ i : Nat, dd = n - i ∧ i ≤ n ∧ iv = .int .i64 i ∧ Hid ((∀ j (h : j < l.length), j < i → ¬ (l[j].f.rule = r ∧ l[j].f.place = p)) ∧ Chg [] w wr))
  case atStart => exact ⟨0, rfl, Nat.zero_le _, rfl, Lib.hid ⟨fun j h hj => by omega, Chg.refl _ _⟩⟩
  case round =>
    obtain ⟨i, rfl, hi, rfl, hin⟩ := hrel
    obtain ⟨wq, rfl⟩ : ∃ wq, wq = wr := ⟨_, rfl⟩
    have hq := H.out.1.chg0 hin.out.2
    have x0 := cells1 hq.top
    rw [← H.out.2] at x0
    by_cases hil : i < n
    · have hiL : i < l.length := by have := H.out.2; omega
      obtain ⟨G, rfl, hc1, hc2, z0, z1, -, -, -, -, -, -⟩ := hq.at hiL
      rw [← H.out.2] at hc1
      obtain ⟨x, hx⟩ : ∃ x, x = l[i].f := ⟨_, rfl⟩
      rw [← hx] at z0 z1
      have HX : Hid (∃ h : i < l.length, x = l[i].f) := Lib.hid ⟨hiL, hx⟩
      obtain ⟨rule, place, tch, inv, tnt⟩ := x
      simp only at z0 z1
      have hi1 : (i : Int) < n := by omega
      clear hq hx hiL
      by_cases h1 : rule = r
      · by_cases h2 : place = p
        · go_wp2_with fail
          go_ret
          obtain ⟨hiL, e9⟩ := HX.out
          have e : atI (rfs l) r p = i := atI_some (by rw [rfs_len]; exact hiL) (by rw [rfs_get l hiL, ← e9]; exact ⟨h1, h2⟩) (fun j hj => by rw [rfs_get l (by omega)]; exact hin.out.1 j (by omega) hj)
          rw [e]
          exact ⟨by simp, hin.out.2⟩
        · go_wp2_with fail
          go_roundg (n - (i + 1))
          case measure => omega
          case rel =>
            refine ⟨i + 1, rfl, by omega, by go_num, Lib.hid ⟨fun j h hj => ?_, hin.out.2⟩⟩
            by_cases e : j = i
            · subst e
              obtain ⟨_, e9⟩ := HX.out
              rw [← e9]; exact fun h => h2 h.2
            · exact hin.out.1 j h (by omega)
      · go_wp2_with fail
        go_roundg (n - (i + 1))
        case measure => omega
        case rel =>
          refine ⟨i + 1, rfl, by omega, by go_num, Lib.hid ⟨fun j h hj => ?_, hin.out.2⟩⟩
          by_cases e : j = i
          · subst e
            obtain ⟨_, e9⟩ := HX.out
            rw [← e9]; exact fun h => h1 h.1
          · exact hin.out.1 j h (by omega)
    · obtain rfl : i = n := by omega
      clear hq
      go_wp2_with fail
      go_ret
      have e : atI (rfs l) r p = -1 := atI_none (fun f hf => by
        obtain ⟨j, hj, rfl⟩ := List.mem_iff_getElem.1 hf
        rw [rfs_len] at hj
        rw [rfs_get l hj]
        exact hin.out.1 j hj (by have := H.out.2; omega))
      rw [e]
      exact ⟨by simp, hin.out.2⟩

theorem lowB_rf {l : List Rf} {n : Nat} (hn : n + 1 = l.length) (p : Int) : lowB (rfs l) p = decide (p < (l[n]'(by omega)).f.place) := by
  unfold lowB rfs
  rw [List.getLast?_map, List.getLast?_eq_getElem?, List.getElem?_eq_getElem (by omega)]
  simp only [Option.map_some, show l.length - 1 = n by omega]

set_option maxRecDepth 100000 in
set_option maxHeartbeats 2000000 in
theorem lowR_any {NB : Nat} (w : World) (B : Nat) (a : Option Addr) (c : Nat) (l : List Rf) (h : RefAt NB w B a c l) (p : Int) :
    Calls Try.prog 49 #[.pointer (some ⟨B, 0, none⟩), .int .i64 p] w fun e w' => e = .returned (.bool (lowB (rfs l) p)) ∧ Chg [] w w' := by
  obtain ⟨R, hR⟩ : ∃ R, R = lowB (rfs l) p := ⟨_, rfl⟩
  obtain ⟨n, hn⟩ : ∃ n, n = l.length := ⟨_, rfl⟩
  have x0 := cells1 h.top
  rw [← hR]
  rw [← hn] at x0
  cases n with
  | zero =>
    have e : l = [] := List.eq_nil_of_length_eq_zero hn.symm
    subst e
    have hR' : R = false := hR
    subst hR'
    have k0 := cell_rg x0
    clear h hR hn x0
    go_enter Try.func49, Try.ntmps49
    go_wp2_with fail
    refine wp_region_quiet_below (by kernel_rfl) (by kernel_rfl) ?_
    repeat (go_big_quiet_step (fail))
    refine wpQuiet_nil ?_
    intro w4 hw4
    have HW := Lib.hid (chg_of_rg hw4)
    clear hw4 k0
    go_wp2_with fail
    go_ret
    exact ⟨rfl, HW.out⟩
  | succ n =>
    have hi : n < l.length := by omega
    obtain ⟨G, rfl, hc1, hc2, -, y1, -, -, -, -, -, -⟩ := h.at hi
    have hlow := lowB_rf hn p
    rw [← hR] at hlow
    obtain ⟨pl, hpl⟩ : ∃ pl, pl = l[n].f.place := ⟨_, rfl⟩
    rw [← hpl] at y1 hlow
    subst hlow
    have hnc : n + 1 ≤ c := by omega
    have hsub : IntKind.i64.wrap (((n + 1 : Nat) : Int) - 1) = n := by rw [show ((n + 1 : Nat) : Int) - 1 = n by omega]; exact IntWalk.i64_in _ (by omega)
    have hd1 : decide ((0 : Int) < ((n + 1 : Nat) : Int)) = true := decide_eq_true (by omega)
    have k0 := cell_rg x0
    have k1 := cell_rg y1
    clear h hR hn hpl hi hc1 x0 y1
    go_enter Try.func49, Try.ntmps49
    go_wp2_with fail
    refine wp_region_quiet_below (by kernel_rfl) (by kernel_rfl) ?_
    repeat (go_big_quiet_step (fail))
    refine wpQuiet_nil ?_
    intro w4 hw4
    have HW := Lib.hid (chg_of_rg hw4)
    clear hw4 k0 k1
    go_wp2_with fail
    go_ret
    exact ⟨rfl, HW.out⟩
end Go.Proofs.Ytnajhcoimohcaaa

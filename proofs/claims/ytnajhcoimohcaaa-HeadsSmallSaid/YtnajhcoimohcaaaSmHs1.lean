/-
  The statements' history of what was done on a stack: in memory; where a rule stands, the place on top, what hangs, what is touched, what is one of some.
  Conditions: none.
-/
import Derived.Test.YtnajhcoimohcaaaSmHd10
import Derived.Test.YtnajhcoimohcaaaSmGApp
set_option linter.unusedVariables false
set_option linter.unusedSimpArgs false
set_option linter.unnecessarySimpa false
namespace Go.Proofs.Ytnajhcoimohcaaa
open Go.RowKit Go.MapKept

structure Sd where
  rule : Int
  place : Int
  since : Int
structure Rd where
  step : Int
  pos : Int
structure Tc where
  step : Int
  rule : Int
  place : Int
def Sd.cells (x : Sd) : List Value := [.int .i64 x.rule, .int .i64 x.place, .int .i64 x.since]
def Rd.cells (x : Rd) : List Value := [.int .i64 x.step, .int .i64 x.pos]
def Tc.cells (x : Tc) : List Value := [.int .i64 x.step, .int .i64 x.rule, .int .i64 x.place]
def sdCells (l : List Sd) : List Value := l.flatMap Sd.cells
def rdCells (l : List Rd) : List Value := l.flatMap Rd.cells
def tcCells (l : List Tc) : List Value := l.flatMap Tc.cells
def Sd.fm (x : Sd) : Fm := ⟨x.rule, x.place, [], [], false⟩
def whereI (l : List Sd) (r p : Int) : Int := atI (l.map Sd.fm) r p
def nowI (l : List Sd) : Int := match l.getLast? with | none => 0 | some x => x.place
def hangB (rs : List Rd) (since : Int) (n : Int) : Bool := rs.any fun r => decide (since < r.step) && decide (r.pos < n)
def tchB (ts : List Tc) (since place rule : Int) : Bool := ts.any fun t => decide (since ≤ t.step) && (decide (t.rule = rule) && decide (t.place = place))
/-- What was done, and where it lies. -/
structure Hst where
  l : List Sd
  rs : List Rd
  ts : List Tc
  la : Option Addr
  lc : Nat
  ra : Option Addr
  rc : Nat
  ta : Option Addr
  tc : Nat
structure HistAt (b : Nat) (w : World) (H B : Nat) (x : Hst) : Prop where
  top : w.heap[H]? = some (.cells #[.pointer (some ⟨B, 0, none⟩), .slice x.la x.l.length x.lc, .slice x.ra x.rs.length x.rc, .slice x.ta x.ts.length x.tc, .int .i64 0] 31 (0, 0))
  rowL : w.ownsRow b 40 3 (.slice x.la x.l.length x.lc) x.l.length (sdCells x.l)
  rowR : w.ownsRow b 37 2 (.slice x.ra x.rs.length x.rc) x.rs.length (rdCells x.rs)
  rowT : w.ownsRow b 87 3 (.slice x.ta x.ts.length x.tc) x.ts.length (tcCells x.ts)
  beyond : b ≤ H
theorem HistAt.chg0 {b : Nat} {w w' : World} {H B : Nat} {x : Hst} (h : HistAt b w H B x) (hc : Chg [] w w') : HistAt b w' H B x :=
  ⟨hc.heap h.top (by simp), hc.row h.rowL (fun _ _ => by simp), hc.row h.rowR (fun _ _ => by simp), hc.row h.rowT (fun _ _ => by simp), h.beyond⟩
theorem row_cells {w : World} {base e size n c : Nat} {a : Option Addr} {xs : List Value} (h : w.ownsRow base e size (.slice a n c) n xs) (hi : 0 < n) :
    ∃ G, a = some ⟨G, 0, none⟩ ∧ n ≤ c ∧ c ≤ 9223372036854775807 ∧ (∀ j, j < n * size → w.cell? ⟨G, j, none⟩ = xs[j]?) ∧ G < w.heap.size ∧ ∃ cur, w.heap[G]? = some (.cells cur e (0, 0)) := by
  rcases h.2 with ⟨h0, h1⟩ | ⟨g, cap, cur, h0, hb, hg, hn, hc, _⟩
  · omega
  · cases h0
    exact ⟨g, rfl, hn, by simpa only [maxLen] using hc, fun j hj => (row_put h hj).1, lt_of_block hg, cur, hg⟩
theorem cellsH5 {w : World} {b : Nat} {v0 v1 v2 v3 v4 : Value} {t : TypeId} {m : Nat × Nat} (h : w.heap[b]? = some (.cells #[v0, v1, v2, v3, v4] t m)) :
    w.cell? ⟨b, 0, none⟩ = some v0 ∧ w.cell? ⟨b, 1, none⟩ = some v1 ∧ w.cell? ⟨b, 2, none⟩ = some v2 ∧ w.cell? ⟨b, 3, none⟩ = some v3 ∧ w.cell? ⟨b, 4, none⟩ = some v4 :=
  ⟨cell_of_cells h 0, cell_of_cells h 1, cell_of_cells h 2, cell_of_cells h 3, cell_of_cells h 4⟩
theorem HistAt.sdAt {b : Nat} {w : World} {H B : Nat} {x : Hst} (h : HistAt b w H B x) {i : Nat} (hi : i < x.l.length) :
    ∃ G, x.la = some ⟨G, 0, none⟩ ∧ x.l.length ≤ x.lc ∧ x.lc ≤ 9223372036854775807 ∧ w.cell? ⟨G, i * 3, none⟩ = some (.int .i64 x.l[i].rule) ∧ w.cell? ⟨G, i * 3 + 1, none⟩ = some (.int .i64 x.l[i].place) ∧ w.cell? ⟨G, i * 3 + 2, none⟩ = some (.int .i64 x.l[i].since) := by
  obtain ⟨G, e, h1, h2, h3, -, -⟩ := row_cells h.rowL (by omega)
  have key : ∀ r, r < 3 → w.cell? ⟨G, i * 3 + r, none⟩ = x.l[i].cells[r]? := fun r hr => by
    rw [h3 _ (by omega)]
    have h1 := flat_get Sd.cells 3 (fun _ => rfl) x.l i r hr
    rw [List.getElem?_eq_getElem hi, Option.bind_some] at h1
    exact h1
  exact ⟨G, e, h1, h2, key 0 (by decide), key 1 (by decide), key 2 (by decide)⟩
theorem HistAt.rdAt {b : Nat} {w : World} {H B : Nat} {x : Hst} (h : HistAt b w H B x) {i : Nat} (hi : i < x.rs.length) :
    ∃ G, x.ra = some ⟨G, 0, none⟩ ∧ x.rs.length ≤ x.rc ∧ x.rc ≤ 9223372036854775807 ∧ w.cell? ⟨G, i * 2, none⟩ = some (.int .i64 x.rs[i].step) ∧ w.cell? ⟨G, i * 2 + 1, none⟩ = some (.int .i64 x.rs[i].pos) := by
  obtain ⟨G, e, h1, h2, h3, -, -⟩ := row_cells h.rowR (by omega)
  have key : ∀ r, r < 2 → w.cell? ⟨G, i * 2 + r, none⟩ = x.rs[i].cells[r]? := fun r hr => by
    rw [h3 _ (by omega)]
    have h1 := flat_get Rd.cells 2 (fun _ => rfl) x.rs i r hr
    rw [List.getElem?_eq_getElem hi, Option.bind_some] at h1
    exact h1
  exact ⟨G, e, h1, h2, key 0 (by decide), key 1 (by decide)⟩
theorem HistAt.tcAt {b : Nat} {w : World} {H B : Nat} {x : Hst} (h : HistAt b w H B x) {i : Nat} (hi : i < x.ts.length) :
    ∃ G, x.ta = some ⟨G, 0, none⟩ ∧ x.ts.length ≤ x.tc ∧ x.tc ≤ 9223372036854775807 ∧ w.cell? ⟨G, i * 3, none⟩ = some (.int .i64 x.ts[i].step) ∧ w.cell? ⟨G, i * 3 + 1, none⟩ = some (.int .i64 x.ts[i].rule) ∧ w.cell? ⟨G, i * 3 + 2, none⟩ = some (.int .i64 x.ts[i].place) := by
  obtain ⟨G, e, h1, h2, h3, -, -⟩ := row_cells h.rowT (by omega)
  have key : ∀ r, r < 3 → w.cell? ⟨G, i * 3 + r, none⟩ = x.ts[i].cells[r]? := fun r hr => by
    rw [h3 _ (by omega)]
    have h1 := flat_get Tc.cells 3 (fun _ => rfl) x.ts i r hr
    rw [List.getElem?_eq_getElem hi, Option.bind_some] at h1
    exact h1
  exact ⟨G, e, h1, h2, key 0 (by decide), key 1 (by decide), key 2 (by decide)⟩

set_option maxRecDepth 100000 in
set_option maxHeartbeats 4000000 in
theorem where_any (b : Nat) (w : World) (H B : Nat) (x : Hst) (h : HistAt b w H B x) (r p : Int) :
    Calls Try.prog 16 #[.pointer (some ⟨H, 0, none⟩), .int .i64 r, .int .i64 p] w fun e w' => e = .returned (.int .i64 (whereI x.l r p)) ∧ Chg [] w w' := by
  obtain ⟨l, rs, ts, la, lc, ra, rc, ta, tc⟩ := x
  obtain ⟨n, hn⟩ : ∃ n, n = l.length := ⟨_, rfl⟩
  obtain ⟨-, x1, -, -, -⟩ := cellsH5 h.top
  simp only at x1 ⊢
  rw [← hn] at x1
  have HH := Lib.hid (And.intro h hn)
  clear h hn
  go_enter Try.func16, Try.ntmps16
  go_wp2_with fail
  clear x1
  go_loopg [7] n (fun dd iv wr => ∃ i : Nat, dd = n - i ∧ i ≤ n ∧ iv = .int .i64 i ∧ Hid ((∀ j (h : j < l.length), j < i → ¬ (l[j].rule = r ∧ l[j].place = p)) ∧ Chg [] w wr))
  case atStart => exact ⟨0, rfl, Nat.zero_le _, rfl, Lib.hid ⟨fun j h hj => by omega, Chg.refl _ _⟩⟩
  case round =>
    obtain ⟨i, rfl, hi, rfl, hin⟩ := hrel
    obtain ⟨wq, rfl⟩ : ∃ wq, wq = wr := ⟨_, rfl⟩
    have hq := HH.out.1.chg0 hin.out.2
    obtain ⟨-, x1, -, -, -⟩ := cellsH5 hq.top
    simp only at x1
    rw [← HH.out.2] at x1
    by_cases hil : i < n
    · have hiL : i < l.length := by have := HH.out.2; omega
      obtain ⟨G, e, hc1, hc2, z0, z1, -⟩ := hq.sdAt hiL
      simp only at e hc1 hc2 z0 z1
      subst e
      rw [← HH.out.2] at hc1
      obtain ⟨y, hy⟩ : ∃ y, y = l[i] := ⟨_, rfl⟩
      rw [← hy] at z0 z1
      have HX : Hid (∃ h : i < l.length, y = l[i]) := Lib.hid ⟨hiL, hy⟩
      obtain ⟨rule, place, since⟩ := y
      simp only at z0 z1
      have hi1 : (i : Int) < n := by omega
      clear hq hy hiL
      by_cases h1 : rule = r
      · by_cases h2 : place = p
        · go_wp2_with fail
          go_ret
          obtain ⟨hiL, e9⟩ := HX.out
          have e : whereI l r p = i := atI_some (s := l.map Sd.fm) (by simpa using hiL) (by simp only [List.getElem_map, ← e9]; exact ⟨h1, h2⟩) (fun j hj => by simp only [List.getElem_map]; exact hin.out.1 j (by omega) hj)
          rw [e]
          exact ⟨by simp, hin.out.2⟩
        · go_wp2_with fail
          go_roundg (n - (i + 1))
          case measure => omega
          case rel =>
            refine ⟨i + 1, rfl, by omega, by go_num, Lib.hid ⟨fun j h hj => ?_, hin.out.2⟩⟩
            by_cases e : j = i
            · subst e
              obtain ⟨_, e9⟩ := HX.out
              rw [← e9]; exact fun h => h2 h.2
            · exact hin.out.1 j h (by omega)
      · go_wp2_with fail
        go_roundg (n - (i + 1))
        case measure => omega
        case rel =>
          refine ⟨i + 1, rfl, by omega, by go_num, Lib.hid ⟨fun j h hj => ?_, hin.out.2⟩⟩
          by_cases e : j = i
          · subst e
            obtain ⟨_, e9⟩ := HX.out
            rw [← e9]; exact fun h => h1 h.1
          · exact hin.out.1 j h (by omega)
    · obtain rfl : i = n := by omega
      clear hq
      go_wp2_with fail
      go_ret
      have e : whereI l r p = -1 := atI_none (fun f hf => by
        obtain ⟨g, hg, rfl⟩ := List.mem_map.1 hf
        obtain ⟨j, hj, rfl⟩ := List.mem_iff_getElem.1 hg
        exact hin.out.1 j hj (by have := HH.out.2; omega))
      rw [e]
      exact ⟨by simp, hin.out.2⟩

set_option maxRecDepth 100000 in
set_option maxHeartbeats 4000000 in
theorem now_any (b : Nat) (w : World) (H B : Nat) (x : Hst) (h : HistAt b w H B x) :
    Calls Try.prog 58 #[.pointer (some ⟨H, 0, none⟩)] w fun e w' => e = .returned (.int .i64 (nowI x.l)) ∧ Chg [] w w' := by
  obtain ⟨l, rs, ts, la, lc, ra, rc, ta, tc⟩ := x
  obtain ⟨R, hR⟩ : ∃ R, R = nowI l := ⟨_, rfl⟩
  obtain ⟨n, hn⟩ : ∃ n, n = l.length := ⟨_, rfl⟩
  obtain ⟨-, x1, -, -, -⟩ := cellsH5 h.top
  simp only at x1 ⊢
  rw [← hR]
  rw [← hn] at x1
  cases n with
  | zero =>
    have e : l = [] := List.eq_nil_of_length_eq_zero hn.symm
    subst e
    have hR' : R = 0 := hR
    subst hR'
    clear h hR hn
    go_enter Try.func58, Try.ntmps58
    go_wp2_with fail
    go_ret
    exact ⟨rfl, Chg.refl _ _⟩
  | succ n =>
    have hi : n < l.length := by omega
    obtain ⟨G, e, hc1, hc2, -, y1, -⟩ := h.sdAt hi
    simp only at e hc1 hc2 y1
    subst e
    have ht : R = l[n].place := by
      rw [hR]
      unfold nowI
      rw [List.getLast?_eq_getElem?, List.getElem?_eq_getElem (by omega)]
      simp only [show l.length - 1 = n by omega]
    rw [← ht] at y1
    have hnc : n + 1 ≤ lc := by omega
    have hsub : IntKind.i64.wrap (((n + 1 : Nat) : Int) - 1) = n := by rw [show ((n + 1 : Nat) : Int) - 1 = n by omega]; exact IntWalk.i64_in _ (by omega)
    have hd1 : (((n + 1 : Nat) : Int) == 0) = false := by simp only [beq_eq_false_iff_ne, ne_eq]; omega
    have k1 := cell_rg x1
    have k2 := cell_rg y1
    clear h hR hn hi hc1 ht y1
    go_enter Try.func58, Try.ntmps58
    go_wp2_with fail
    clear x1
    refine wp_region_quiet_below (by kernel_rfl) (by kernel_rfl) ?_
    repeat (go_big_quiet_step (fail))
    refine wpQuiet_nil ?_
    intro w4 hw4
    have HW := Lib.hid (chg_of_rg hw4)
    clear hw4 k1 k2
    go_wp2_with fail
    go_ret
    exact ⟨rfl, HW.out⟩

set_option maxRecDepth 100000 in
set_option maxHeartbeats 4000000 in
theorem has_any (w : World) (a : Option Addr) (m c : Nat) (xs : List Int) (hm : m = xs.length) (hcx : m ≤ c) (hcm : c ≤ 9223372036854775807) (hx : Ints w a xs) (z : Int) :
    Calls Try.prog 12 #[.slice a m c, .int .i64 z] w fun e w' => e = .returned (.bool (decide (z ∈ xs))) ∧ Chg [] w w' := by
  have HH := Lib.hid (And.intro hx hm)
  clear hx hm
  go_enter Try.func12, Try.ntmps12
  go_wp2_with fail
  go_loopg [5] m (fun dd iv wr => ∃ i : Nat, dd = m - i ∧ i ≤ m ∧ iv = .int .i64 i ∧ Hid ((∀ j (h : j < xs.length), j < i → ¬ xs[j] = z) ∧ Chg [] w wr))
  case atStart => exact ⟨0, rfl, Nat.zero_le _, rfl, Lib.hid ⟨fun j h hj => by omega, Chg.refl _ _⟩⟩
  case round =>
    obtain ⟨i, rfl, hi, rfl, hin⟩ := hrel
    obtain ⟨wq, rfl⟩ : ∃ wq, wq = wr := ⟨_, rfl⟩
    by_cases hil : i < m
    · have hiL : i < xs.length := by have := HH.out.2; omega
      obtain ⟨g, o, e, z0⟩ := HH.out.1 i hiL
      replace z0 := hin.out.2.cell z0 (by simp)
      subst e
      obtain ⟨y, hy⟩ : ∃ y, y = xs[i] := ⟨_, rfl⟩
      rw [← hy] at z0
      have HX : Hid (∃ h : i < xs.length, y = xs[i]) := Lib.hid ⟨hiL, hy⟩
      have hi1 : (i : Int) < m := by omega
      clear hy hiL
      by_cases h1 : y = z
      · go_wp2_with fail
        go_ret
        obtain ⟨hiL, e9⟩ := HX.out
        rw [decide_eq_true (by rw [← h1, e9]; exact List.getElem_mem hiL)]
        exact ⟨rfl, hin.out.2⟩
      · go_wp2_with fail
        go_roundg (m - (i + 1))
        case measure => omega
        case rel =>
          refine ⟨i + 1, rfl, by omega, by go_num, Lib.hid ⟨fun j h hj => ?_, hin.out.2⟩⟩
          by_cases e : j = i
          · subst e
            obtain ⟨_, e9⟩ := HX.out
            rw [← e9]; exact h1
          · exact hin.out.1 j h (by omega)
    · obtain rfl : i = m := by omega
      go_wp2_with fail
      go_ret
      rw [decide_eq_false (fun hz => by
        obtain ⟨j, hj, rfl⟩ := List.mem_iff_getElem.1 hz
        exact hin.out.1 j hj (by have := HH.out.2; omega) rfl)]
      exact ⟨rfl, hin.out.2⟩
end Go.Proofs.Ytnajhcoimohcaaa

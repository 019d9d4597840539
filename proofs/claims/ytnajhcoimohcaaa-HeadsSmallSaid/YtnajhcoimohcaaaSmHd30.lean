/-
  HeadsSmall: of no stack: what is told.
  Conditions: none.
-/
import Derived.Test.YtnajhcoimohcaaaSmHd28
import Derived.Test.YtnajhcoimohcaaaSmHd27
set_option linter.unusedVariables false
set_option linter.unusedSimpArgs false
set_option linter.unnecessarySimpa false
namespace Go.Proofs.Ytnajhcoimohcaaa
open Go.RowKit Go.MapKept

theorem Try.infoStack : (Try.prog.info? 78).map (fun i => (i.zero, i.size, i.bytes)) = some (some (.agg #[.bool false, .slice none 0 0]), 2, 32) := by kernel_rfl
set_option maxRecDepth 100000 in
set_option maxHeartbeats 8000000 in
theorem none20_any (w : World) : Calls Try.prog 34 #[] w fun e w' => e = .returned (.bool true) ∧ Chg [] w w' := by
  obtain ⟨i1, hi1, hy0, hy1, hy2⟩ := info_parts Try.infoStack
  obtain ⟨i2, hi2, hu0, hu1, hu2⟩ := info_parts Try.infoLeft
  obtain ⟨A, hA⟩ : ∃ z, z = w.heap.size := ⟨_, rfl⟩
  have hd0 := heap_alloc_same w (.cells #[.bool false, .slice none 0 0] 78)
  have hc0 := (Chg.refl [] w).alloc (.cells #[.bool false, .slice none 0 0] 78)
  have hsz : (w.alloc (.cells #[.bool false, .slice none 0 0] 78)).heap.size = A + 1 := by rw [World.size_alloc, hA]
  obtain ⟨w0, e0⟩ : ∃ z, z = w.alloc (.cells #[.bool false, .slice none 0 0] 78) := ⟨_, rfl⟩
  rw [← e0, ← hA] at hd0
  rw [← e0] at hc0 hsz
  obtain ⟨L, hL⟩ : ∃ z, z = A + 1 := ⟨_, rfl⟩
  have hd1 := heap_alloc_same w0 (.cells #[.pointer none, .pointer (some ⟨A, 0, none⟩)] 25)
  have hc1 := (Chg.refl [] w0).alloc (.cells #[.pointer none, .pointer (some ⟨A, 0, none⟩)] 25)
  obtain ⟨w1, e1⟩ : ∃ z, z = w0.alloc (.cells #[.pointer none, .pointer (some ⟨A, 0, none⟩)] 25) := ⟨_, rfl⟩
  rw [← e1, hsz, ← hL] at hd1
  rw [← e1] at hc1
  have HH := Lib.hid (And.intro (hc1.heap hd0 (by simp)) (And.intro hd1 (hc0.tr hc1)))
  have HE := Lib.hid (And.intro hA (And.intro hL (And.intro e0 e1)))
  clear hd0 hc0 hd1 hc1 hA hL e0 e1 hsz
  go_enter Try.func34, Try.ntmps34
  go_wp2_with fail
  rw [← HE.out.1, ← HE.out.2.2.1, ← HE.out.2.1, ← HE.out.2.2.2]
  go_loopg [2] 2 (fun dd iv wr => ∃ i : Nat, dd = 2 - i ∧ i ≤ 2 ∧ iv = .int .i64 i ∧ Hid (Chg [] w1 wr))
  case atStart => exact ⟨0, rfl, Nat.zero_le _, rfl, Lib.hid (Chg.refl _ _)⟩
  case round =>
    obtain ⟨i, rfl, hi, rfl, hI⟩ := hrel
    obtain ⟨wq, rfl⟩ : ∃ wq, wq = wr := ⟨_, rfl⟩
    by_cases hil : i < 2
    · obtain ⟨q, hq, hno⟩ : ∃ q, wq.cell? ⟨L, i, none⟩ = some (.pointer q) ∧ NoS wq q := by
        obtain ⟨x0, x1⟩ := cells2 (hI.out.heap HH.out.2.1 (by simp))
        obtain ⟨y0, -⟩ := cells2 (hI.out.heap HH.out.1 (by simp))
        rcases (show i = 0 ∨ i = 1 by omega) with rfl | rfl
        · exact ⟨_, x0, .inl rfl⟩
        · exact ⟨_, x1, .inr ⟨A, rfl, y0⟩⟩
      have hi2 : decide ((i : Int) < 2) = true := decide_eq_true (by omega)
      have hlv := leaveS_no wq q hno
      have HN := Lib.hid hno
      clear hno
      go_wp2_with fail
      refine hlv.mono ?_
      clear hlv
      rintro e w3 ⟨rfl, hc3⟩
      obtain ⟨X, hX⟩ : ∃ z, z = w3.heap.size := ⟨_, rfl⟩
      have hd4 := heap_alloc_same w3 (.cells #[.int .i64 0, .int .i64 0, .slice none 0 0, .bool false] 65)
      have hc4 := hc3.alloc (.cells #[.int .i64 0, .int .i64 0, .slice none 0 0, .bool false] 65)
      obtain ⟨w4, e4⟩ : ∃ z, z = w3.alloc (.cells #[.int .i64 0, .int .i64 0, .slice none 0 0, .bool false] 65) := ⟨_, rfl⟩
      rw [← e4, ← hX] at hd4
      rw [← e4] at hc4
      obtain ⟨x0, x1, x2, x3⟩ := cellsL4 hd4
      have kx2 := cell_rg x2
      have kx3 := cell_rg x3
      have hn4 := HN.out.chg0 hc4
      have cE := calls_rg (w := w4) (fun W h => enterS_no W q (hn4.chg0 h) 0 0)
      have cR := calls_rg (w := w4) (fun W h => readS_no W q (hn4.chg0 h) 0 0)
      have cU := calls_rg (w := w4) (fun W h => useS_no W q (hn4.chg0 h) 0)
      have cI := calls_rg (w := w4) (fun W h => involvedS_no W q (hn4.chg0 h) 0 0)
      have cP := calls_rg (w := w4) (fun W h => pairsS_no W q (hn4.chg0 h))
      have cF := calls_rg (w := w4) (fun W h => freeS_no W q (hn4.chg0 h) 0)
      have cT := calls_rg (w := w4) (fun W h => taintedS_no W q (hn4.chg0 h))
      have cC := calls_rg (w := w4) (fun W h => copyS_no W q (hn4.chg0 h))
      have H4 := Lib.hid (hI.out.tr hc4)
      have HE4 := Lib.hid (And.intro hX e4)
      clear hd4 hc3 hc4 x0 x1 x2 x3 hn4 hX e4 hq
      go_upto_region 7 with fail
      rw [← HE4.out.1, ← HE4.out.2]
      refine wp_region_quiet_below (by kernel_rfl) (by kernel_rfl) ?_
      repeat (go_big_quiet_step (first | (with_reducible exact cE _ _) | (with_reducible exact cR _ _) | (with_reducible exact cU _ _) | (with_reducible exact cI _ _) | (with_reducible exact cP _ _) | (with_reducible exact cF _ _) | (with_reducible exact cT _ _) | (with_reducible exact cC _ _)))
      refine wpQuiet_nil ?_
      intro w5 hw5
      have HW := Lib.hid (H4.out.tr (chg_of_rg hw5))
      clear hw5 cE cR cU cI cP cF cT cC kx2 kx3
      go_wp2_with fail
      go_roundg (2 - (i + 1))
      case measure => omega
      case rel => exact ⟨i + 1, rfl, by omega, by go_num, HW⟩
    · obtain rfl : i = 2 := by omega
      go_wp2_with fail
      go_ret
      exact ⟨rfl, HH.out.2.2.tr hI.out⟩
end Go.Proofs.Ytnajhcoimohcaaa
set_option linter.unusedVariables false
set_option linter.unusedSimpArgs false
set_option linter.unnecessarySimpa false
namespace Go.Proofs.Ytnajhcoimohcaaa
open Go.RowKit Go.MapKept

structure Dr where
  y : Dd
  ta : Option Addr
  tc : Nat
def Dr.cells (x : Dr) : List Value := [.int .i64 x.y.what, .int .i64 x.y.rule, .int .i64 x.y.place, .slice x.ta x.y.tch.length x.tc]
def drCells (l : List Dr) : List Value := l.flatMap Dr.cells
theorem drCells_len (l : List Dr) : (drCells l).length = l.length * 4 := flat_len Dr.cells 4 (fun _ => rfl) l
theorem drCells_append (l m : List Dr) : drCells (l ++ m) = drCells l ++ drCells m := by simp [drCells]
/-- A row of deeds, made since. -/
structure DeedsRow (b : Nat) (w : World) (a : Option Addr) (c : Nat) (l : List Dr) : Prop where
  row : w.ownsRow b 55 4 (.slice a l.length c) l.length (drCells l)
  ok : ∀ x ∈ l, x.y.Wf ∧ FreshInts b w x.ta x.tc x.y.tch ∧ x.y.tch.length ≤ 4
theorem DeedsRow.nil (b : Nat) (w : World) : DeedsRow b w none 0 [] := ⟨World.ownsRow_nil _ _ _ _, fun x hx => by cases hx⟩
theorem DeedsRow.chg0 {b : Nat} {w w' : World} {a : Option Addr} {c : Nat} {l : List Dr} (h : DeedsRow b w a c l) (hc : Chg [] w w') : DeedsRow b w' a c l :=
  ⟨hc.row h.row (fun _ _ => by simp), fun x hx => ⟨(h.ok x hx).1, hc.row (h.ok x hx).2.1 (fun _ _ => by simp), (h.ok x hx).2.2⟩⟩
theorem DeedsRow.push {b : Nat} {w w3 w5 : World} {a : Option Addr} {c : Nat} {l : List Dr} (h : DeedsRow b w a c l) (hA : Chg [] w w3) (xs : List Dr) (hx : ∀ x ∈ xs, x.y.Wf ∧ FreshInts b w3 x.ta x.tc x.y.tch ∧ x.y.tch.length ≤ 4) {a5 : Option Addr} {c5 n5 : Nat} (hn5 : n5 = l.length + xs.length)
    (hrow : w5.ownsRow b 55 4 (.slice a5 n5 c5) n5 (drCells l ++ drCells xs)) (hg : w3.grownBy w5 (Value.slice a l.length c).ownBlock) : DeedsRow b w5 a5 c5 (l ++ xs) ∧ Chg ((Value.slice a l.length c).ownBlock.toList) w w5 := by
  subst hn5
  have h3 := h.chg0 hA
  have hcG : Chg (Value.slice a l.length c).ownBlock.toList w3 w5 := (Chg.refl _ w3).grown hg (fun k hk => .inl (by rw [hk]; simp))
  have keep : ∀ {u k : _} {z : List Int}, FreshInts b w3 u k z → FreshInts b w5 u k z := fun {u k z} hz =>
    hcG.rowOf hz (fun j hj => by
      obtain ⟨_, _, cur, hcur⟩ := row_beyond h3.row (by simpa using hj)
      exact .of_cells hcur (by decide))
  refine ⟨⟨?_, fun x hm => ?_⟩, (hA.any).tr hcG⟩
  · rw [List.length_append, drCells_append]; exact hrow
  · rcases List.mem_append.1 hm with hm | hm
    · exact ⟨(h3.ok x hm).1, keep (h3.ok x hm).2.1, (h3.ok x hm).2.2⟩
    · exact ⟨(hx x hm).1, keep (hx x hm).2.1, (hx x hm).2.2⟩
/-- As a row of deeds that the statement reads. -/
theorem DeedsRow.deeds {b : Nat} {w : World} {a : Option Addr} {c : Nat} {l : List Dr} (h : DeedsRow b w a c l) : l.length ≤ c ∧ c ≤ 9223372036854775807 ∧ Deeds w a (l.map (·.y)) ∧ ∀ y ∈ l.map (·.y), y.Wf := by
  have hlc : l.length ≤ c ∧ c ≤ 9223372036854775807 := by
    rcases h.row.2 with ⟨h0, h1⟩ | ⟨g, cap, cur, h0, hb, hg, hn, hm, _⟩
    · simp only [Value.slice.injEq] at h0
      obtain ⟨_, h2, h3⟩ := h0
      omega
    · cases h0
      simp only [maxLen] at hm
      exact ⟨hn, hm⟩
  refine ⟨hlc.1, hlc.2, fun i hi => ?_, fun y hy => ?_⟩
  · rw [List.length_map] at hi
    obtain ⟨G, rfl⟩ : ∃ G, a = some ⟨G, 0, none⟩ := by
      rcases h.row.2 with ⟨h0, h1⟩ | ⟨g, cap, cur, h0, _⟩
      · omega
      · cases h0; exact ⟨g, rfl⟩
    have key : ∀ r, r < 4 → w.cell? ⟨G, i * 4 + r, none⟩ = l[i].cells[r]? := fun r hr => by
      rw [(row_put h.row (i := i * 4 + r) (by omega)).1]
      have h1 := flat_get Dr.cells 4 (fun _ => rfl) l i r hr
      rw [List.getElem?_eq_getElem hi, Option.bind_some] at h1
      exact h1
    obtain ⟨hwf, hrow, hl4⟩ := h.ok _ (List.getElem_mem hi)
    obtain ⟨t1, -, t2, t3⟩ := ownInts_read hrow.own
    refine ⟨G, 0, l[i].ta, l[i].y.tch.length, l[i].tc, rfl, ?_⟩
    rw [Nat.zero_add, List.getElem_map]
    exact ⟨key 0 (by decide), key 1 (by decide), key 2 (by decide), key 3 (by decide), rfl, t2, by simpa only [maxLen] using t3, t1⟩
  · obtain ⟨x, hx, rfl⟩ := List.mem_map.1 hy
    exact (h.ok x hx).1
/-- What HeadsDoes tells of such a row. -/
theorem headsDoes_row (w : World) (b : Nat) (a : Option Addr) (n c : Nat) (l : List Dr) (h : DeedsRow b w a c l) (hn : n = l.length) (hs : n ≤ 1000) :
    Calls Try.prog 6 #[.slice a n c] w fun e w' => e = .returned (.bool true) ∧ Chg [] w w' := by
  obtain ⟨h1, h2, h3, h4⟩ := h.deeds
  refine headsDoes_any w a n c (l.map (·.y)) (by rw [List.length_map]; exact hn) (by omega) h2 h3 h4 (by omega) (fun y hy => ?_)
  obtain ⟨x, hx, rfl⟩ := List.mem_map.1 hy
  have := (h.ok x hx).2.2
  omega
theorem and3s : ∀ a, a < 64 → ∀ b, b < 64 → bits BinOp.and IntKind.i64 ((64 * a + b : Nat) : Int) 3 = (((64 * a + b) % 4 : Nat) : Int) := by decide +kernel
theorem and3 (x : Nat) (h : x < 4096) : bits BinOp.and IntKind.i64 ((x : Nat) : Int) 3 = ((x % 4 : Nat) : Int) := by
  have := and3s (x / 64) (by omega) (x % 64) (by omega)
  rwa [Nat.div_add_mod] at this
theorem and3n (n k : Nat) (hn : n < 4096) : ∃ m : Nat, m < 4 ∧ bits BinOp.and IntKind.i64 ((n : Int) / 2 ^ (2 * k)) 3 = (m : Int) := by
  refine ⟨n / 2 ^ (2 * k) % 4, Nat.mod_lt _ (by decide), ?_⟩
  have h := and3 (n / 2 ^ (2 * k)) (Nat.lt_of_le_of_lt (Nat.div_le_self _ _) hn)
  rw [← h]
  congr 1
end Go.Proofs.Ytnajhcoimohcaaa

/-
  left.of: a right grammar at work.
  Conditions: the grammar reads as data, within the reach.
-/
import Derived.Test.YtplpboknmhgpiaaCEdLf0
import Derived.Test.YtplpboknmhgpiaaCEdGBool
import Derived.Test.YtplpboknmhgpiaaCEdGSeq
import Derived.Test.YtplpboknmhgpiaaCEdNuC
import Derived.Test.YtplpboknmhgpiaaCEdG06T
import Derived.Test.YtplpboknmhgpiaaCEdGKit
import Derived.Test.YtplpboknmhgpiaaCEdGOpen
set_option linter.unusedVariables false
set_option linter.unusedSimpArgs false
set_option linter.unnecessarySimpa false
namespace Go.Proofs.Ytplpboknmhgpiaa
open Go.RowKit Go.MapKept Go.Shelf

section
attribute [local go_sem] Oper.semAt_some
end
end Go.Proofs.Ytplpboknmhgpiaa
set_option linter.unusedVariables false
set_option linter.unusedSimpArgs false
set_option linter.unnecessarySimpa false
namespace Go.Proofs.Ytplpboknmhgpiaa
open Go.RowKit Go.MapKept Go.Shelf

/-- What lay below n₀ lies as it lay, and each block of a node. -/
structure KeepL (n₀ : Nat) (A B : World) : Prop where
  size : A.heap.size ≤ B.heap.size
  old : ∀ k o, (k < n₀ ∨ ∃ cs, o = .cells cs 131 (0, 0)) → A.heap[k]? = some o → B.heap[k]? = some o
theorem KeepL.refl (n₀ : Nat) (A : World) : KeepL n₀ A A := ⟨Nat.le_refl _, fun _ _ _ h => h⟩
theorem KeepL.trans {n₀ : Nat} {A B C : World} (h : KeepL n₀ A B) (k : KeepL n₀ B C) : KeepL n₀ A C := ⟨Nat.le_trans h.size k.size, fun j o hj ho => k.old j o hj (h.old j o hj ho)⟩
theorem KeepL.of_chg {n₀ : Nat} {S : List Nat} {A B : World} (h : Chg S A B) (hS : ∀ k ∈ S, n₀ ≤ k ∧ ∀ cs, A.heap[k]? ≠ some (.cells cs 131 (0, 0))) : KeepL n₀ A B :=
  ⟨h.size, fun k o hk ho => h.heap ho (fun hm => by
    obtain ⟨h1, h2⟩ := hS k hm
    rcases hk with h | ⟨cs, rfl⟩
    · omega
    · exact h2 cs ho)⟩
theorem KeepL.of_chg0 {n₀ : Nat} {A B : World} (h : Chg [] A B) : KeepL n₀ A B := .of_chg h (by simp)
theorem KeepL.of_turn {n₀ B' : Nat} {A B : World} (h : Turn B' A B) (hn : n₀ ≤ B') : KeepL n₀ A B := by
  refine ⟨h.kp.1, fun k o hk ho => ?_⟩
  rcases hk with hk | ⟨cs, rfl⟩
  · obtain ⟨l, hl, hc⟩ := h.chg
    exact hc.heap ho (by simp; omega)
  · exact h.heap ho rfl
theorem KeepL.kp {w W : World} (h : KeepL w.heap.size w W) : Kp w W := by
  refine ⟨h.size, fun p v hc => ?_⟩
  obtain ⟨o, ho, _⟩ := cells_of_cell hc
  exact (World.cell?_of_block ((h.old _ _ (.inl (World.block_lt_of_cell? _ _ hc)) ho).trans ho.symm)).trans hc
section
attribute [local go_sem] Oper.semAt_some
end
end Go.Proofs.Ytplpboknmhgpiaa
set_option linter.unusedVariables false
set_option linter.unusedSimpArgs false
set_option linter.unnecessarySimpa false
namespace Go.Proofs.Ytplpboknmhgpiaa
open Go.RowKit Go.MapKept Go.Shelf

/-! ### The rules that are called -/
section
attribute [local go_sem] Oper.semAt_some
end
end Go.Proofs.Ytplpboknmhgpiaa
set_option linter.unusedVariables false
set_option linter.unusedSimpArgs false
set_option linter.unnecessarySimpa false
namespace Go.Proofs.Ytplpboknmhgpiaa
open Go.RowKit Go.MapKept Go.Shelf

/-! ### Rows of rows of numbers -/
theorem Try.infoInts : (Try.prog.info? 26).map (fun i => (i.zero, i.size, i.bytes)) = some (some (.slice none 0 0), 1, 24) := by kernel_rfl
abbrev Is := Option Addr × Nat × List Int
def Is.cell (p : Is) : Value := .slice p.1 p.2.2.length p.2.1
def Is.own (p : Is) : Option Nat := p.cell.ownBlock
structure OwnIs (B : Nat) (w : World) (a : Option Addr) (c : Nat) (VS : List Is) : Prop where
  row : w.ownsRow B 26 1 (.slice a VS.length c) VS.length (VS.map Is.cell)
  each : ∀ p ∈ VS, FreshInts B w p.1 p.2.1 p.2.2
  apart : VS.Pairwise fun p q => ∀ k, p.own = some k → q.own ≠ some k
theorem OwnIs.nil (B : Nat) (w : World) : OwnIs B w none 0 [] := ⟨World.ownsRow_nil _ _ _ _, by simp, List.Pairwise.nil⟩
theorem OwnIs.chg0 {B : Nat} {w w' : World} {a : Option Addr} {c : Nat} {VS : List Is} (h : OwnIs B w a c VS) (hc : Chg [] w w') : OwnIs B w' a c VS := ⟨hc.row h.row (fun _ _ => by simp), fun p hp => hc.row (h.each p hp) (fun _ _ => by simp), h.apart⟩
theorem OwnIs.base {B B' : Nat} {w : World} {a : Option Addr} {c : Nat} {VS : List Is} (h : OwnIs B w a c VS) (hb : B' ≤ B) : OwnIs B' w a c VS := ⟨row_base h.row hb, fun p hp => row_base (h.each p hp) hb, h.apart⟩
/-- One row more, made behind all others. -/
theorem OwnIs.snoc {B B' : Nat} {w w1 : World} {a a' : Option Addr} {c c' : Nat} {VS : List Is} {p : Is} (h : OwnIs B w a c VS) (hB : B ≤ B') (hp : FreshInts B' w p.1 p.2.1 p.2.2) (hold : ∀ q ∈ VS, ∀ k, q.own = some k → k < B')
    (hr : w1.ownsRow B 26 1 (.slice a' (VS.length + 1) c') (VS.length + 1) (VS.map Is.cell ++ [p.cell])) (hg : w.grownBy w1 (Value.slice a VS.length c).ownBlock) : OwnIs B w1 a' c' (VS ++ [p]) := by
  have hc : Chg (Value.slice a VS.length c).ownBlock.toList w w1 := (Chg.refl _ w).grown hg (fun k hk => .inl (by rw [hk]; simp))
  have hS : ∀ k ∈ (Value.slice a VS.length c).ownBlock.toList, NotRow w 3 k := by
    intro k hk
    simp only [Option.mem_toList] at hk
    exact row_notrow h.row hk (by decide)
  refine ⟨by rw [List.length_append, List.map_append]; exact hr, fun q hq => ?_, ?_⟩
  · rcases List.mem_append.1 hq with hq | hq
    · exact hc.row (h.each q hq) (fun k hk hm => hS k hm _ _ _ _ _ (h.each q hq) hk)
    · simp only [List.mem_singleton] at hq
      subst hq
      exact hc.row (row_base hp hB) (fun k hk hm => hS k hm _ _ _ _ _ hp hk)
  · rw [List.pairwise_append]
    refine ⟨h.apart, List.pairwise_singleton _ _, fun q hq r hr k hk hk2 => ?_⟩
    simp only [List.mem_singleton] at hr
    subst hr
    have h1 := hold q hq k hk
    have h2 := (row_beyond hp hk2).1
    omega
theorem OwnIs.lt {B : Nat} {w : World} {a : Option Addr} {c : Nat} {VS : List Is} (h : OwnIs B w a c VS) : ∀ q ∈ VS, ∀ k, q.own = some k → k < w.heap.size := fun q hq k hk => (row_beyond (h.each q hq) hk).2.1
/-- Reading. -/
theorem OwnIs.at {B : Nat} {w : World} {a : Option Addr} {c : Nat} {VS : List Is} (h : OwnIs B w a c VS) {i : Nat} (hi : i < VS.length) : ∃ b, a = some ⟨b, 0, none⟩ ∧ B ≤ b ∧ w.cell? ⟨b, i, none⟩ = some VS[i].cell := by
  rcases h.row.2 with ⟨h0, h1⟩ | ⟨g, cap, cur, h0, hb, hg, hn, hc, hs, ht⟩
  · omega
  · cases h0
    refine ⟨g, rfl, hb, ?_⟩
    rw [cell_of_cells hg]
    have h1 : (VS.map Is.cell)[i]? = some VS[i].cell := by simp [hi]
    rw [← ht, List.getElem?_take] at h1
    split at h1
    · simpa using h1
    · cases h1
theorem OwnIs.ints {B : Nat} {w : World} {a : Option Addr} {c : Nat} {VS : List Is} (h : OwnIs B w a c VS) {i : Nat} (hi : i < VS.length) : Ints w VS[i].1 VS[i].2.2 := (ownInts_read (h.each _ (List.getElem_mem hi)).own).1
def NewRowsI (w : World) (zss : List (List Int)) (e : Ending) (w' : World) : Prop := ∃ a c VS, e = .returned (.slice a zss.length c) ∧ VS.map (·.2.2) = zss ∧ OwnIs w.heap.size w' a c VS ∧ Chg [] w w'

end Go.Proofs.Ytplpboknmhgpiaa
set_option linter.unusedVariables false
set_option linter.unusedSimpArgs false
set_option linter.unnecessarySimpa false
namespace Go.Proofs.Ytplpboknmhgpiaa
open Go.RowKit Go.MapKept Go.Shelf

/-- Rows of numbers, as they lie. -/
def IntRows (w : World) (a : Option Addr) (VS : List Is) : Prop := ∀ i (h : i < VS.length), ∃ b o, a = some ⟨b, o, none⟩ ∧ w.cell? ⟨b, o + i, none⟩ = some VS[i].cell ∧ Ints w VS[i].1 VS[i].2.2 ∧ VS[i].2.2.length ≤ 9223372036854775807
theorem OwnIs.rows {B : Nat} {w : World} {a : Option Addr} {c : Nat} {VS : List Is} (h : OwnIs B w a c VS) : IntRows w a VS := fun i hi => by
  obtain ⟨gb, rfl, hgb, hgc⟩ := h.at hi
  have := (ownInts_read (h.each _ (List.getElem_mem hi)).own).2.2
  simp only [maxLen] at this
  exact ⟨gb, 0, rfl, by rw [Nat.zero_add]; exact hgc, h.ints hi, by omega⟩
theorem IntRows.keep {w w' : World} {a : Option Addr} {VS : List Is} (h : IntRows w a VS) (k : Kp w w') : IntRows w' a VS := fun i hi => by
  obtain ⟨b, o, rfl, h1, h2, h3⟩ := h i hi
  exact ⟨b, o, rfl, k.2 _ _ h1, h2.keep k, h3⟩

set_option maxRecDepth 100000 in
set_option maxHeartbeats 4000000 in
theorem sameIntRows_yes (w : World) (a b : Option Addr) (n c d' : Nat) (VS US : List Is) (hn : n = VS.length) (hs : n ≤ 9223372036854775807) (hx : IntRows w a VS) (hy : IntRows w b US) (he : VS.map (·.2.2) = US.map (·.2.2)) :
    Calls Try.prog 19 #[.slice a n c, .slice b n d'] w fun e w' => e = .returned (.bool true) ∧ Chg [] w w' := by
  have H := Lib.hid (And.intro hn (And.intro hx (And.intro hy he)))
  clear hn hx hy he
  go_enter Try.func19, Try.ntmps19
  go_wp2_with fail
  go_loopg [5] n (fun d iv wr => ∃ k : Nat, d = n - k ∧ k ≤ n ∧ iv = .int .i64 k ∧ Hid (Chg [] w wr))
  case atStart => exact ⟨0, rfl, Nat.zero_le _, rfl, Lib.hid (Chg.refl _ _)⟩
  case round =>
    obtain ⟨k, rfl, hk, rfl, hin⟩ := hrel
    obtain ⟨wq, rfl⟩ : ∃ wq, wq = wr := ⟨_, rfl⟩
    by_cases hlt : k < n
    · have hkx : k < VS.length := by have := H.out.1; omega
      have hlen := congrArg List.length H.out.2.2.2
      rw [List.length_map, List.length_map] at hlen
      have hky : k < US.length := by omega
      obtain ⟨bx, ox, rfl, hx, ix, lx⟩ := (H.out.2.1.keep hin.out.kp) k hkx
      obtain ⟨bb, oy, rfl, hy, iy, ly⟩ := (H.out.2.2.1.keep hin.out.kp) k hky
      have hrow : VS[k].2.2 = US[k].2.2 := by
        have h1 : (VS.map (·.2.2))[k]? = (US.map (·.2.2))[k]? := by rw [H.out.2.2.2]
        simpa [hkx, hky] using h1
      obtain ⟨z, hz⟩ : ∃ z, z = VS[k].2.2 := ⟨_, rfl⟩
      simp only [Is.cell, ← hrow] at hx hy iy ly
      simp only [← hz] at hx hy ix iy lx ly
      obtain ⟨zl, hzl⟩ : ∃ zl, zl = z.length := ⟨_, rfl⟩
      obtain ⟨va, hva⟩ : ∃ va, va = VS[k].1 := ⟨_, rfl⟩
      obtain ⟨vc, hvc⟩ : ∃ vc, vc = VS[k].2.1 := ⟨_, rfl⟩
      obtain ⟨ua, hua⟩ : ∃ ua, ua = US[k].1 := ⟨_, rfl⟩
      obtain ⟨uc, huc⟩ : ∃ uc, uc = US[k].2.1 := ⟨_, rfl⟩
      rw [← hzl, ← hva, ← hvc] at hx
      rw [← hzl, ← hua, ← huc] at hy
      rw [← hva] at ix
      rw [← hua] at iy
      have cA := calls_rg (w := wq) (fun w1 h1 => sameInts_any w1 va ua zl vc zl uc z z hzl hzl (by omega) (ix.keep h1.kp) (iy.keep h1.kp))
      rw [decide_eq_true (rfl : z = z)] at cA
      have kx := cell_rg hx
      have ky := cell_rg hy
      clear hkx hlen hky hrow hz hva hvc hua huc ix iy lx ly hx hy hzl
      go_wp2_with fail
      refine wp_region_quiet_below (by kernel_rfl) (by kernel_rfl) ?_
      repeat (go_big_quiet_step (first | (with_reducible exact cA _ _)))
      refine wpQuiet_nil ?_
      intro w4 hw4
      have hc4 := chg_of_rg hw4
      clear hw4 cA kx ky
      go_wp2_with fail
      go_roundg (n - (k + 1))
      case measure => omega
      case rel => exact ⟨k + 1, rfl, by omega, by go_num, Lib.hid (hin.out.tr hc4)⟩
    · obtain rfl : k = n := by omega
      go_wp2_with fail
      go_ret
      exact ⟨rfl, hin.out⟩
end Go.Proofs.Ytplpboknmhgpiaa
set_option linter.unusedVariables false
set_option linter.unusedSimpArgs false
set_option linter.unnecessarySimpa false
namespace Go.Proofs.Ytplpboknmhgpiaa
open Go.RowKit Go.MapKept Go.Shelf

def sumL (x : List (List Int)) : Nat := (x.map List.length).sum
def greatI (x : List (List Int)) : Bool := decide (600 < x.length + sumL x)
theorem sumL_take (x : List (List Int)) {i : Nat} (hi : i < x.length) : sumL (x.take (i + 1)) = sumL (x.take i) + x[i].length := by
  unfold sumL
  rw [List.take_succ_eq_append_getElem hi, List.map_append, List.sum_append]; simp
theorem sumL_le (x : List (List Int)) (i : Nat) : sumL (x.take i) ≤ sumL x := by
  unfold sumL
  conv => rhs; rw [← List.take_append_drop i x, List.map_append, List.sum_append]
  omega
theorem sumL_mem {x : List (List Int)} {l : List Int} (h : l ∈ x) : l.length ≤ sumL x := by
  induction x with
  | nil => cases h
  | cons y x ih =>
    unfold sumL
    rw [List.map_cons, List.sum_cons]
    rcases List.mem_cons.1 h with e | k
    · subst e; omega
    · have := ih k
      unfold sumL at this
      omega
theorem great_small {x : List (List Int)} (h : greatI x = false) : x.length ≤ 600 ∧ ∀ l ∈ x, l.length ≤ 600 := by
  have := of_decide_eq_false h
  refine ⟨by omega, fun l hl => ?_⟩
  have := sumL_mem hl
  omega

set_option maxRecDepth 100000 in
set_option maxHeartbeats 4000000 in
theorem great_any (w : World) (a : Option Addr) (n c : Nat) (VS : List Is) (hn : n = VS.length) (hs : n ≤ 17592186044416) (hl : ∀ p ∈ VS, p.2.2.length ≤ 17592186044416) (hx : IntRows w a VS) :
    Calls Try.prog 10 #[.slice a n c] w fun e w' => e = .returned (.bool (greatI (VS.map (·.2.2)))) ∧ Chg [] w w' := by
  obtain ⟨R, hR⟩ : ∃ R, R = greatI (VS.map (·.2.2)) := ⟨_, rfl⟩
  rw [← hR]
  have H := Lib.hid (And.intro hn (And.intro hx (And.intro hl hR)))
  clear hn hx hl hR
  go_enter Try.func10, Try.ntmps10
  go_wp2_with fail
  go_loopg [3, 4] n (fun d sv iv wr => ∃ (i s : Nat), d = n - i ∧ i ≤ n ∧ sv = .int .i64 s ∧ iv = .int .i64 i ∧ s ≤ 35184372089432 ∧ Hid (Chg [] w wr ∧ s = n + sumL ((VS.map (·.2.2)).take i)))
  case atStart => exact ⟨0, n, rfl, Nat.zero_le _, rfl, rfl, by omega, Lib.hid ⟨Chg.refl _ _, by simp [sumL]⟩⟩
  case round =>
    obtain ⟨i, s, rfl, hi, rfl, rfl, hsb, hin⟩ := hrel
    obtain ⟨wq, rfl⟩ : ∃ wq, wq = wr := ⟨_, rfl⟩
    by_cases hlt : i < n
    · by_cases h6 : s ≤ 600
      · have hiv : i < VS.length := by have := H.out.1; omega
        obtain ⟨bx, ox, rfl, hcx, ix, lx⟩ := (H.out.2.1.keep hin.out.1.kp) i hiv
        have hlm := H.out.2.2.1 _ (List.getElem_mem hiv)
        have hnext := sumL_take (VS.map (·.2.2)) (i := i) (by rw [List.length_map]; exact hiv)
        rw [List.getElem_map] at hnext
        obtain ⟨m, hm⟩ : ∃ m, m = VS[i].2.2.length := ⟨_, rfl⟩
        simp only [Is.cell] at hcx
        rw [← hm] at hcx hlm hnext
        have hw1 : IntKind.i64.wrap ((s : Int) + (m : Int)) = ((s + m : Nat) : Int) := by rw [IntWalk.i64_in _ (by omega)]; omega
        have HI := Lib.hid (And.intro hnext hm)
        clear hnext hm ix lx
        go_wp2_with fail
        go_roundg (n - (i + 1))
        case measure => omega
        case rel => exact ⟨i + 1, s + m, rfl, by omega, by go_num, by go_num, by omega, Lib.hid ⟨hin.out.1, by have := hin.out.2; have := HI.out.1; omega⟩⟩
      · go_wp2_with fail
        go_ret
        refine ⟨ret_bool ?_, hin.out.1⟩
        rw [H.out.2.2.2]
        have h1 := hin.out.2
        have h2 := sumL_le (VS.map (·.2.2)) i
        have h3 := H.out.1
        unfold greatI
        rw [List.length_map]
        first | (rw [decide_eq_true (by omega), decide_eq_true (by omega)]) | exact (decide_eq_true (by omega)).symm
    · obtain rfl : i = n := by omega
      go_wp2_with fail
      go_ret
      refine ⟨ret_bool ?_, hin.out.1⟩
      rw [H.out.2.2.2]
      have h1 := hin.out.2
      have h3 := H.out.1
      rw [List.take_of_length_le (by rw [List.length_map, ← h3]; exact Nat.le_refl _)] at h1
      unfold greatI
      rw [List.length_map, decide_eq_decide]
      omega
end Go.Proofs.Ytplpboknmhgpiaa
set_option linter.unusedVariables false
set_option linter.unusedSimpArgs false
set_option linter.unnecessarySimpa false
namespace Go.Proofs.Ytplpboknmhgpiaa
open Go.ChangeShapes Go.WideShapes Go.ChangeAt Go.RowKit Go.Deep Go.Joins

theorem Try.cellsIntsQ : Try.prog.cellsOf 26 = 1 := by kernel_rfl
theorem Try.bytesIntsQ : Try.prog.bytesOf 26 = 24 := by kernel_rfl
section
variable {H : Type} {enc : TypeId × Value → H} {w : World} {base : Nat} {held : Bool}
theorem trod_introws {fuel : Nat} {cs : List Value} {x : DataW H × List MemPlace} (h : DataW.trod enc Try.prog w base (fun _ => true) held fuel 22 cs = some x) :
    ∃ a n c VS, cs = [.slice a n c] ∧ n = VS.length ∧ n ≤ c ∧ c ≤ maxLen ∧ IntRows w a VS ∧ (∀ p ∈ VS, ∀ z ∈ p.2.2, I64 z) ∧ (Within 22 x.1 → n * 24 ≤ reachBytes ∧ ∀ p ∈ VS, p.2.2.length * 8 ≤ reachBytes) := by
  rcases open_slice Try.underlying22 h with ⟨rfl, rfl⟩ | ⟨a, l, c, m, n, D, Pl, rfl, _, hl, hm, hmc, rfl, hi⟩
  · exact ⟨none, 0, 0, [], rfl, rfl, Nat.le_refl _, Nat.zero_le _, fun i hi => (by cases hi), by simp, fun _ => ⟨Nat.zero_le _, by simp⟩⟩
  · simp only [if_true] at hmc
    subst hmc
    rw [Try.cellsIntsQ] at hi
    have hrow : ∀ (a0 : Addr) (cs' : List Value) (f : Nat) (y : DataW H × List MemPlace), w.cells? base a0 1 = some cs' → DataW.trod enc Try.prog w base (fun _ => true) held f 26 cs' = some y → a0 = ⟨a0.block, a0.off, none⟩ ∧ ∃ q : Is, w.cell? a0 = some q.cell ∧ Ints w q.1 q.2.2 ∧ q.2.2.length ≤ 9223372036854775807 ∧ (∀ z ∈ q.2.2, I64 z) ∧ (Within 26 y.1 → q.2.2.length * 8 ≤ reachBytes) := by
      intro a0 cs' f y hc ht
      obtain ⟨a', n', c', zs, rfl, h1, h2, h3, h4, h5, h6⟩ := trod_ints ht
      obtain ⟨_, hcl, hat⟩ := World.cells?_some hc
      have h0 := hat 0 (by omega)
      rw [add_zero] at h0
      subst h1
      refine ⟨addr_of_cell (h0.trans rfl), ⟨a', c', zs⟩, h0, h4, ?_, h5, h6⟩
      simp only [maxLen] at h3
      show zs.length ≤ _
      omega
    have hone : ∀ i, i < l → ∃ q : Is, w.cell? ⟨a.block, a.off + i, none⟩ = some q.cell ∧ Ints w q.1 q.2.2 ∧ q.2.2.length ≤ 9223372036854775807 ∧ (∀ z ∈ q.2.2, I64 z) ∧ (Within 26 (D i) → q.2.2.length * 8 ≤ reachBytes) ∧ a = ⟨a.block, a.off, none⟩ := by
      intro i hil
      have ha : a = ⟨a.block, a.off, none⟩ := by
        obtain ⟨cs', hc, ht⟩ := hi 0 (by omega)
        rw [Nat.zero_mul, add_zero] at hc
        exact (hrow _ _ _ _ hc ht).1
      obtain ⟨cs', hc, ht⟩ := hi i (by omega)
      rw [ha, Addr.add_lit, Nat.mul_one] at hc
      obtain ⟨_, q, h1, h2, h3, h4, h5⟩ := hrow _ _ _ _ hc ht
      exact ⟨q, h1, h2, h3, h4, h5, ha⟩
    letI : Inhabited Is := ⟨⟨none, 0, []⟩⟩
    obtain ⟨f, hf⟩ := choose_lt hone
    have hlen : ((List.range l).map f).length = l := by simp
    refine ⟨some a, l, m, (List.range l).map f, rfl, hlen.symm, hl, hm, fun i hi' => ?_, fun y hy => ?_, fun hw => ⟨?_, fun y hy => ?_⟩⟩
    · have hil : i < l := by omega
      obtain ⟨h1, h2, h3, -, -, ha⟩ := hf i hil
      refine ⟨a.block, a.off, by rw [← ha], ?_, ?_, ?_⟩
      · simpa using h1
      · simpa using h2
      · simpa using h3
    · obtain ⟨i, hil, rfl⟩ := List.mem_map.1 hy
      obtain ⟨-, -, -, h4, -, -⟩ := hf i (by simpa using hil)
      exact h4
    · have := hw ((((List.range l).map D).length + ((List.range (m - l)).map fun j => D (l + j)).length) * 24) (by simp [DataW.weights, Try.underlying22, Try.bytesIntsQ])
      simp only [List.length_map, List.length_range] at this
      have h2 : l * 24 ≤ (l + (m - l)) * 24 := Nat.mul_le_mul_right _ (Nat.le_add_right _ _)
      omega
    · obtain ⟨i, hil, rfl⟩ := List.mem_map.1 hy
      have hil' : i < l := by simpa using hil
      obtain ⟨-, -, -, -, h5, -⟩ := hf i hil'
      exact h5 fun k hk => hw k (by
        simp only [DataW.weights, Try.underlying22, List.mem_cons, List.mem_append]
        exact .inr (.inl (weightsAll_mem hk (List.mem_map.2 ⟨i, by simpa using hil', rfl⟩))))
set_option maxRecDepth 100000 in
theorem open_introws {r : Go.Reach} {b0 : Nat} {v : Value} {d : DataW H} {p : List MemPlace} (hv : Value.okWide Try.prog w r b0 22 v) (h : DataW.Trod enc Try.prog w base (fun _ => true) held 22 v d p) (hw : Within 22 d) :
    ∃ a n c VS, v = .slice a n c ∧ n = VS.length ∧ n ≤ c ∧ c ≤ 9223372036854775807 ∧ IntRows w a VS ∧ (∀ p ∈ VS, ∀ z ∈ p.2.2, I64 z) ∧ n ≤ 17592186044416 ∧ ∀ p ∈ VS, p.2.2.length ≤ 17592186044416 := by
  obtain ⟨a0, l0, c0, rfl⟩ := okWide_slice Try.underlying22 hv
  obtain ⟨fuel, hf⟩ := h
  obtain ⟨a, n, c, ds, e, h1, h2, h3, h4, h5, h6⟩ := trod_introws hf
  simp only [Value.cells, List.cons.injEq, and_true, Value.slice.injEq] at e
  obtain ⟨rfl, rfl, rfl⟩ := e
  have hs := reach_small
  obtain ⟨k1, k2⟩ := h6 hw
  exact ⟨_, _, _, ds, rfl, h1, h2, by simpa only [maxLen] using h3, h4, h5, by omega, fun p hp => by have := k2 p hp; omega⟩
end
end Go.Proofs.Ytplpboknmhgpiaa

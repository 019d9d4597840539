/-
  The rows of CompEnds: so many numbers from one on, with a step; tables that one has built.
  Conditions: the numbers are few.
-/
import Derived.Test.YtplpboknmhgpiaaCEdCpTl
import Derived.Test.YtplpboknmhgpiaaCEdCpAw
import Derived.Test.YtplpboknmhgpiaaCEdCpMb
set_option linter.unusedVariables false
set_option linter.unusedSimpArgs false
set_option linter.unnecessarySimpa false
namespace Go.Proofs.Ytplpboknmhgpiaa
open Go.RowKit Go.MapKept Go.Shelf

/-- A row of some numbers of one's own. -/
def SomeI (B : Nat) (w : World) (a : Option Addr) (q c : Nat) : Prop := ∃ zs : List Int, zs.length = q ∧ w.ownsRow B 3 1 (.slice a q c) q (zs.map (Value.int .i64))
theorem SomeI.nil (B : Nat) (w : World) : SomeI B w none 0 0 := ⟨[], rfl, World.ownsRow_nil _ _ _ _⟩
theorem SomeI.chg0 {B : Nat} {w w' : World} {a : Option Addr} {q c : Nat} (h : SomeI B w a q c) (hc : Chg [] w w') : SomeI B w' a q c := by
  obtain ⟨zs, h1, h2⟩ := h
  exact ⟨zs, h1, hc.row h2 (fun _ _ => by simp)⟩
/-- A table of some rows of one's own. -/
def SomeR (B : Nat) (w : World) (a : Option Addr) (q c : Nat) : Prop := ∃ VS : List Is, q = VS.length ∧ OwnIs B w a c VS ∧ ∀ p ∈ VS, p.2.2.length ≤ 600
theorem SomeR.nil (B : Nat) (w : World) : SomeR B w none 0 0 := ⟨[], rfl, OwnIs.nil _ _, by simp⟩
theorem SomeR.chg0 {B : Nat} {w w' : World} {a : Option Addr} {q c : Nat} (h : SomeR B w a q c) (hc : Chg [] w w') : SomeR B w' a q c := by
  obtain ⟨VS, h1, h2, h3⟩ := h
  exact ⟨VS, h1, h2.chg0 hc, h3⟩
theorem SomeR.row {B : Nat} {w : World} {a : Option Addr} {q c : Nat} (h : SomeR B w a q c) : ∃ xs, w.ownsRow B 26 1 (.slice a q c) q xs := by
  obtain ⟨VS, rfl, h2, h3⟩ := h
  exact ⟨_, h2.row⟩
def RowF (w : World) (n : Nat) (e : Ending) (w' : World) : Prop := ∃ (a : Option Addr) (q c : Nat), e = .returned (.slice a q c) ∧ q ≤ n ∧ SomeI w.heap.size w' a q c ∧ Chg [] w w'

set_option maxRecDepth 100000 in
set_option maxHeartbeats 4000000 in
theorem row13_any (w : World) (f s n : Nat) (hf : f ≤ 1000) (hs : 1 ≤ s ∧ s ≤ 1000) (hn : n ≤ 600) :
    Calls Try.prog 21 #[.int .i64 f, .int .i64 s, .int .i64 n] w (RowF w n) := by
  obtain ⟨i0, hi, hz0, hz1, hz2⟩ := info_parts Try.infoInt
  go_enter Try.func21, Try.ntmps21
  go_wp2_with fail
  go_loopg [8, 7] n (fun d iv ov wr => ∃ (i q c' : Nat) (a' : Option Addr), d = n + f - i ∧ i ≤ 2000 ∧ f ≤ i ∧ q ≤ n ∧ q ≤ i ∧ iv = .int .i64 i ∧ ov = .slice a' q c' ∧ Hid (SomeI w.heap.size wr a' q c' ∧ Chg [] w wr))
  case atStart => exact ⟨f, 0, 0, none, by omega, by omega, Nat.le_refl _, Nat.zero_le _, Nat.zero_le _, rfl, rfl, Lib.hid ⟨SomeI.nil _ _, Chg.refl _ _⟩⟩
  case round =>
    obtain ⟨i, q, c', a', rfl, hi2, hfi, hqn, hqi, rfl, rfl, hin2⟩ := hrel
    obtain ⟨wq, rfl⟩ : ∃ wz, wz = wr := ⟨_, rfl⟩
    by_cases hlt : i < n
    · obtain ⟨zs, hzl, hrow⟩ := hin2.out.1
      have h1' : ∀ u ∈ [Value.int .i64 (i : Int)], u.oneCell' = true := by simp [Value.oneCell']
      have h2' : q + 1 ≤ maxLen ∧ (q + 1) * 8 ≤ 140737488355328 := by simp only [maxLen]; omega
      have hnew := cells_at (w := wq.alloc (.cells #[.int .i64 i] 3)) (heap_alloc_same _ _)
      have hcA := (Chg.refl [] wq).alloc (.cells #[.int .i64 i] 3)
      have H4 := Lib.hid (And.intro (hcA.row hrow (fun _ _ => by simp)) (And.intro h1' (And.intro h2' (And.intro hnew (And.intro (hin2.out.2.tr hcA).size (And.intro (hin2.out.2.tr hcA) hzl))))))
      clear hrow h1' h2' hnew hcA hzl
      go_wp2_with (at_builtin; refine wpList_append_own_at _ rfl _ _ 26 rfl w.heap.size 3 i0 _ 1 8 Try.underlying26 hi hz0 hz1 hz2 rfl (by decide) (.slice a' q c') q (zs.map (Value.int .i64)) rfl H4.out.1 ⟨wq.heap.size, 0, none⟩ 1 1 [.int .i64 i] rfl rfl H4.out.2.2.2.1 H4.out.2.1 H4.out.2.2.1.1 H4.out.2.2.1.2 H4.out.2.2.2.2.1 ?_; intro v' w5 hr5 hg5 hn5 hb5; obtain ⟨a5, c5, rfl⟩ := ownsRow_slice hr5; have HW := Lib.hid (And.intro hr5 hg5); clear hr5 hg5 hn5 hb5)
      go_roundg (n + f - (i + s))
      case measure => omega
      case rel =>
        refine ⟨i + s, q + 1, c5, a5, rfl, by omega, by omega, by omega, by omega, by go_num, rfl, Lib.hid ⟨⟨zs ++ [(i : Int)], by rw [List.length_append, H4.out.2.2.2.2.2.2]; rfl, by rw [List.map_append]; exact HW.out.1⟩, ?_⟩⟩
        exact H4.out.2.2.2.2.2.1.grown HW.out.2 (fun j hj => .inr (row_beyond H4.out.1 hj).1)
    · go_wp2_with fail
      go_ret
      exact ⟨a', q, c', rfl, hqn, hin2.out.1, hin2.out.2⟩

/-- tells of a table that one has built. -/
theorem tellsR_any {B : Nat} (w : World) (a : Option Addr) (q c : Nat) (h : SomeR B w a q c) (hq : q ≤ 600) (z1 z2 : Int) (i1 : I64 z1) (i2 : I64 z2) :
    Calls Try.prog 20 #[.slice a q c, .int .i64 z1, .int .i64 z2] w fun e w' => e = .returned (.bool true) ∧ Chg [] w w' := by
  obtain ⟨VS, rfl, h2, h3⟩ := h
  exact tells13_any w a _ c VS rfl h2.cap h2.rows hq h3 z1 z2 i1 i2

/-- One row more. -/
theorem SomeR.snoc {B : Nat} {w w1 w2 w3 : World} {a a' la : Option Addr} {q c c' lq lc : Nat} {VS : List Is} (hq : q = VS.length) (h : OwnIs B w a c VS) (hm : ∀ p ∈ VS, p.2.2.length ≤ 600) (hB : B ≤ w.heap.size) (hl : SomeI w.heap.size w1 la lq lc) (hlq : lq ≤ 600) (hc1 : Chg [] w w1) (hc2 : Chg [] w1 w2)
    (hr : w3.ownsRow B 26 1 (.slice a' (q + 1) c') (q + 1) (VS.map Is.cell ++ [.slice la lq lc])) (hg : w2.grownBy w3 (Value.slice a q c).ownBlock) : SomeR B w3 a' (q + 1) c' := by
  subst hq
  obtain ⟨zs, rfl, hz⟩ := hl
  refine ⟨VS ++ [(la, lc, zs)], by simp, ?_, fun p hp => ?_⟩
  · exact ((h.chg0 hc1).chg0 hc2).snoc (B' := w.heap.size) (p := (la, lc, zs)) hB (hc2.row hz (fun _ _ => by simp)) (h.lt) hr hg
  · rcases List.mem_append.1 hp with k | k
    · exact hm p k
    · rw [List.mem_singleton.1 k]; exact hlq
/-- The world's growth by one row more. -/
theorem SomeR.grow {B : Nat} {w w1 w2 w3 : World} {a : Option Addr} {q c : Nat} {xs : List Value} (hc1 : Chg [] w w1) (hc2 : Chg [] w1 w2) (hr : w2.ownsRow B 26 1 (.slice a q c) q xs) (hg : w2.grownBy w3 (Value.slice a q c).ownBlock) {W : World} (hW : Chg [] W w) (hWB : W.heap.size ≤ B) : Chg [] W w3 :=
  ((hW.tr hc1).tr hc2).grown hg (fun k hk => .inr (Nat.le_trans hWB (row_beyond hr hk).1))

theorem row13_int (w : World) (f s n : Int) (m : Nat) (hf : 0 ≤ f ∧ f ≤ 1000) (hs : 1 ≤ s ∧ s ≤ 1000) (hn : 0 ≤ n ∧ n ≤ m) (hm : m ≤ 600) :
    Calls Try.prog 21 #[.int .i64 f, .int .i64 s, .int .i64 n] w (RowF w m) := by
  obtain ⟨f', rfl⟩ := Int.eq_ofNat_of_zero_le hf.1
  obtain ⟨s', rfl⟩ := Int.eq_ofNat_of_zero_le (a := s) (by omega)
  obtain ⟨n', rfl⟩ := Int.eq_ofNat_of_zero_le hn.1
  exact (row13_any w f' s' n' (by omega) (by omega) (by omega)).mono fun e w' ⟨a, q, c, h1, h2, h3, h4⟩ => ⟨a, q, c, h1, by omega, h3, h4⟩
theorem tellsR_int {B : Nat} (w : World) (a : Option Addr) (q c : Nat) (h : SomeR B w a q c) (hq : q ≤ 600) (z1 z2 : Int) (i1 : -9223372036854775808 ≤ z1 ∧ z1 ≤ 9223372036854775807) (i2 : -9223372036854775808 ≤ z2 ∧ z2 ≤ 9223372036854775807) :
    Calls Try.prog 20 #[.slice a q c, .int .i64 z1, .int .i64 z2] w fun e w' => e = .returned (.bool true) ∧ Chg [] w w' := tellsR_any w a q c h hq z1 z2 i1 i2
theorem at_cell {w : World} {G : Nat} {t : TypeId} {m : Nat × Nat} (h : w.heap[G]? = some (.cells #[.int .i64 (-9223372036854775808), .int .i64 (-1), .int .i64 0, .int .i64 5, .int .i64 63, .int .i64 64, .int .i64 9223372036854775807] t m)) (q : Nat) (hq : q < 7) :
    ∃ z : Int, w.cell? ⟨G, q, none⟩ = some (.int .i64 z) ∧ -9223372036854775808 ≤ z ∧ z ≤ 9223372036854775807 := by
  rcases (show q = 0 ∨ q = 1 ∨ q = 2 ∨ q = 3 ∨ q = 4 ∨ q = 5 ∨ q = 6 by omega) with rfl | rfl | rfl | rfl | rfl | rfl | rfl <;> rw [cell_of_cells h] <;> exact ⟨_, rfl, by decide, by decide⟩
theorem heap_at (W : World) (o : Obj) {k : Nat} (h : W.heap.size = k) : (W.alloc o).heap[k]? = some o := by subst h; exact heap_alloc_same W o
/-- A value that is a table of rows. -/
def TabL (w : World) (v : Value) : Prop := ∃ (a : Option Addr) (n c : Nat) (VS : List Is), v = .slice a n c ∧ n = VS.length ∧ (n ≤ c ∧ c ≤ 9223372036854775807) ∧ n ≤ 600 ∧ IntRows w a VS ∧ ∀ p ∈ VS, p.2.2.length ≤ 600
theorem TabL.chg0 {w w' : World} {v : Value} (h : TabL w v) (hc : Chg [] w w') : TabL w' v := by
  obtain ⟨a, n, c, VS, h1, h2, h3, h4, h5, h6⟩ := h
  exact ⟨a, n, c, VS, h1, h2, h3, h4, h5.keep hc.kp, h6⟩
theorem tabL_nil (w : World) : TabL w (.slice none 0 0) := ⟨none, 0, 0, [], rfl, rfl, by omega, by omega, fun i hi => absurd hi (Nat.not_lt_zero _), by simp⟩
theorem tabL_cells {w : World} {g : Nat} {t : TypeId} {m : Nat × Nat} (VS : List Is) (h : w.heap[g]? = some (.cells (VS.map Is.cell).toArray t m)) (hl : VS.length ≤ 600) (hz : ∀ p ∈ VS, Ints w p.1 p.2.2 ∧ p.2.2.length ≤ 600) : TabL w (.slice (some ⟨g, 0, none⟩) VS.length VS.length) := by
  refine ⟨_, _, _, VS, rfl, rfl, by omega, hl, fun i hi => ⟨g, 0, rfl, ?_, (hz _ (List.getElem_mem hi)).1, by have := (hz _ (List.getElem_mem hi)).2; omega⟩, fun p hp => (hz p hp).2⟩
  rw [Nat.zero_add, cell_of_cells h]; simp [hi]
theorem ints_nil (w : World) (a : Option Addr) : Ints w a [] := fun i hi => absurd hi (Nat.not_lt_zero _)
theorem tabL_nils {w : World} {g n : Nat} (h : w.heap[g]? = some (rowN n)) (hn : n ≤ 600) : TabL w (.slice (some ⟨g, 0, none⟩) n n) := by
  have := tabL_cells (w := w) (g := g) (List.replicate n ((none, 0, []) : Is)) (by rw [h]; unfold rowN; rw [List.map_replicate]; rfl) (by rw [List.length_replicate]; exact hn) (fun p hp => by rw [List.eq_of_mem_replicate hp]; exact ⟨ints_nil _ _, by simp⟩)
  rwa [List.length_replicate] at this
theorem tellsL_any (w : World) (a : Option Addr) (n c : Nat) (h : TabL w (.slice a n c)) (z1 z2 : Int) (i1 : -9223372036854775808 ≤ z1 ∧ z1 ≤ 9223372036854775807) (i2 : -9223372036854775808 ≤ z2 ∧ z2 ≤ 9223372036854775807) :
    Calls Try.prog 20 #[.slice a n c, .int .i64 z1, .int .i64 z2] w fun e w' => e = .returned (.bool true) ∧ Chg [] w w' := by
  obtain ⟨a', n', c', VS, h1, h2, h3, h4, h5, h6⟩ := h
  cases h1
  exact tells13_any w a n c VS h2 h3 h5 h4 h6 z1 z2 i1 i2
end Go.Proofs.Ytplpboknmhgpiaa

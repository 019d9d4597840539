/-
  Bodies of few nodes: the kit's constructors; what layer 11's law builds of them.
  Conditions: the bodies' numbers are few.
-/
import Derived.Test.YtibgfgfmljhimaaGreatWe9NE0
set_option linter.unusedVariables false
set_option linter.unusedSimpArgs false
set_option linter.unnecessarySimpa false
namespace Go.Proofs.YtibgfgfmljhimaaGreat
open Go.RowKit Go.MapKept Go.Shelf

def setN (c0 c1 c2 c3 : Int) : Nd := { bareN 3 with c0 := c0, c1 := c1, c2 := c2, c3 := c3 }
theorem fit_setN (c0 c1 c2 c3 : Int) : Fit [setN c0 c1 c2 c3] := fit_one rfl (by show I64 3; decide) (by show I64 0; decide) (by show I64 0; decide) (by show (0 : Nat) ≤ 1000; omega)
theorem fit_bare {k : Int} (h : I64 k) : Fit [bareN k] := fit_one rfl h (by show I64 0; decide) (by show I64 0; decide) (by show (0 : Nat) ≤ 1000; omega)
theorem fit_word {s : ByteArray} (h : s.size ≤ 1000) : Fit [wordN s] := fit_one rfl (by show I64 4; decide) (by show I64 0; decide) (by show I64 0; decide) h
theorem fit_call {r l : Int} (h1 : I64 r) (h2 : I64 l) : Fit [callN r l] := fit_one rfl (by show I64 5; decide) h1 h2 (by show (0 : Nat) ≤ 1000; omega)

set_option maxRecDepth 100000 in
set_option maxHeartbeats 1000000 in
theorem Leaf_fit (w : World) (k : Int) (hk : I64 k) : Calls Tryz.prog 18 #[.int .i64 k] w (FitBody 1 w) := by
  go_enter Tryz.func18, Tryz.ntmps18
  go_wp2_with fail
  go_ret
  exact ⟨some ⟨w.heap.size, 0, none⟩, 1, 1, rfl, Nat.le_refl _, fbody_one (x := bareN k) rfl (fit_bare hk) (heap_alloc_same w _), (Chg.refl _ _).alloc _⟩
set_option maxRecDepth 100000 in
set_option maxHeartbeats 1000000 in
theorem Word_fit (w : World) (s : ByteArray) (hs : s.size ≤ 1000) : Calls Tryz.prog 16 #[.string s] w (FitBody 1 w) := by
  go_enter Tryz.func16, Tryz.ntmps16
  go_wp2_with fail
  go_ret
  exact ⟨some ⟨w.heap.size, 0, none⟩, 1, 1, rfl, Nat.le_refl _, fbody_one (x := wordN s) rfl (fit_word hs) (heap_alloc_same w _), (Chg.refl _ _).alloc _⟩
set_option maxRecDepth 100000 in
set_option maxHeartbeats 1000000 in
theorem Call_fit (w : World) (r l : Int) (hr : I64 r) (hl : I64 l) : Calls Tryz.prog 19 #[.int .i64 r, .int .i64 l] w (FitBody 1 w) := by
  go_enter Tryz.func19, Tryz.ntmps19
  go_wp2_with fail
  go_ret
  exact ⟨some ⟨w.heap.size, 0, none⟩, 1, 1, rfl, Nat.le_refl _, fbody_one (x := callN r l) rfl (fit_call hr hl) (heap_alloc_same w _), (Chg.refl _ _).alloc _⟩
theorem cells4 {w : World} {b : Nat} {v0 v1 v2 v3 : Value} {t : TypeId} {m : Nat × Nat} (h : w.heap[b]? = some (.cells #[v0, v1, v2, v3] t m)) : w.cell? ⟨b, 0, none⟩ = some v0 ∧ w.cell? ⟨b, 1, none⟩ = some v1 ∧ w.cell? ⟨b, 2, none⟩ = some v2 ∧ w.cell? ⟨b, 3, none⟩ = some v3 := ⟨cell_of_cells h 0, cell_of_cells h 1, cell_of_cells h 2, cell_of_cells h 3⟩
set_option maxRecDepth 100000 in
set_option maxHeartbeats 8000000 in
theorem Among_fit (w : World) (s : ByteArray) (hs : s.size ≤ 1000) : Calls Tryz.prog 33 #[.string s] w (FitBody 1 w) := by
  go_enter Tryz.func33, Tryz.ntmps33
  go_wp2_with fail
  go_loopg [4] s.size (fun dd iv wr => ∃ i : Nat, dd = s.size - i ∧ i ≤ s.size ∧ iv = .int .i64 i ∧ Hid (∃ c0 c1 c2 c3, wr.heap[w.heap.size]? = some (.cells #[.int .u64 c0, .int .u64 c1, .int .u64 c2, .int .u64 c3] 51 (0, 0)) ∧ Chg [] w wr))
  case atStart => exact ⟨0, rfl, Nat.zero_le _, rfl, Lib.hid ⟨0, 0, 0, 0, heap_alloc_same _ _, (Chg.refl _ _).alloc _⟩⟩
  case round =>
    obtain ⟨i, rfl, hi, rfl, hin⟩ := hrel
    obtain ⟨wq, rfl⟩ : ∃ wz, wz = wr := ⟨_, rfl⟩
    obtain ⟨c0, c1, c2, c3, hb, hc⟩ := hin.out
    have HC := Lib.hid (And.intro hb hc)
    obtain ⟨x0, x1, x2, x3⟩ := cells4 hb
    have f0 := free_of_cells hb 0
    have f1 := free_of_cells hb 1
    have f2 := free_of_cells hb 2
    have f3 := free_of_cells hb 3
    clear hb hc hin
    by_cases hlt : i < s.size
    · have hx := s[i].toNat_lt
      rcases (show (s[i].toNat : Int) / 64 = 0 ∨ (s[i].toNat : Int) / 64 = 1 ∨ (s[i].toNat : Int) / 64 = 2 ∨ (s[i].toNat : Int) / 64 = 3 by omega) with e | e | e | e
      · go_wp2_with fail
        go_region
        go_wp2_with fail
        obtain ⟨z, hz⟩ : ∃ z, z = bits BinOp.or IntKind.u64 c0 (IntKind.u64.wrap (2 ^ (s[i].toNat % 64))) := ⟨_, rfl⟩
        rw [← hz]
        go_roundg (s.size - (i + 1))
        case measure => omega
        case rel => exact ⟨i + 1, rfl, by omega, by go_num, Lib.hid ⟨z, c1, c2, c3, heap_setCell_same HC.out.1 0 _, (HC.out.2.setCell (p := ⟨w.heap.size, 0, none⟩) (.inr (Nat.le_refl _)) _).drew⟩⟩
      · go_wp2_with fail
        go_region
        go_wp2_with fail
        obtain ⟨z, hz⟩ : ∃ z, z = bits BinOp.or IntKind.u64 c1 (IntKind.u64.wrap (2 ^ (s[i].toNat % 64))) := ⟨_, rfl⟩
        rw [← hz]
        go_roundg (s.size - (i + 1))
        case measure => omega
        case rel => exact ⟨i + 1, rfl, by omega, by go_num, Lib.hid ⟨c0, z, c2, c3, heap_setCell_same HC.out.1 1 _, (HC.out.2.setCell (p := ⟨w.heap.size, 1, none⟩) (.inr (Nat.le_refl _)) _).drew⟩⟩
      · go_wp2_with fail
        go_region
        go_wp2_with fail
        obtain ⟨z, hz⟩ : ∃ z, z = bits BinOp.or IntKind.u64 c2 (IntKind.u64.wrap (2 ^ (s[i].toNat % 64))) := ⟨_, rfl⟩
        rw [← hz]
        go_roundg (s.size - (i + 1))
        case measure => omega
        case rel => exact ⟨i + 1, rfl, by omega, by go_num, Lib.hid ⟨c0, c1, z, c3, heap_setCell_same HC.out.1 2 _, (HC.out.2.setCell (p := ⟨w.heap.size, 2, none⟩) (.inr (Nat.le_refl _)) _).drew⟩⟩
      · go_wp2_with fail
        go_region
        go_wp2_with fail
        obtain ⟨z, hz⟩ : ∃ z, z = bits BinOp.or IntKind.u64 c3 (IntKind.u64.wrap (2 ^ (s[i].toNat % 64))) := ⟨_, rfl⟩
        rw [← hz]
        go_roundg (s.size - (i + 1))
        case measure => omega
        case rel => exact ⟨i + 1, rfl, by omega, by go_num, Lib.hid ⟨c0, c1, c2, z, heap_setCell_same HC.out.1 3 _, (HC.out.2.setCell (p := ⟨w.heap.size, 3, none⟩) (.inr (Nat.le_refl _)) _).drew⟩⟩
    · obtain rfl : i = s.size := by omega
      go_wp2_with fail
      go_ret
      exact ⟨some ⟨wq.heap.size, 0, none⟩, 1, 1, rfl, Nat.le_refl _, fbody_one (x := setN c0 c1 c2 c3) rfl (fit_setN _ _ _ _) (heap_alloc_same wq _), HC.out.2.alloc _⟩

theorem Of_fit (w : World) (k : Int) (hk : I64 k) (a : Option Addr) (n c s : Nat) (KL : List (List Nd)) (hn : n = KL.length) (hb : Bodies w a KL) (hf : ∀ b ∈ KL, Fit b) (hs : sumL KL = s) (h1 : s ≤ 2000) (h2 : n ≤ 100) :
    Calls Tryz.prog 28 #[.int .i64 k, .slice a n c] w (FitBody (s + 1) w) := by
  refine (Of_any w k a n c KL hn hb (fun b hm => (hf b hm).small ?_) (by omega) (by omega)).mono fun e w' h => h.fit (fit_of hk hf (by omega)) (by rw [ofL_len, hs]; exact Nat.le_refl _)
  have hle : ∀ (l : List (List Nd)), b ∈ l → b.length ≤ sumL l := by
    intro l
    induction l with
    | nil => intro h; cases h
    | cons x xs ih =>
      intro h
      simp only [sumL, List.map_cons, List.sum_cons]
      rcases List.mem_cons.1 h with rfl | h
      · omega
      · have := ih h
        simp only [sumL] at this
        omega
  have := hle KL hm
  omega
theorem In_fit (w : World) (k : Int) (hk : I64 k) (a : Option Addr) (n c : Nat) (h : FBody w a n c) (h1 : n ≤ 1000) : Calls Tryz.prog 20 #[.int .i64 k, .slice a n c] w (FitBody (n + 1) w) := by
  obtain ⟨ns, rfl, g2, g3⟩ := h.nodes
  refine (In_any w k a c ns g2 (g3.small (by omega))).mono fun e w' h => h.fit (fit_of hk (fun b hb => ?_) (by simp)) (by rw [ofL_len]; simp [sumL])
  simp only [List.mem_singleton] at hb
  subst hb
  exact g3
theorem Chain_fit (w : World) (a : Option Addr) (n c : Nat) (h : FBody w a n c) (a' : Option Addr) (n' c' : Nat) (h' : FBody w a' n' c') (h1 : n + n' ≤ 1000) : Calls Tryz.prog 21 #[.slice a n c, .slice a' n' c'] w (FitBody (n + n' + 1) w) := by
  obtain ⟨ns, rfl, g2, g3⟩ := h.nodes
  obtain ⟨ms, rfl, g2', g3'⟩ := h'.nodes
  refine (Chain_any w a c ns a' c' ms g2 (g3.small (by omega)) g2' (g3'.small (by omega)) (by omega)).mono fun e w' h => h.fit (fit_of (by decide) (fun b hb => ?_) (by simp)) (by rw [ofL_len]; simp [sumL])
  simp only [List.mem_cons, List.not_mem_nil, or_false] at hb
  rcases hb with rfl | rfl
  · exact g3
  · exact g3'
theorem First_fit (w : World) (a : Option Addr) (n c : Nat) (h : FBody w a n c) (a' : Option Addr) (n' c' : Nat) (h' : FBody w a' n' c') (h1 : n + n' ≤ 1000) : Calls Tryz.prog 34 #[.slice a n c, .slice a' n' c'] w (FitBody (n + n' + 1) w) := by
  obtain ⟨ns, rfl, g2, g3⟩ := h.nodes
  obtain ⟨ms, rfl, g2', g3'⟩ := h'.nodes
  refine (First_any w a c ns a' c' ms g2 (g3.small (by omega)) g2' (g3'.small (by omega)) (by omega)).mono fun e w' h => h.fit (fit_of (by decide) (fun b hb => ?_) (by simp)) (by rw [ofL_len]; simp [sumL])
  simp only [List.mem_cons, List.not_mem_nil, or_false] at hb
  rcases hb with rfl | rfl
  · exact g3
  · exact g3'
/-- A node over 3 bodies, in a row just made. -/
theorem Of3_fit (w : World) (k : Int) (hk : I64 k) (a0 : Option Addr) (n0 c0 : Nat) (h0 : FBody w a0 n0 c0) (a1 : Option Addr) (n1 c1 : Nat) (h1 : FBody w a1 n1 c1) (a2 : Option Addr) (n2 c2 : Nat) (h2 : FBody w a2 n2 c2) (hl : n0 + n1 + n2 ≤ 1000) {K : Nat} (hK : w.heap[K]? = some (.cells #[.slice a0 n0 c0, .slice a1 n1 c1, .slice a2 n2 c2] 23 (0, 0))) :
    Calls Tryz.prog 28 #[.int .i64 k, .slice (some ⟨K, 0, none⟩) 3 3] w (FitBody (n0 + n1 + n2 + 1) w) := by
  obtain ⟨x0, rfl, p0, q0⟩ := h0.nodes
  obtain ⟨x1, rfl, p1, q1⟩ := h1.nodes
  obtain ⟨x2, rfl, p2, q2⟩ := h2.nodes
  refine Of_fit w k hk _ 3 3 (x0.length + x1.length + x2.length) [x0, x1, x2] rfl (bodies_made (vs := [(a0, c0), (a1, c1), (a2, c2)]) rfl (fun i h => ?_) hK) (fun b hb => ?_) (by simp [sumL]; omega) (by omega) (by decide)
  · have hi : i = 0 ∨ i = 1 ∨ i = 2 := by simp at h; omega
    rcases hi with rfl | rfl | rfl
    · exact p0
    · exact p1
    · exact p2
  · simp only [List.mem_cons, List.not_mem_nil, or_false] at hb
    rcases hb with rfl | rfl | rfl
    · exact q0
    · exact q1
    · exact q2

end Go.Proofs.YtibgfgfmljhimaaGreat
set_option linter.unusedVariables false
set_option linter.unusedSimpArgs false
set_option linter.unnecessarySimpa false
namespace Go.Proofs.YtibgfgfmljhimaaGreat
open Go.RowKit Go.MapKept Go.Shelf

theorem FG.below {B : Nat} {w : World} {b1 : Option Addr} {n d1 : Nat} {b2 : Option Addr} {m d2 : Nat} {rs : List Rl} {L : List Cp} (h : FG B w b1 n d1 b2 m d2 rs L) : FG 0 w b1 n d1 b2 m d2 rs L :=
  ⟨h.ln, h.lm, row_base h.rules (Nat.zero_le _), h.nodes.below (Nat.zero_le _), h.wf, h.fn, h.fm, h.fk⟩
theorem bodies2 {w : World} {a0 : Option Addr} {n0 c0 : Nat} (h0 : FBody w a0 n0 c0) (l0 : n0 ≤ 50) {a1 : Option Addr} {n1 c1 : Nat} (h1 : FBody w a1 n1 c1) (l1 : n1 ≤ 50) {K : Nat} (hK : w.heap[K]? = some (.cells #[.slice a0 n0 c0, .slice a1 n1 c1] 23 (0, 0))) : BodiesF w (some ⟨K, 0, none⟩) 2 := by
  refine bodiesF_at (by decide) (fun i hi => ?_)
  rcases (show i = 0 ∨ i = 1 by omega) with rfl | rfl
  · exact ⟨K, 0, _, _, _, rfl, cell_of_cells hK 0, h0, l0⟩
  · exact ⟨K, 0, _, _, _, rfl, cell_of_cells hK 1, h1, l1⟩
theorem FG.chg {B : Nat} {w w' : World} {S : List Nat} {b1 : Option Addr} {n d1 : Nat} {b2 : Option Addr} {m d2 : Nat} {rs : List Rl} {L : List Cp} (h : FG B w b1 n d1 b2 m d2 rs L) (hc : Chg S w w') (hS : ∀ k ∈ S, NotRow w 43 k ∧ NotRow w 53 k ∧ NotRow w 3 k) : FG B w' b1 n d1 b2 m d2 rs L :=
  ⟨h.ln, h.lm, hc.rowOf h.rules (fun k hk => (hS k hk).1), h.nodes.chg hc (fun k hk => (hS k hk).2), h.wf, h.fn, h.fm, h.fk⟩
theorem BodiesF.chg0 {w w' : World} {a : Option Addr} {n : Nat} (h : BodiesF w a n) (hc : Chg [] w w') : BodiesF w' a n := by
  obtain ⟨KL, h1, h2, h3⟩ := h
  exact ⟨KL, h1, h2.keep hc.kp, h3⟩
theorem two_set9 {W : World} {b : Nat} {u0 u1 : Value} {t : TypeId} (h : W.heap[b]? = some (.cells #[u0, u1] t (0, 0))) (v0 v1 : Value) : ∃ w', w' = (W.setCell ⟨b, 0, none⟩ v0).setCell ⟨b, 1, none⟩ v1 ∧ w'.heap[b]? = some (.cells #[v0, v1] t (0, 0)) ∧ Chg [b] W w' := by
  refine ⟨_, rfl, ?_, ((Chg.refl [b] W).setCell (p := ⟨b, 0, none⟩) (.inl (by simp)) _).setCell (p := ⟨b, 1, none⟩) (.inl (by simp)) _⟩
  have h1 := heap_setCell_same h 0 v0
  have h2 := heap_setCell_same h1 1 v1
  exact h2
theorem bodies3 {w : World} {a0 : Option Addr} {n0 c0 : Nat} (h0 : FBody w a0 n0 c0) (l0 : n0 ≤ 50) {a1 : Option Addr} {n1 c1 : Nat} (h1 : FBody w a1 n1 c1) (l1 : n1 ≤ 50) {a2 : Option Addr} {n2 c2 : Nat} (h2 : FBody w a2 n2 c2) (l2 : n2 ≤ 50) {K : Nat} (hK : w.heap[K]? = some (.cells #[.slice a0 n0 c0, .slice a1 n1 c1, .slice a2 n2 c2] 23 (0, 0))) : BodiesF w (some ⟨K, 0, none⟩) 3 := by
  refine bodiesF_at (by decide) (fun i hi => ?_)
  rcases (show i = 0 ∨ i = 1 ∨ i = 2 by omega) with rfl | rfl | rfl
  · exact ⟨K, 0, _, _, _, rfl, cell_of_cells hK 0, h0, l0⟩
  · exact ⟨K, 0, _, _, _, rfl, cell_of_cells hK 1, h1, l1⟩
  · exact ⟨K, 0, _, _, _, rfl, cell_of_cells hK 2, h2, l2⟩
theorem gram_none (w : World) : GramAt w none 0 0 none 0 0 ⟨[], []⟩ ∧ Reach ⟨[], []⟩ :=
  ⟨⟨rfl, Nat.le_refl _, Nat.zero_le _, (fun i h => by cases h), rfl, Nat.le_refl _, Nat.zero_le _, (fun i h => by cases h), ⟨(fun x hx => by cases hx), (fun x hx => by cases hx), (fun x hx => by cases hx)⟩⟩, by decide, by decide, fun x hx => by cases hx⟩

end Go.Proofs.YtibgfgfmljhimaaGreat

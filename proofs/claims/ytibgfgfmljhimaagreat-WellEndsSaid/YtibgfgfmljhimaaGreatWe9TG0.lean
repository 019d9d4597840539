/-
  ApartInts says that rows of numbers lie apart, and writes over them alone.
  Conditions: the rows are rows of their own, all apart; they are not too long.
-/
import Derived.Test.YtibgfgfmljhimaaGreatWe9Ap1
import Derived.Test.YtibgfgfmljhimaaGreatWe9Ap2
import Derived.Test.YtibgfgfmljhimaaGreatWe9Bp4
import Derived.Test.YtibgfgfmljhimaaGreatWe9GCol
import Derived.Test.YtibgfgfmljhimaaGreatWe9Tf2
set_option linter.unusedVariables false
set_option linter.unusedSimpArgs false
set_option linter.unnecessarySimpa false
namespace Go.Proofs.YtibgfgfmljhimaaGreat
open Go.RowKit Go.MapKept Go.Shelf

/-- A bag that holds rows of numbers alone. -/
def bagAt (w : World) (B : Nat) (a : Option Addr) (k c : Nat) : Prop := w.heap[B]? = some (.cells #[.slice none 0 0, .slice none 0 0, .slice a k c, .slice none 0 0, .slice none 0 0, .slice none 0 0, .slice none 0 0, .slice none 0 0, .slice none 0 0, .slice none 0 0, .slice none 0 0, .slice none 0 0, .slice none 0 0, .slice none 0 0] 103 (0, 0))
def PutI (w : World) (B base : Nat) (k : Nat) (xs : List Value) (r : IR) (e : Ending) (w' : World) : Prop :=
  e = .returned (.tuple #[]) ∧ ∃ a' c', bagAt w' B a' (k + 1) c' ∧ w'.ownsRow base 48 1 (.slice a' (k + 1) c') (k + 1) (xs ++ [r.v]) ∧ ∀ w0 : World, Chg [] w0 w → w0.heap.size ≤ base → w0.heap.size ≤ B → Chg [] w0 w'

set_option maxRecDepth 100000 in
set_option maxHeartbeats 2000000 in
theorem putInts_any (w : World) (B base : Nat) (a : Option Addr) (k c : Nat) (xs : List Value) (r : IR) (hb : bagAt w B a k c) (hrow : w.ownsRow base 48 1 (.slice a k c) k xs) (hbase : base ≤ w.heap.size) (hk : k ≤ 400000) :
    Calls Tryz.prog 92 #[.pointer (some ⟨B, 0, none⟩), .slice r.a r.n r.c] w (PutI w B base k xs r) := by
  obtain ⟨j0, hj0, hy0, hy1, hy2⟩ := info_parts Tryz.infoRowI
  unfold bagAt at hb
  have x2 : w.cell? ⟨B, 2, none⟩ = some (.slice a k c) := cell_of_cells hb 2
  have hlt := lt_of_block hb
  have hca := (Chg.refl [] w).alloc (.cells #[.slice r.a r.n r.c] 48)
  have hrow2 := hca.row hrow (fun _ _ => by simp)
  have hnew := cells_at (w := w.alloc (.cells #[.slice r.a r.n r.c] 48)) (heap_alloc_same _ _)
  have h1 : ∀ u ∈ [Value.slice r.a r.n r.c], u.oneCell' = true := by simp [Value.oneCell']
  have h2 : k + 1 ≤ maxLen ∧ (k + 1) * 24 ≤ 140737488355328 := by simp only [maxLen]; omega
  have hb2 := hca.heap hb (by simp)
  have HA := Lib.hid (And.intro hrow2 (And.intro hnew (And.intro h1 (And.intro h2 (And.intro hb2 (And.intro hca hrow))))))
  have hbs : base ≤ (w.alloc (.cells #[.slice r.a r.n r.c] 48)).heap.size := Nat.le_trans hbase hca.size
  clear hrow2 hnew h1 h2 hb2 hca hb hrow
  go_enter Tryz.func92, Tryz.ntmps92
  go_wp2_with (at_builtin; refine wpList_append_own_at _ rfl _ _ 60 rfl base 48 j0 _ 1 24 Tryz.underlying60 hj0 hy0 hy1 hy2 rfl (by decide) (.slice a k c) k xs rfl HA.out.1 ⟨w.heap.size, 0, none⟩ 1 1 [.slice r.a r.n r.c] rfl rfl HA.out.2.1 HA.out.2.2.1 HA.out.2.2.2.1.1 HA.out.2.2.2.1.2 hbs ?_; intro v' w5 hr5 hg5 hn5 hb5; obtain ⟨a5, c5, rfl⟩ := ownsRow_slice hr5; have hB5 := grown_heap hg5 HA.out.2.2.2.2.1 (ownsRow_ne HA.out.1 HA.out.2.2.2.2.1 (by decide)); have q2 : w5.cell? ⟨B, 2, none⟩ = some (.slice a k c) := cell_of_cells hB5 2; have f2 := free_of_cells hB5 2; have HW := Lib.hid (And.intro hr5 (And.intro hg5 hB5)); clear hr5 hg5 hn5 hb5 hB5)
  refine bodyPost_ret (v := .tuple #[]) (by simp [results, Tryz.results92, go_sem]) rfl ?_
  have hset := heap_setCell_same HW.out.2.2 2 (.slice a5 (k + 1) c5)
  have hcS := (Chg.refl [B] w5).setCell (p := ⟨B, 2, none⟩) (.inl (by simp)) (.slice a5 (k + 1) c5)
  refine ⟨rfl, a5, c5, by simpa [bagAt] using hset, hcS.rowOf HW.out.1 (fun x hx => by simp only [List.mem_singleton] at hx; subst hx; exact .of_cells HW.out.2.2 (by decide)), fun w0 h0 hb0 hB0 => ?_⟩
  exact ((h0.tr HA.out.2.2.2.2.2.1).grown HW.out.2.1 (fun x hx => .inr (by have := (row_beyond HA.out.1 hx).1; omega))).setCell (p := ⟨B, 2, none⟩) (.inr hB0) _

set_option maxRecDepth 100000 in
set_option maxHeartbeats 8000000 in
theorem apartI_any (w : World) (B : Nat) (a : Option Addr) (N c : Nat) (S : List Nat) (R : Nat → IR) (hN : N ≤ 400000) (hlen : ∀ j, j < N → (R j).n ≤ 1000000000) (hb : bagAt w B a N c) (hls : Outer w a c N R) (hap : Apart N w S R) (hS : ∀ x ∈ S, x < w.heap.size) (hBS : B ∉ S) :
    Calls Tryz.prog 93 #[.pointer (some ⟨B, 0, none⟩)] w fun e w' => e = .returned (.bool true) ∧ Chg S w w' := by
  unfold bagAt at hb
  have H := Lib.hid (And.intro hlen (And.intro hls (And.intro hap (And.intro hb (Chg.refl S w)))))
  have HBS := Lib.hid hBS
  have HS := Lib.hid hS
  have x0 : w.cell? ⟨B, 0, none⟩ = some (.slice none 0 0) := cell_of_cells hb 0
  clear hlen hls hap hb hBS hS
  have H0 := Lib.hid (And.intro H.out.2.2.2.1 H.out.2.2.2.2)
  go_enter Tryz.func93, Tryz.ntmps93
  go_wp2_with fail
  refine (flatLimbs_nil _).mono ?_
  rintro e w1 ⟨rfl, h9⟩
  have H1 := Lib.hid (And.intro (h9.heap H0.out.1 (by simp)) (H0.out.2.tr0 h9))
  have HC1 := Lib.hid h9
  clear h9 x0
  have x1 : w1.cell? ⟨B, 1, none⟩ = some (.slice none 0 0) := cell_of_cells H1.out.1 1
  go_wp2_with fail
  refine (flatWords_nil _).mono ?_
  rintro e w2 ⟨rfl, h9⟩
  have H2 := Lib.hid (And.intro (h9.heap H1.out.1 (by simp)) (H1.out.2.tr0 h9))
  have HC2 := Lib.hid (HC1.out.tr h9)
  clear h9 x1
  have x2 : w2.cell? ⟨B, 2, none⟩ = some (.slice a N c) := cell_of_cells H2.out.1 2
  go_wp2_with fail
  refine (flatInts_any w2 a c N S R hN H.out.1 (H.out.2.1.chg0 HC2.out) ⟨fun j hj => (H.out.2.2.1.row j hj).chg HC2.out (by simp), H.out.2.2.1.apart, H.out.2.2.1.mem, fun x hx => by
    have := H.out.2.2.1.all x hx
    exact NotRow.keep0 this HC2.out (HS.out x hx)⟩).mono ?_
  rintro e w3 ⟨rfl, h9⟩
  have H3 := Lib.hid (And.intro (h9.heap H2.out.1 HBS.out) (H2.out.2.tr h9))
  clear h9 x2
  have x3 : w3.cell? ⟨B, 3, none⟩ = some (.slice none 0 0) := cell_of_cells H3.out.1 3
  go_wp2_with fail
  refine (flatLongs_nil _).mono ?_
  rintro e w4 ⟨rfl, h9⟩
  have H4 := Lib.hid (And.intro (h9.heap H3.out.1 (by simp)) (H3.out.2.tr0 h9))
  clear h9 x3
  have x4 : w4.cell? ⟨B, 4, none⟩ = some (.slice none 0 0) := cell_of_cells H4.out.1 4
  go_wp2_with fail
  refine (flatTexts_nil _).mono ?_
  rintro e w5 ⟨rfl, h9⟩
  have H5 := Lib.hid (And.intro (h9.heap H4.out.1 (by simp)) (H4.out.2.tr0 h9))
  clear h9 x4
  have x5 : w5.cell? ⟨B, 5, none⟩ = some (.slice none 0 0) := cell_of_cells H5.out.1 5
  go_wp2_with fail
  refine (flatBytes_nil _).mono ?_
  rintro e w6 ⟨rfl, h9⟩
  have H6 := Lib.hid (And.intro (h9.heap H5.out.1 (by simp)) (H5.out.2.tr0 h9))
  clear h9 x5
  have x6 : w6.cell? ⟨B, 6, none⟩ = some (.slice none 0 0) := cell_of_cells H6.out.1 6
  go_wp2_with fail
  refine (flatTruths_nil _).mono ?_
  rintro e w7 ⟨rfl, h9⟩
  have H7 := Lib.hid (And.intro (h9.heap H6.out.1 (by simp)) (H6.out.2.tr0 h9))
  clear h9 x6
  have x7 : w7.cell? ⟨B, 7, none⟩ = some (.slice none 0 0) := cell_of_cells H7.out.1 7
  go_wp2_with fail
  refine (flatTwigs_nil _).mono ?_
  rintro e w8 ⟨rfl, h9⟩
  have H8 := Lib.hid (And.intro (h9.heap H7.out.1 (by simp)) (H7.out.2.tr0 h9))
  clear h9 x7
  have x8 : w8.cell? ⟨B, 8, none⟩ = some (.slice none 0 0) := cell_of_cells H8.out.1 8
  go_wp2_with fail
  refine (flatNodes_nil _).mono ?_
  rintro e w9 ⟨rfl, h9⟩
  have H9 := Lib.hid (And.intro (h9.heap H8.out.1 (by simp)) (H8.out.2.tr0 h9))
  clear h9 x8
  have x9 : w9.cell? ⟨B, 9, none⟩ = some (.slice none 0 0) := cell_of_cells H9.out.1 9
  go_wp2_with fail
  refine (flatRules_nil _).mono ?_
  rintro e w10 ⟨rfl, h9⟩
  have H10 := Lib.hid (And.intro (h9.heap H9.out.1 (by simp)) (H9.out.2.tr0 h9))
  clear h9 x9
  have x10 : w10.cell? ⟨B, 10, none⟩ = some (.slice none 0 0) := cell_of_cells H10.out.1 10
  go_wp2_with fail
  refine (flatSpans_nil _).mono ?_
  rintro e w11 ⟨rfl, h9⟩
  have H11 := Lib.hid (And.intro (h9.heap H10.out.1 (by simp)) (H10.out.2.tr0 h9))
  clear h9 x10
  have x11 : w11.cell? ⟨B, 11, none⟩ = some (.slice none 0 0) := cell_of_cells H11.out.1 11
  go_wp2_with fail
  refine (flatGrammars_nil _).mono ?_
  rintro e w12 ⟨rfl, h9⟩
  have H12 := Lib.hid (And.intro (h9.heap H11.out.1 (by simp)) (H11.out.2.tr0 h9))
  clear h9 x11
  have x12 : w12.cell? ⟨B, 12, none⟩ = some (.slice none 0 0) := cell_of_cells H12.out.1 12
  go_wp2_with fail
  refine (flatFounds_nil _).mono ?_
  rintro e w13 ⟨rfl, h9⟩
  have H13 := Lib.hid (And.intro (h9.heap H12.out.1 (by simp)) (H12.out.2.tr0 h9))
  clear h9 x12
  have x13 : w13.cell? ⟨B, 13, none⟩ = some (.slice none 0 0) := cell_of_cells H13.out.1 13
  go_wp2_with fail
  refine (flatEvents_nil _).mono ?_
  rintro e w14 ⟨rfl, h9⟩
  have H14 := Lib.hid (And.intro (h9.heap H13.out.1 (by simp)) (H13.out.2.tr0 h9))
  clear h9 x13
  go_wp2_with fail
  go_ret
  exact ⟨rfl, H14.out.2⟩

set_option maxRecDepth 100000 in
set_option maxHeartbeats 4000000 in
theorem ApartInts_any (w : World) (a : Option Addr) (N c : Nat) (S : List Nat) (R : Nat → IR) (hN : N ≤ 400000) (hlen : ∀ j, j < N → (R j).n ≤ 1000000000) (hcells : ∀ j, j < N → ∃ b o, a = some ⟨b, o, none⟩ ∧ w.cell? ⟨b, o + j, none⟩ = some (R j).v) (hNc : N ≤ c) (hcm : c ≤ maxLen) (hap : Apart N w S R) (hS : ∀ x ∈ S, x < w.heap.size) :
    Calls Tryz.prog 50 #[.slice a N c] w fun e w' => e = .returned (.bool true) ∧ Chg S w w' := by
  have H := Lib.hid (And.intro hlen (And.intro hcells (And.intro hap hS)))
  have hcm' : c ≤ 9223372036854775807 := by simp only [maxLen] at hcm; exact hcm
  clear hlen hcells hap hcm hS
  go_enter Tryz.func50, Tryz.ntmps50
  go_wp2_with fail
  obtain ⟨B, hB⟩ : ∃ B, B = w.heap.size := ⟨_, rfl⟩
  have h0 := heap_alloc_same w (.cells #[.slice none 0 0, .slice none 0 0, .slice none 0 0, .slice none 0 0, .slice none 0 0, .slice none 0 0, .slice none 0 0, .slice none 0 0, .slice none 0 0, .slice none 0 0, .slice none 0 0, .slice none 0 0, .slice none 0 0, .slice none 0 0] 103)
  rw [← hB] at h0 ⊢
  have HB := Lib.hid (And.intro h0 (And.intro ((Chg.refl [] w).alloc (.cells #[.slice none 0 0, .slice none 0 0, .slice none 0 0, .slice none 0 0, .slice none 0 0, .slice none 0 0, .slice none 0 0, .slice none 0 0, .slice none 0 0, .slice none 0 0, .slice none 0 0, .slice none 0 0, .slice none 0 0, .slice none 0 0] 103)) hB))
  clear h0 hB
  go_loopg [4] N (fun dd kv wr => ∃ k : Nat, dd = N - k ∧ k ≤ N ∧ kv = .int .i64 k ∧ Hid (∃ a' c', bagAt wr B a' k c' ∧ wr.ownsRow w.heap.size 48 1 (.slice a' k c') k ((List.range k).map fun j => (R j).v) ∧ Chg [] w wr))
  case atStart => exact ⟨0, rfl, Nat.zero_le _, rfl, Lib.hid ⟨none, 0, HB.out.1, World.ownsRow_nil _ _ _ _, HB.out.2.1⟩⟩
  case round =>
    obtain ⟨k, rfl, hk, rfl, hin⟩ := hrel
    obtain ⟨wk, rfl⟩ : ∃ wk, wk = wr := ⟨_, rfl⟩
    obtain ⟨a', c', hb, hrow, hcw⟩ := hin.out
    by_cases hkl : k < N
    · obtain ⟨b, off, rfl, hcell⟩ := H.out.2.1 k hkl
      have hcell2 := hcw.cell hcell (by simp)
      have hp := putInts_any wk B w.heap.size a' k c' _ (R k) hb hrow hcw.size (by omega)
      have hrv : (R k).v = .slice (R k).a (R k).n (R k).c := rfl
      rw [hrv] at hcell2
      have hk1 : (k : Int) < c := by omega
      have HC := Lib.hid hcw
      clear hcell hrv hb hrow hcw hin
      go_wp2_with fail
      refine hp.mono ?_
      rintro e w2 ⟨rfl, a2, c2, h1, h2, h3⟩
      have HP := Lib.hid (And.intro h1 (And.intro h2 (h3 w HC.out (Nat.le_refl _) (by rw [HB.out.2.2]; exact Nat.le_refl _))))
      clear h1 h2 h3 hp hcell2
      go_wp2_with fail
      go_roundg (N - (k + 1))
      case measure => omega
      case rel => exact ⟨k + 1, rfl, by omega, by go_num, Lib.hid ⟨a2, c2, HP.out.1, by rw [List.range_succ, List.map_append]; exact HP.out.2.1, HP.out.2.2⟩⟩
    · obtain rfl : k = N := by omega
      have hap : Apart k wk S R := ⟨fun j hj => (H.out.2.2.1.row j hj).chg hcw (by simp), H.out.2.2.1.apart, H.out.2.2.1.mem, fun x hx => NotRow.keep0 (H.out.2.2.1.all x hx) hcw (H.out.2.2.2 x hx)⟩
      have hcall := apartI_any wk B a' k c' S R hN H.out.1 hb (row_base hrow (Nat.zero_le _)) hap (fun x hx => Nat.lt_of_lt_of_le (H.out.2.2.2 x hx) hcw.size) (fun hm => by have := H.out.2.2.2 B hm; have := HB.out.2.2; omega)
      have HC := Lib.hid hcw
      clear hb hrow hcw hap hin
      go_wp2_with fail
      refine hcall.mono ?_
      rintro e w2 ⟨rfl, h2⟩
      have HP := Lib.hid (HC.out.any.tr h2)
      clear h2 hcall
      go_wp2_with fail
      go_ret
      exact ⟨rfl, HP.out⟩
end Go.Proofs.YtibgfgfmljhimaaGreat
set_option linter.unusedVariables false
set_option linter.unusedSimpArgs false
set_option linter.unnecessarySimpa false
namespace Go.Proofs.YtibgfgfmljhimaaGreat
open Go.RowKit Go.MapKept Go.Shelf

theorem kids_row {B : Nat} {W : World} {L : List Cp} (h : ∀ p ∈ L, FreshInts B W p.2.1 p.2.2 p.1.kids) : ∀ r ∈ kidsIR L, ∃ xs, W.ownsRow B 3 1 r.v r.n xs := fun r hr => by
  obtain ⟨p, hp, rfl⟩ := List.mem_map.1 hr
  exact ⟨_, h p hp⟩
/-- A row reads as its nodes. -/
theorem OwnG.ncells {B : Nat} {w : World} {b1 : Option Addr} {d1 : Nat} {b2 : Option Addr} {d2 : Nat} {L : List Cp} {rs : List Rl} (h : OwnG B w b1 d1 b2 d2 L rs) : NCells w ⟨b2, L.length, d2⟩ L := by
  obtain ⟨m1, m2, m3⟩ := h.ownN.read
  refine ⟨rfl, m2, m3, fun i hi => ?_⟩
  obtain ⟨G, e, _, _, hc, _⟩ := h.ownN.at hi
  exact ⟨G, e, hc⟩

set_option maxHeartbeats 4000000 in
theorem apartTwo_any (W W0 : World) (B B1 B2 RX RZ RO : Nat) (x1 : Option Addr) (d1 : Nat) (x2 : Option Addr) (d2 : Nat) (L1 : List Cp) (rs1 : List Rl) (z1 : Option Addr) (e1 : Nat) (z2 : Option Addr) (e2 : Nat) (L2 : List Cp) (rs2 : List Rl)
    (h1 : OwnG B1 W x1 d1 x2 d2 L1 rs1) (h0 : OwnG B1 W0 x1 d1 x2 d2 L1 rs1) (hW0 : W0.heap.size ≤ B2) (h2 : OwnG B2 W z1 e1 z2 e2 L2 rs2)
    (hX : W.heap[RX]? = some (.cells #[.slice x1 rs1.length d1, .slice x2 L1.length d2] 25 (0, 0))) (hZ : W.heap[RZ]? = some (.cells #[.slice z1 rs2.length e1, .slice z2 L2.length e2] 25 (0, 0))) (hne : RX ≠ RZ)
    (hO : W.heap[RO]? = some (.cells #[.slice (some ⟨RX, 0, none⟩) 1 1, .slice (some ⟨RZ, 0, none⟩) 1 1] 74 (0, 0)))
    (hs1 : rs1.length ≤ 100000 ∧ L1.length ≤ 100000 ∧ ∀ p ∈ L1, p.1.kids.length ≤ 1000000) (hs2 : rs2.length ≤ 100000 ∧ L2.length ≤ 100000 ∧ ∀ p ∈ L2, p.1.kids.length ≤ 1000000) (hB1 : B ≤ B1) (hB2 : B ≤ B2) (hBX : B ≤ RX) (hBZ : B ≤ RZ) :
    Calls Tryz.prog 79 #[.slice (some ⟨RO, 0, none⟩) 2 2] W fun e w' => e = .returned (.bool true) ∧ ∃ S : List Nat, (∀ x ∈ S, B ≤ x) ∧ Chg S W w' := by
  obtain ⟨G1a, hG1⟩ : ∃ G : G1, G = ⟨⟨some ⟨RX, 0, none⟩, 1, 1⟩, ⟨x1, rs1.length, d1⟩, ⟨x2, L1.length, d2⟩, L1⟩ := ⟨_, rfl⟩
  obtain ⟨G2a, hG2⟩ : ∃ G : G1, G = ⟨⟨some ⟨RZ, 0, none⟩, 1, 1⟩, ⟨z1, rs2.length, e1⟩, ⟨z2, L2.length, e2⟩, L2⟩ := ⟨_, rfl⟩
  have k1 := kids_row h1.kids
  have k2 := kids_row h2.kids
  -- bounds
  have lo1 : ∀ r ∈ kidsIR L1, ∀ x, r.blk = some x → B1 ≤ x ∧ x < B2 := fun r hr x hx => by
    obtain ⟨xs, q⟩ := kids_row h0.kids r hr
    have := row_beyond q hx
    omega
  have lo2 : ∀ r ∈ kidsIR L2, ∀ x, r.blk = some x → B2 ≤ x ∧ x < W.heap.size := fun r hr x hx => by
    obtain ⟨xs, q⟩ := k2 r hr
    have := row_beyond q hx
    exact ⟨this.1, this.2.1⟩
  have W0W : ∀ x, x < W0.heap.size → x < B2 := fun x hx => by omega
  have rI : RowsQ 3 1 W (kidsIR L1 ++ kidsIR L2) := by
    refine ⟨fun r hr => ?_, ?_⟩
    · rcases List.mem_append.1 hr with hr | hr
      · obtain ⟨xs, q⟩ := k1 r hr; exact ⟨xs, row_base q (Nat.zero_le _)⟩
      · obtain ⟨xs, q⟩ := k2 r hr; exact ⟨xs, row_base q (Nat.zero_le _)⟩
    · have key : ∀ {L : List Cp}, (L.Pairwise fun q p => ∀ i j, q.own = some i → p.own = some j → i < j) → (kidsIR L).Pairwise fun q p => ∀ x, q.blk = some x → p.blk ≠ some x := fun h => by
        unfold kidsIR
        rw [List.pairwise_map]
        refine h.imp fun {a b} hab x hx hy => ?_
        exact Nat.lt_irrefl _ (hab x x hx hy)
      refine List.pairwise_append.2 ⟨key h1.apart, key h2.apart, fun q hq p hp x hx hy => ?_⟩
      have := lo1 q hq x hx
      have := lo2 p hp x hy
      omega
  have two : ∀ {e m : Nat} {r s : IR} {xs ys : List Value}, W.ownsRow 0 e m r.v r.n xs → W.ownsRow 0 e m s.v s.n ys → (∀ x, r.blk = some x → s.blk ≠ some x) → RowsQ e m W [r, s] := fun q1 q2 q3 => by
    refine ⟨fun r hr => ?_, ?_⟩
    · simp only [List.mem_cons, List.not_mem_nil, or_false] at hr
      rcases hr with rfl | rfl
      · exact ⟨_, q1⟩
      · exact ⟨_, q2⟩
    · simp only [List.pairwise_cons, List.mem_cons, List.not_mem_nil, or_false, forall_eq, List.Pairwise.nil, and_true, false_implies, implies_true]
      exact q3
  have bN1 : ∀ x, (IR.blk ⟨x2, L1.length, d2⟩) = some x → B1 ≤ x ∧ x < B2 := fun x hx => by have := row_beyond h0.nodes hx; omega
  have bN2 : ∀ x, (IR.blk ⟨z2, L2.length, e2⟩) = some x → B2 ≤ x ∧ x < W.heap.size := fun x hx => by have := row_beyond h2.nodes hx; exact ⟨this.1, this.2.1⟩
  have bR1 : ∀ x, (IR.blk ⟨x1, rs1.length, d1⟩) = some x → B1 ≤ x ∧ x < B2 := fun x hx => by have := row_beyond h0.rules hx; omega
  have bR2 : ∀ x, (IR.blk ⟨z1, rs2.length, e1⟩) = some x → B2 ≤ x ∧ x < W.heap.size := fun x hx => by have := row_beyond h2.rules hx; exact ⟨this.1, this.2.1⟩
  have bI1 : ∀ r ∈ kidsIR L1, ∀ x, r.blk = some x → x < W.heap.size := fun r hr x hx => by
    obtain ⟨xs, q⟩ := k1 r hr
    exact (row_beyond q hx).2.1
  have bN1' : ∀ x, (IR.blk ⟨x2, L1.length, d2⟩) = some x → x < W.heap.size := fun x hx => (row_beyond h1.nodes hx).2.1
  have bR1' : ∀ x, (IR.blk ⟨x1, rs1.length, d1⟩) = some x → x < W.heap.size := fun x hx => (row_beyond h1.rules hx).2.1
  have rN : RowsQ 53 9 W [⟨x2, L1.length, d2⟩, ⟨z2, L2.length, e2⟩] := two (row_base h1.nodes (Nat.zero_le _)) (row_base h2.nodes (Nat.zero_le _)) (fun x hx hy => by have := bN1 x hx; have := bN2 x hy; omega)
  have rR : RowsQ 43 2 W [⟨x1, rs1.length, d1⟩, ⟨z1, rs2.length, e1⟩] := two (row_base h1.rules (Nat.zero_le _)) (row_base h2.rules (Nat.zero_le _)) (fun x hx hy => by have := bR1 x hx; have := bR2 x hy; omega)
  have gRow : ∀ {R : Nat} {u v : Value}, W.heap[R]? = some (.cells #[u, v] 25 (0, 0)) → W.ownsRow 0 25 2 (.slice (some ⟨R, 0, none⟩) 1 1) 1 [u, v] := fun h => ⟨rfl, .inr ⟨_, 1, _, rfl, Nat.zero_le _, h, Nat.le_refl _, by decide, rfl, rfl⟩⟩
  have rG : RowsQ 25 2 W [⟨some ⟨RX, 0, none⟩, 1, 1⟩, ⟨some ⟨RZ, 0, none⟩, 1, 1⟩] := two (gRow hX) (gRow hZ) (fun x hx hy => by
    have e1 : some RX = some x := hx
    have e2 : some RZ = some x := hy
    cases e1; cases e2; exact hne rfl)
  have hlX := lt_of_block hX
  have hlZ := lt_of_block hZ
  have eI : kidsIR L1 ++ kidsIR L2 = vI [G1a, G2a] := by rw [hG1, hG2]; simp [vI]
  have eN : [(⟨x2, L1.length, d2⟩ : IR), ⟨z2, L2.length, e2⟩] = [G1a, G2a].map G1.nd := by rw [hG1, hG2]; rfl
  have eR : [(⟨x1, rs1.length, d1⟩ : IR), ⟨z1, rs2.length, e1⟩] = [G1a, G2a].map G1.ru := by rw [hG1, hG2]; rfl
  have eG : [(⟨some ⟨RX, 0, none⟩, 1, 1⟩ : IR), ⟨some ⟨RZ, 0, none⟩, 1, 1⟩] = [G1a, G2a].map G1.row := by rw [hG1, hG2]; rfl
  obtain ⟨S, hS⟩ : ∃ S, S = blks (kidsIR L1 ++ kidsIR L2) ++ blks [(⟨x2, L1.length, d2⟩ : IR), ⟨z2, L2.length, e2⟩] ++ blks [(⟨x1, rs1.length, d1⟩ : IR), ⟨z1, rs2.length, e1⟩] ++ blks [(⟨some ⟨RX, 0, none⟩, 1, 1⟩ : IR), ⟨some ⟨RZ, 0, none⟩, 1, 1⟩] := ⟨_, rfl⟩
  have hSb : ∀ x ∈ S, B ≤ x ∧ x < W.heap.size := fun x hx => by
    rw [hS] at hx
    simp only [List.mem_append, blks_mem, List.mem_cons, List.not_mem_nil, or_false] at hx
    rcases hx with ((⟨r, hr, hx⟩ | ⟨r, hr, hx⟩) | ⟨r, hr, hx⟩) | ⟨r, hr, hx⟩
    · rcases hr with hr | hr
      · have := lo1 r hr x hx; have := bI1 r hr x hx; omega
      · have := lo2 r hr x hx; omega
    · rcases hr with rfl | rfl
      · have := bN1 x hx; have := bN1' x hx; omega
      · have := bN2 x hx; omega
    · rcases hr with rfl | rfl
      · have := bR1 x hx; have := bR1' x hx; omega
      · have := bR2 x hx; omega
    · rcases hr with rfl | rfl
      · have e : some RX = some x := hx
        cases e; exact ⟨hBX, hlX⟩
      · have e : some RZ = some x := hx
        cases e; exact ⟨hBZ, hlZ⟩
  have fI : Few (kidsIR L1 ++ kidsIR L2) := by
    refine ⟨by simp [kidsIR]; omega, fun r hr => ?_⟩
    rcases List.mem_append.1 hr with hr | hr
    · obtain ⟨p, hp, rfl⟩ := List.mem_map.1 hr; have := hs1.2.2 p hp; show p.1.kids.length ≤ _; omega
    · obtain ⟨p, hp, rfl⟩ := List.mem_map.1 hr; have := hs2.2.2 p hp; show p.1.kids.length ≤ _; omega
  have few2 : ∀ r s : IR, r.n ≤ 1000000 → s.n ≤ 1000000 → Few [r, s] := fun r s q1 q2 => ⟨by simp, fun t ht => by
    simp only [List.mem_cons, List.not_mem_nil, or_false] at ht
    rcases ht with rfl | rfl <;> omega⟩
  have hcall := ApartGrams_any W (some ⟨RO, 0, none⟩) 2 [G1a, G2a] _ _ _ _ eI eN eR eG (fun j hj => ?_) (Nat.le_refl _) (by decide) (fun g hg => ?_) rI rN rR rG fI (few2 _ _ (by show L1.length ≤ _; omega) (by show L2.length ≤ _; omega)) (few2 _ _ (by show rs1.length ≤ _; omega) (by show rs2.length ≤ _; omega)) (few2 _ _ (by show 1 ≤ _; omega) (by show 1 ≤ _; omega)) (by rw [← hS]; exact fun x hx => (hSb x hx).2)
  · rw [← hS] at hcall
    exact hcall.mono fun e w' ⟨q1, q2⟩ => ⟨q1, S, fun x hx => (hSb x hx).1, q2⟩
  · refine ⟨RO, 0, rfl, ?_⟩
    have hj2 : j < 2 := hj
    rcases (show j = 0 ∨ j = 1 by omega) with rfl | rfl
    · show W.cell? ⟨RO, 0, none⟩ = some G1a.row.v
      rw [hG1]
      exact cell_of_cells hO 0
    · show W.cell? ⟨RO, 1, none⟩ = some G2a.row.v
      rw [hG2]
      exact cell_of_cells hO 1
  · simp only [List.mem_cons, List.not_mem_nil, or_false] at hg
    rcases hg with rfl | rfl
    · rw [hG1]
      exact ⟨rfl, Nat.le_refl _, (by show 1 ≤ maxLen; decide), ⟨RX, rfl, cell_of_cells hX 0, cell_of_cells hX 1⟩, h1.ncells⟩
    · rw [hG2]
      exact ⟨rfl, Nat.le_refl _, (by show 1 ≤ maxLen; decide), ⟨RZ, rfl, cell_of_cells hZ 0, cell_of_cells hZ 1⟩, h2.ncells⟩

/-- ApartInts, told of two rows. -/
theorem apartTwoI_any (W : World) (B T RO : Nat) (a1 : Option Addr) (n1 c1 : Nat) (a2 : Option Addr) (n2 c2 : Nat) (xs ys : List Value) (h1 : W.ownsRow B 3 1 (.slice a1 n1 c1) n1 xs) (h2 : W.ownsRow B 3 1 (.slice a2 n2 c2) n2 ys)
    (t1 : ∀ x, (Value.slice a1 n1 c1).ownBlock = some x → x < T) (t2 : ∀ x, (Value.slice a2 n2 c2).ownBlock = some x → x < T) (hd : ∀ x, (Value.slice a1 n1 c1).ownBlock = some x → (Value.slice a2 n2 c2).ownBlock ≠ some x)
    (hO : W.heap[RO]? = some (.cells #[.slice a1 n1 c1, .slice a2 n2 c2] 48 (0, 0))) (hn1 : n1 ≤ 1000000) (hn2 : n2 ≤ 1000000) :
    Calls Tryz.prog 50 #[.slice (some ⟨RO, 0, none⟩) 2 2] W fun e w' => e = .returned (.bool true) ∧ ∃ S : List Nat, (∀ x ∈ S, B ≤ x ∧ x < T) ∧ Chg S W w' := by
  have rI : RowsQ 3 1 W [⟨a1, n1, c1⟩, ⟨a2, n2, c2⟩] := by
    refine ⟨fun r hr => ?_, ?_⟩
    · simp only [List.mem_cons, List.not_mem_nil, or_false] at hr
      rcases hr with rfl | rfl
      · exact ⟨_, row_base h1 (Nat.zero_le _)⟩
      · exact ⟨_, row_base h2 (Nat.zero_le _)⟩
    · simp only [List.pairwise_cons, List.mem_cons, List.not_mem_nil, or_false, forall_eq, List.Pairwise.nil, and_true, false_implies, implies_true]
      exact hd
  have hA := rI.apartI
  have hS : ∀ x ∈ blks [(⟨a1, n1, c1⟩ : IR), ⟨a2, n2, c2⟩], (B ≤ x ∧ x < T) ∧ x < W.heap.size := fun x hx => by
    simp only [blks_mem, List.mem_cons, List.not_mem_nil, or_false] at hx
    obtain ⟨r, hr, hx⟩ := hx
    rcases hr with rfl | rfl
    · have := row_beyond h1 hx; exact ⟨⟨this.1, t1 x hx⟩, this.2.1⟩
    · have := row_beyond h2 hx; exact ⟨⟨this.1, t2 x hx⟩, this.2.1⟩
  refine (ApartInts_any W (some ⟨RO, 0, none⟩) 2 2 _ _ (by omega) (fun j hj => ?_) (fun j hj => ⟨RO, 0, rfl, ?_⟩) (Nat.le_refl _) (by decide) hA (fun x hx => (hS x hx).2)).mono fun e w' ⟨q1, q2⟩ => ⟨q1, _, fun x hx => (hS x hx).1, q2⟩
  · rcases (show j = 0 ∨ j = 1 by omega) with rfl | rfl
    · show n1 ≤ _; omega
    · show n2 ≤ _; omega
  · rcases (show j = 0 ∨ j = 1 by omega) with rfl | rfl
    · exact cell_of_cells hO 0
    · exact cell_of_cells hO 1

/-- The grammar mended; none, if it is not right. -/
def mendU (g : Gr) : Gr := if rightB g then mendG g else ⟨[], []⟩
theorem mend_uni {w w' : World} {g : Gr} {e : Ending} (h : MendP w g e w') : ∃ x1 d1 x2 d2 L, e = .returned (.tuple #[.agg #[.slice x1 (mendU g).rules.length d1, .slice x2 (mendU g).nodes.length d2], .bool (rightB g)]) ∧ L.map (·.1) = (mendU g).nodes ∧ OwnG w.heap.size w' x1 d1 x2 d2 L (mendU g).rules ∧ Chg [] w w' := by
  obtain ⟨h1, h2⟩ := h
  unfold mendU
  cases hr : rightB g with
  | true =>
    rw [hr] at h1
    simp only [if_true] at h1 ⊢
    obtain ⟨b1, d1, b2, d2, L, rfl, hL, ho⟩ := h1
    refine ⟨b1, d1, b2, d2, L, ?_, hL, ho, h2⟩
    simp [mendG, mendL_len]
  | false =>
    rw [hr] at h1
    simp only [Bool.false_eq_true, if_false] at h1 ⊢
    exact ⟨none, 0, none, 0, [], h1, rfl, ⟨World.ownsRow_nil _ _ _ _, World.ownsRow_nil _ _ _ _, (fun p hp => by cases hp), List.Pairwise.nil⟩, h2⟩
theorem mend_uniR {w w' : World} {g : Gr} {e : Ending} (h : MendR w g e w') : ∃ x1 d1 x2 d2, e = .returned (.tuple #[.agg #[.slice x1 (mendU g).rules.length d1, .slice x2 (mendU g).nodes.length d2], .bool (rightB g)]) ∧ GramAt w' x1 (mendU g).rules.length d1 x2 (mendU g).nodes.length d2 (mendU g) ∧ Chg [] w w' := by
  obtain ⟨h1, h2⟩ := h
  unfold mendU
  cases hr : rightB g with
  | true =>
    rw [hr] at h1
    simp only [if_true] at h1 ⊢
    obtain ⟨b1, n1, d1, b2, n2, d2, rfl, hg⟩ := h1
    have e1 := hg.e1
    have e2 := hg.e2
    subst e1 e2
    exact ⟨b1, d1, b2, d2, rfl, hg, h2⟩
  | false =>
    rw [hr] at h1
    simp only [Bool.false_eq_true, if_false] at h1 ⊢
    exact ⟨none, 0, none, 0, h1, ⟨rfl, Nat.le_refl _, by decide, (fun i hi => by cases hi), rfl, Nat.le_refl _, by decide, (fun i hi => by cases hi), ⟨(fun x hx => by cases hx), (fun x hx => by cases hx), (fun x hx => by cases hx)⟩⟩, h2⟩
theorem mendU_kids {g : Gr} {m : Nat} (h : ∀ x ∈ g.nodes, x.kids.length ≤ m) : ∀ x ∈ (mendU g).nodes, x.kids.length ≤ m := by
  unfold mendU
  split
  · intro x hx
    simp only [mendG, mendL, List.mem_mapIdx] at hx
    obtain ⟨j, hj, rfl⟩ := hx
    have := h _ (List.getElem_mem hj)
    split
    · exact this
    · exact this
  · intro x hx; cases hx
theorem mendU_len (g : Gr) : (mendU g).rules.length ≤ g.rules.length ∧ (mendU g).nodes.length ≤ g.nodes.length := by
  unfold mendU
  split
  · exact ⟨Nat.le_refl _, by simp [mendG, mendL_len]⟩
  · exact ⟨Nat.zero_le _, Nat.zero_le _⟩
end Go.Proofs.YtibgfgfmljhimaaGreat

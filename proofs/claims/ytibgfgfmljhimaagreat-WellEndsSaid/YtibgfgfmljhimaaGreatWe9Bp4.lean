/-
  ApartGrammars says that grammars of their own lie apart, and writes over them alone.
  Conditions: the rows are rows of their own, all apart; they are not too long.
-/
import Derived.Test.YtibgfgfmljhimaaGreatWe9Bp3
import Derived.Test.YtibgfgfmljhimaaGreatWe9Ap1
import Derived.Test.YtibgfgfmljhimaaGreatWe9Ap2
set_option linter.unusedVariables false
set_option linter.unusedSimpArgs false
set_option linter.unnecessarySimpa false
namespace Go.Proofs.YtibgfgfmljhimaaGreat
open Go.RowKit Go.MapKept Go.Shelf

def blks (V : List IR) : List Nat := V.filterMap IR.blk
theorem blks_mem {V : List IR} {x : Nat} : x ∈ blks V ↔ ∃ r ∈ V, r.blk = some x := by simp [blks]
/-- Rows of their own, of one type, all apart. -/
structure RowsQ (e : TypeId) (m : Nat) (w : World) (V : List IR) : Prop where
  row : ∀ r ∈ V, ∃ xs, w.ownsRow 0 e m r.v r.n xs
  ap : V.Pairwise fun q p => ∀ x, q.blk = some x → p.blk ≠ some x
theorem RowsQ.chg {e : TypeId} {m : Nat} {w w' : World} {S : List Nat} {V : List IR} (h : RowsQ e m w V) (hc : Chg S w w') (hS : ∀ x ∈ S, NotRow w e x) : RowsQ e m w' V :=
  ⟨fun r hr => by obtain ⟨xs, h1⟩ := h.row r hr; exact ⟨xs, hc.rowOf h1 hS⟩, h.ap⟩
theorem RowsQ.chg0 {e : TypeId} {m : Nat} {w w' : World} {V : List IR} (h : RowsQ e m w V) (hc : Chg [] w w') : RowsQ e m w' V := h.chg hc (by simp)
theorem RowsQ.not {e e' : TypeId} {m : Nat} {w : World} {V : List IR} (h : RowsQ e m w V) (he : e ≠ e') : ∀ x ∈ blks V, NotRow w e' x := fun x hx => by
  obtain ⟨r, hr, hb⟩ := blks_mem.1 hx
  obtain ⟨xs, h1⟩ := h.row r hr
  exact row_notrow h1 hb he
theorem getD_mem {V : List IR} {j : Nat} (hj : j < V.length) : V.getD j nilQ = V[j] := by simp [List.getD, hj]
theorem RowsQ.apartQ {K : Kd} {w : World} {V : List IR} (h : RowsQ K.e K.m w V) (ne : K.e ≠ K.t) : ApartQ K V.length w (blks V) (fun j => V.getD j nilQ) := by
  refine ⟨fun j hj => ?_, fun i j hi hj hij x hx hy => ?_, fun j hj x hx => ?_, h.not ne⟩
  · simp only [getD_mem hj]
    obtain ⟨xs, h1⟩ := h.row _ (List.getElem_mem hj)
    exact ⟨xs, h1, fun i hi => by omega⟩
  · simp only [getD_mem hi] at hx
    simp only [getD_mem hj] at hy
    rcases Nat.lt_or_gt_of_ne hij with h1 | h1
    · exact List.pairwise_iff_getElem.1 h.ap i j hi hj h1 x hx hy
    · exact List.pairwise_iff_getElem.1 h.ap j i hj hi h1 x hy hx
  · simp only [getD_mem hj] at hx
    exact blks_mem.2 ⟨_, List.getElem_mem hj, hx⟩
theorem RowsQ.apartI {w : World} {V : List IR} (h : RowsQ 3 1 w V) : Apart V.length w (blks V) (fun j => V.getD j nilQ) := by
  refine ⟨fun j hj => ?_, fun i j hi hj hij x hx hy => ?_, fun j hj x hx => ?_, h.not (by decide)⟩
  · simp only [getD_mem hj]
    obtain ⟨xs, h1⟩ := h.row _ (List.getElem_mem hj)
    exact ⟨xs, h1, fun i hi => by omega⟩
  · simp only [getD_mem hi] at hx
    simp only [getD_mem hj] at hy
    rcases Nat.lt_or_gt_of_ne hij with h1 | h1
    · exact List.pairwise_iff_getElem.1 h.ap i j hi hj h1 x hx hy
    · exact List.pairwise_iff_getElem.1 h.ap j i hj hi h1 x hy hx
  · simp only [getD_mem hj] at hx
    exact blks_mem.2 ⟨_, List.getElem_mem hj, hx⟩
theorem OR.outer {t : TypeId} {B0 : Nat} {w : World} {a : Option Addr} {c : Nat} {V : List IR} (h : OR t B0 w a c V) : OuterQ t w a c V.length (fun j => V.getD j nilQ) := by
  have e : ((List.range V.length).map fun j => (V.getD j nilQ).v) = V.map IR.v := by
    apply List.ext_getElem
    · simp
    · intro j h1 h2
      have hj : j < V.length := by simpa using h1
      simp only [List.getElem_map, List.getElem_range, getD_mem hj]
  unfold OuterQ
  rw [e]
  exact row_base h (Nat.zero_le _)
def Few (V : List IR) : Prop := V.length ≤ 400000 ∧ ∀ r ∈ V, r.n ≤ 1000000000
theorem Few.n {V : List IR} (h : Few V) : ∀ j, j < V.length → (V.getD j nilQ).n ≤ 1000000000 := fun j hj => by rw [getD_mem hj]; exact h.2 _ (List.getElem_mem hj)

set_option maxRecDepth 100000 in
set_option maxHeartbeats 8000000 in
theorem apartQ_any (w0 w : World) (B : Nat) (VI VN VR VG : List IR) (h : BagQ w0 w B VI VN VR VG) (hI : RowsQ 3 1 w VI) (hN : RowsQ 53 9 w VN) (hR : RowsQ 43 2 w VR) (hG : RowsQ 25 2 w VG) (fI : Few VI) (fN : Few VN) (fR : Few VR) (fG : Few VG) (hS : ∀ x ∈ blks VI ++ blks VN ++ blks VR ++ blks VG, x < w0.heap.size) :
    Calls Tryz.prog 93 #[.pointer (some ⟨B, 0, none⟩)] w fun e w' => e = .returned (.bool true) ∧ Chg (blks VI ++ blks VN ++ blks VR ++ blks VG) w w' := by
  obtain ⟨hlo, hchg, aI, cI, aN, cN, aR, cR, aG, cG, hb, oI, oN, oR, oG⟩ := h
  have hBS : ∀ S : List Nat, (∀ x ∈ S, x ∈ blks VI ++ blks VN ++ blks VR ++ blks VG) → B ∉ S := fun S h1 hm => by have := hS B (h1 B hm); omega
  have HO := Lib.hid (And.intro oI.outer (And.intro oN.outer (And.intro oR.outer oG.outer)))
  have HR := Lib.hid (And.intro hI (And.intro hN (And.intro hR hG)))
  have HF := Lib.hid (And.intro fI (And.intro fN (And.intro fR fG)))
  have HBS := Lib.hid hBS
  have x0 : w.cell? ⟨B, 0, none⟩ = some (.slice none 0 0) := cell_of_cells hb 0
  have H0 := Lib.hid (And.intro hb (Chg.refl [] w))
  obtain ⟨lI, eI⟩ : ∃ l, l = VI.length := ⟨_, rfl⟩
  obtain ⟨lN, eN⟩ : ∃ l, l = VN.length := ⟨_, rfl⟩
  obtain ⟨lR, eR⟩ : ∃ l, l = VR.length := ⟨_, rfl⟩
  obtain ⟨lG, eG⟩ : ∃ l, l = VG.length := ⟨_, rfl⟩
  rw [← eI, ← eN, ← eR, ← eG] at H0
  have HE := Lib.hid (And.intro eI (And.intro eN (And.intro eR eG)))
  clear hlo hchg hb oI oN oR oG hBS hI hN hR hG fI fN fR fG hS eI eN eR eG
  go_enter Tryz.func93, Tryz.ntmps93
  go_wp2_with fail
  refine (flatLimbs_nil _).mono ?_
  rintro e w1 ⟨rfl, h9⟩
  have H1 := Lib.hid (And.intro (h9.heap H0.out.1 (by simp)) (H0.out.2.tr0 h9))
  clear h9 x0
  have x1 : w1.cell? ⟨B, 1, none⟩ = some (.slice none 0 0) := cell_of_cells H1.out.1 1
  go_wp2_with fail
  refine (flatWords_nil _).mono ?_
  rintro e w2 ⟨rfl, h9⟩
  have H2 := Lib.hid (And.intro (h9.heap H1.out.1 (by simp)) (H1.out.2.tr0 h9))
  clear h9 x1
  have x2 : w2.cell? ⟨B, 2, none⟩ = some (.slice aI lI cI) := cell_of_cells H2.out.1 2
  go_wp2_with fail
  rw [HE.out.1]
  refine (flatInts_any w2 aI cI VI.length (blks VI) (fun j => VI.getD j nilQ) HF.out.1.1 HF.out.1.n (HO.out.1.chg H2.out.2 (by simp)) (RowsQ.apartI (HR.out.1.chg H2.out.2 (by simp)))).mono ?_
  rintro e w3 ⟨rfl, h9⟩
  have H3 := Lib.hid (And.intro (h9.heap H2.out.1 (HBS.out _ (by simp +contextual))) ((H2.out.2.mono (T := blks VI) (fun j hj => .inl (by first | exact List.mem_append_left _ hj | cases hj))).trans h9 (fun j hj => .inl (by first | exact List.mem_append_right _ hj | exact hj))))
  clear h9 x2
  have x3 : w3.cell? ⟨B, 3, none⟩ = some (.slice none 0 0) := cell_of_cells H3.out.1 3
  go_wp2_with fail
  refine (flatLongs_nil _).mono ?_
  rintro e w4 ⟨rfl, h9⟩
  have H4 := Lib.hid (And.intro (h9.heap H3.out.1 (by simp)) (H3.out.2.tr0 h9))
  clear h9 x3
  have x4 : w4.cell? ⟨B, 4, none⟩ = some (.slice none 0 0) := cell_of_cells H4.out.1 4
  go_wp2_with fail
  refine (flatTexts_nil _).mono ?_
  rintro e w5 ⟨rfl, h9⟩
  have H5 := Lib.hid (And.intro (h9.heap H4.out.1 (by simp)) (H4.out.2.tr0 h9))
  clear h9 x4
  have x5 : w5.cell? ⟨B, 5, none⟩ = some (.slice none 0 0) := cell_of_cells H5.out.1 5
  go_wp2_with fail
  refine (flatBytes_nil _).mono ?_
  rintro e w6 ⟨rfl, h9⟩
  have H6 := Lib.hid (And.intro (h9.heap H5.out.1 (by simp)) (H5.out.2.tr0 h9))
  clear h9 x5
  have x6 : w6.cell? ⟨B, 6, none⟩ = some (.slice none 0 0) := cell_of_cells H6.out.1 6
  go_wp2_with fail
  refine (flatTruths_nil _).mono ?_
  rintro e w7 ⟨rfl, h9⟩
  have H7 := Lib.hid (And.intro (h9.heap H6.out.1 (by simp)) (H6.out.2.tr0 h9))
  clear h9 x6
  have x7 : w7.cell? ⟨B, 7, none⟩ = some (.slice none 0 0) := cell_of_cells H7.out.1 7
  go_wp2_with fail
  refine (flatTwigs_nil _).mono ?_
  rintro e w8 ⟨rfl, h9⟩
  have H8 := Lib.hid (And.intro (h9.heap H7.out.1 (by simp)) (H7.out.2.tr0 h9))
  clear h9 x7
  have x8 : w8.cell? ⟨B, 8, none⟩ = some (.slice aN lN cN) := cell_of_cells H8.out.1 8
  go_wp2_with fail
  rw [HE.out.2.1]
  refine (flatNodes_any w8 aN cN VN.length (blks VN) (fun j => VN.getD j nilQ) HF.out.2.1.1 HF.out.2.1.n (HO.out.2.1.chg H8.out.2 (HR.out.1.not (by decide))) (RowsQ.apartQ (K := kdN) (HR.out.2.1.chg H8.out.2 (HR.out.1.not (by decide))) (by decide))).mono ?_
  rintro e w9 ⟨rfl, h9⟩
  have H9 := Lib.hid (And.intro (h9.heap H8.out.1 (HBS.out _ (by simp +contextual))) ((H8.out.2.mono (T := blks VI ++ blks VN) (fun j hj => .inl (by first | exact List.mem_append_left _ hj | cases hj))).trans h9 (fun j hj => .inl (by first | exact List.mem_append_right _ hj | exact hj))))
  clear h9 x8
  have x9 : w9.cell? ⟨B, 9, none⟩ = some (.slice aR lR cR) := cell_of_cells H9.out.1 9
  go_wp2_with fail
  rw [HE.out.2.2.1]
  refine (flatRules_any w9 aR cR VR.length (blks VR) (fun j => VR.getD j nilQ) HF.out.2.2.1.1 HF.out.2.2.1.n (HO.out.2.2.1.chg H9.out.2 (fun x hx => (List.mem_append.1 hx).elim (HR.out.1.not (by decide) x) (HR.out.2.1.not (by decide) x))) (RowsQ.apartQ (K := kdR) (HR.out.2.2.1.chg H9.out.2 (fun x hx => (List.mem_append.1 hx).elim (HR.out.1.not (by decide) x) (HR.out.2.1.not (by decide) x))) (by decide))).mono ?_
  rintro e w10 ⟨rfl, h9⟩
  have H10 := Lib.hid (And.intro (h9.heap H9.out.1 (HBS.out _ (by simp +contextual))) ((H9.out.2.mono (T := blks VI ++ blks VN ++ blks VR) (fun j hj => .inl (by first | exact List.mem_append_left _ hj | cases hj))).trans h9 (fun j hj => .inl (by first | exact List.mem_append_right _ hj | exact hj))))
  clear h9 x9
  have x10 : w10.cell? ⟨B, 10, none⟩ = some (.slice none 0 0) := cell_of_cells H10.out.1 10
  go_wp2_with fail
  refine (flatSpans_nil _).mono ?_
  rintro e w11 ⟨rfl, h9⟩
  have H11 := Lib.hid (And.intro (h9.heap H10.out.1 (by simp)) (H10.out.2.tr0 h9))
  clear h9 x10
  have x11 : w11.cell? ⟨B, 11, none⟩ = some (.slice aG lG cG) := cell_of_cells H11.out.1 11
  go_wp2_with fail
  rw [HE.out.2.2.2]
  refine (flatGrammars_any w11 aG cG VG.length (blks VG) (fun j => VG.getD j nilQ) HF.out.2.2.2.1 HF.out.2.2.2.n (HO.out.2.2.2.chg H11.out.2 (fun x hx => (List.mem_append.1 hx).elim (fun hx => (List.mem_append.1 hx).elim (HR.out.1.not (by decide) x) (HR.out.2.1.not (by decide) x)) (HR.out.2.2.1.not (by decide) x))) (RowsQ.apartQ (K := kdG) (HR.out.2.2.2.chg H11.out.2 (fun x hx => (List.mem_append.1 hx).elim (fun hx => (List.mem_append.1 hx).elim (HR.out.1.not (by decide) x) (HR.out.2.1.not (by decide) x)) (HR.out.2.2.1.not (by decide) x))) (by decide))).mono ?_
  rintro e w12 ⟨rfl, h9⟩
  have H12 := Lib.hid (And.intro (h9.heap H11.out.1 (HBS.out _ (by simp +contextual))) ((H11.out.2.mono (T := blks VI ++ blks VN ++ blks VR ++ blks VG) (fun j hj => .inl (by first | exact List.mem_append_left _ hj | cases hj))).trans h9 (fun j hj => .inl (by first | exact List.mem_append_right _ hj | exact hj))))
  clear h9 x11
  have x12 : w12.cell? ⟨B, 12, none⟩ = some (.slice none 0 0) := cell_of_cells H12.out.1 12
  go_wp2_with fail
  refine (flatFounds_nil _).mono ?_
  rintro e w13 ⟨rfl, h9⟩
  have H13 := Lib.hid (And.intro (h9.heap H12.out.1 (by simp)) (H12.out.2.tr0 h9))
  clear h9 x12
  have x13 : w13.cell? ⟨B, 13, none⟩ = some (.slice none 0 0) := cell_of_cells H13.out.1 13
  go_wp2_with fail
  refine (flatEvents_nil _).mono ?_
  rintro e w14 ⟨rfl, h9⟩
  have H14 := Lib.hid (And.intro (h9.heap H13.out.1 (by simp)) (H13.out.2.tr0 h9))
  clear h9 x13
  go_wp2_with fail
  go_ret
  exact ⟨rfl, H14.out.2⟩

/-- A row of one grammar; its rules, its nodes, their kids. -/
structure G1 where
  row : IR
  ru : IR
  nd : IR
  L : List Cp
def G1.At (w : World) (g : G1) : Prop := g.row.n = 1 ∧ 1 ≤ g.row.c ∧ g.row.c ≤ maxLen ∧ (∃ b, g.row.a = some ⟨b, 0, none⟩ ∧ w.cell? ⟨b, 0, none⟩ = some g.ru.v ∧ w.cell? ⟨b, 1, none⟩ = some g.nd.v) ∧ NCells w g.nd g.L
def vI (LS : List G1) : List IR := LS.flatMap fun g => kidsIR g.L
theorem vI_take {LS : List G1} {k : Nat} (hk : k < LS.length) : vI (LS.take (k + 1)) = vI (LS.take k) ++ kidsIR LS[k].L := by
  unfold vI; rw [List.take_succ_eq_append_getElem hk, List.flatMap_append]; simp
theorem map_take1 {LS : List G1} (f : G1 → IR) {k : Nat} (hk : k < LS.length) : (LS.take (k + 1)).map f = (LS.take k).map f ++ [f LS[k]] := by
  rw [List.take_succ_eq_append_getElem hk, List.map_append]; rfl
theorem vI_take_le {LS : List G1} {k : Nat} (hk : k < LS.length) : (vI (LS.take k)).length + (LS[k].L).length ≤ (vI LS).length := by
  have h1 : vI LS = vI (LS.take (k + 1)) ++ vI (LS.drop (k + 1)) := by unfold vI; rw [← List.flatMap_append, List.take_append_drop]
  rw [h1, vI_take hk]
  simp [kidsIR]

set_option maxRecDepth 100000 in
set_option maxHeartbeats 4000000 in
theorem ApartGrams_any (w : World) (a : Option Addr) (c : Nat) (LS : List G1) (VI VN VR VG : List IR) (eI : VI = vI LS) (eN : VN = LS.map G1.nd) (eR : VR = LS.map G1.ru) (eG : VG = LS.map G1.row)
    (hcells : ∀ j (h : j < LS.length), ∃ b o, a = some ⟨b, o, none⟩ ∧ w.cell? ⟨b, o + j, none⟩ = some (LS[j]).row.v) (hNc : LS.length ≤ c) (hcm : c ≤ maxLen) (hat : ∀ g ∈ LS, g.At w)
    (hI : RowsQ 3 1 w VI) (hN : RowsQ 53 9 w VN) (hR : RowsQ 43 2 w VR) (hG : RowsQ 25 2 w VG) (fI : Few VI) (fN : Few VN) (fR : Few VR) (fG : Few VG) (hS : ∀ x ∈ blks VI ++ blks VN ++ blks VR ++ blks VG, x < w.heap.size) :
    Calls Tryz.prog 79 #[.slice a LS.length c] w fun e w' => e = .returned (.bool true) ∧ Chg (blks VI ++ blks VN ++ blks VR ++ blks VG) w w' := by
  have hcm' : c ≤ 9223372036854775807 := by simp only [maxLen] at hcm; exact hcm
  have HR := Lib.hid (And.intro hI (And.intro hN (And.intro hR hG)))
  have HF := Lib.hid (And.intro fI (And.intro fN (And.intro fR fG)))
  have HE := Lib.hid (And.intro eI (And.intro eN (And.intro eR eG)))
  have H := Lib.hid (And.intro hcells (And.intro hat hS))
  obtain ⟨N, hN9⟩ : ∃ N, N = LS.length := ⟨_, rfl⟩
  rw [← hN9] at hNc ⊢
  have HN := Lib.hid hN9
  clear hcells hat hS hI hN hR hG fI fN fR fG eI eN eR eG hcm hN9
  go_enter Tryz.func79, Tryz.ntmps79
  go_wp2_with fail
  obtain ⟨B, hB⟩ : ∃ B, B = w.heap.size := ⟨_, rfl⟩
  have h0 := heap_alloc_same w (.cells #[.slice none 0 0, .slice none 0 0, .slice none 0 0, .slice none 0 0, .slice none 0 0, .slice none 0 0, .slice none 0 0, .slice none 0 0, .slice none 0 0, .slice none 0 0, .slice none 0 0, .slice none 0 0, .slice none 0 0, .slice none 0 0] 103)
  rw [← hB] at h0 ⊢
  have HB0 : BagQ w (w.alloc (.cells #[.slice none 0 0, .slice none 0 0, .slice none 0 0, .slice none 0 0, .slice none 0 0, .slice none 0 0, .slice none 0 0, .slice none 0 0, .slice none 0 0, .slice none 0 0, .slice none 0 0, .slice none 0 0, .slice none 0 0, .slice none 0 0] 103)) B [] [] [] [] :=
    ⟨by omega, (Chg.refl [] w).alloc _, none, 0, none, 0, none, 0, none, 0, h0, World.ownsRow_nil _ _ _ _, World.ownsRow_nil _ _ _ _, World.ownsRow_nil _ _ _ _, World.ownsRow_nil _ _ _ _⟩
  have HB := Lib.hid (And.intro HB0 hB)
  clear h0 hB HB0
  go_loopg [4] N (fun dd kv wr => ∃ k : Nat, dd = N - k ∧ k ≤ N ∧ kv = .int .i64 k ∧ Hid (BagQ w wr B (vI (LS.take k)) ((LS.take k).map G1.nd) ((LS.take k).map G1.ru) ((LS.take k).map G1.row)))
  case atStart => exact ⟨0, rfl, Nat.zero_le _, rfl, Lib.hid HB.out.1⟩
  case round =>
    obtain ⟨k, rfl, hk, rfl, hin⟩ := hrel
    obtain ⟨wk, rfl⟩ : ∃ wk, wk = wr := ⟨_, rfl⟩
    by_cases hkl : k < N
    · have hkL : k < LS.length := by have := HN.out; omega
      obtain ⟨b, off, rfl, hcell⟩ := H.out.1 k hkL
      have hcell2 := hin.out.chg.cell hcell (by simp)
      obtain ⟨g1, g2, g3, g4, g5⟩ := H.out.2.1 LS[k] (List.getElem_mem hkL)
      have hl : (LS.take k).length ≤ 400000 := by
        have h1 := HF.out.2.1.1
        rw [HE.out.2.1] at h1
        simp at h1 ⊢
        omega
      have hp := putQ_G w wk B (vI (LS.take k)) ((LS.take k).map G1.nd) ((LS.take k).map G1.ru) ((LS.take k).map G1.row) (LS[k]).row.a (LS[k]).row.c (LS[k]).ru (LS[k]).nd (LS[k]).L hin.out (by simpa using hl) (by simpa using hl) (by simpa using hl) g5 (by
        have h1 := HF.out.1.1
        rw [HE.out.1] at h1
        have := vI_take_le hkL
        omega) g2 g3 g4
      have hrow : (⟨(LS[k]).row.a, 1, (LS[k]).row.c⟩ : IR) = (LS[k]).row := by
        rw [← g1]
      rw [hrow, ← vI_take hkL, ← map_take1 G1.nd hkL, ← map_take1 G1.ru hkL, ← map_take1 G1.row hkL] at hp
      have hrv : (LS[k]).row.v = .slice (LS[k]).row.a 1 (LS[k]).row.c := by unfold IR.v; rw [g1]
      rw [hrv] at hcell2
      obtain ⟨ra, hra⟩ : ∃ ra, ra = (LS[k]).row.a := ⟨_, rfl⟩
      obtain ⟨rc, hrc⟩ : ∃ rc, rc = (LS[k]).row.c := ⟨_, rfl⟩
      rw [← hra, ← hrc] at hcell2 hp
      have hk1 : (k : Int) < c := by omega
      have HP9 := Lib.hid hp
      clear hcell hrv hrow hp g1 g2 g3 g4 g5 hl hra hrc hin
      go_wp2_with fail
      refine HP9.out.mono ?_
      rintro e w2 ⟨rfl, h1, -⟩
      have HP := Lib.hid h1
      clear h1 hcell2
      go_wp2_with fail
      go_roundg (N - (k + 1))
      case measure => omega
      case rel => exact ⟨k + 1, rfl, by omega, by go_num, HP⟩
    · obtain rfl : k = N := by omega
      have hbag := hin.out
      rw [List.take_of_length_le (by have := HN.out; omega), ← HE.out.1, ← HE.out.2.1, ← HE.out.2.2.1, ← HE.out.2.2.2] at hbag
      have hch := hbag.chg
      have hcall := apartQ_any w wk B VI VN VR VG hbag (HR.out.1.chg0 hch) (HR.out.2.1.chg0 hch) (HR.out.2.2.1.chg0 hch) (HR.out.2.2.2.chg0 hch) HF.out.1 HF.out.2.1 HF.out.2.2.1 HF.out.2.2.2 H.out.2.2
      have HC := Lib.hid hch
      clear hbag hch hin
      go_wp2_with fail
      refine hcall.mono ?_
      rintro e w2 ⟨rfl, h2⟩
      have HP := Lib.hid (HC.out.any.tr h2)
      clear h2 hcall
      go_wp2_with fail
      go_ret
      exact ⟨rfl, HP.out⟩
end Go.Proofs.YtibgfgfmljhimaaGreat

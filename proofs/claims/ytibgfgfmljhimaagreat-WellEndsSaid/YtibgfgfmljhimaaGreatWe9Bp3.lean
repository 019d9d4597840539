/-
  A bag of rows of grammars, filled: their rules, their nodes, their kids.
  Conditions: the rows are rows of their own.
-/
import Derived.Test.YtibgfgfmljhimaaGreatWe9BpR
import Derived.Test.YtibgfgfmljhimaaGreatWe9BpN
import Derived.Test.YtibgfgfmljhimaaGreatWe9BpG
import Derived.Test.YtibgfgfmljhimaaGreatWe9GAny2
import Derived.Test.YtibgfgfmljhimaaGreatWe9NE0
set_option linter.unusedVariables false
set_option linter.unusedSimpArgs false
set_option linter.unnecessarySimpa false
namespace Go.Proofs.YtibgfgfmljhimaaGreat
open Go.RowKit Go.MapKept Go.Shelf

theorem Tryz.infoRowIQ : (Tryz.prog.info? 48).map (fun i => (i.zero, i.size, i.bytes)) = some (some (.slice none 0 0), 1, 24) := by kernel_rfl
def OR (t : TypeId) (B0 : Nat) (w : World) (a : Option Addr) (c : Nat) (V : List IR) : Prop := w.ownsRow B0 t 1 (.slice a V.length c) V.length (V.map IR.v)
structure BagQ (w0 w : World) (B : Nat) (VI VN VR VG : List IR) : Prop where
  lo : w0.heap.size ≤ B
  chg : Chg [] w0 w
  own : ∃ (aI : Option Addr) (cI : Nat) (aN : Option Addr) (cN : Nat) (aR : Option Addr) (cR : Nat) (aG : Option Addr) (cG : Nat), w.heap[B]? = some (.cells #[.slice none 0 0, .slice none 0 0, .slice aI VI.length cI, .slice none 0 0, .slice none 0 0, .slice none 0 0, .slice none 0 0, .slice none 0 0, .slice aN VN.length cN, .slice aR VR.length cR, .slice none 0 0, .slice aG VG.length cG, .slice none 0 0, .slice none 0 0] 103 (0, 0)) ∧
    OR 48 w0.heap.size w aI cI VI ∧ OR 23 w0.heap.size w aN cN VN ∧ OR 22 w0.heap.size w aR cR VR ∧ OR 74 w0.heap.size w aG cG VG
theorem BagQ.chg0 {w0 w w' : World} {B : Nat} {VI VN VR VG : List IR} (h : BagQ w0 w B VI VN VR VG) (hc : Chg [] w w') : BagQ w0 w' B VI VN VR VG := by
  obtain ⟨aI, cI, aN, cN, aR, cR, aG, cG, h1, h2, h3, h4, h5⟩ := h.own
  exact ⟨h.lo, h.chg.tr hc, aI, cI, aN, cN, aR, cR, aG, cG, hc.heap h1 (by simp), hc.row h2 (fun _ _ => by simp), hc.row h3 (fun _ _ => by simp), hc.row h4 (fun _ _ => by simp), hc.row h5 (fun _ _ => by simp)⟩
/-- Grammars in memory are as they were. -/
def KeptG (w w' : World) : Prop := ∀ (k : Nat) (cs : Array Value), w.heap[k]? = some (.cells cs 25 (0, 0)) → w'.heap[k]? = some (.cells cs 25 (0, 0))
theorem KeptG.refl (w : World) : KeptG w w := fun _ _ h => h
theorem KeptG.tr {a b c : World} (h : KeptG a b) (k : KeptG b c) : KeptG a c := fun i cs e => k i cs (h i cs e)
theorem KeptG.of {S : List Nat} {w w' : World} (hc : Chg S w w') (hS : ∀ x ∈ S, ∃ cs t, w.heap[x]? = some (.cells cs t (0, 0)) ∧ t ≠ 25) : KeptG w w' := fun k cs e =>
  hc.heap e (fun hm => by
    obtain ⟨cs', t, h1, h2⟩ := hS k hm
    rw [e] at h1
    cases h1
    exact h2 rfl)
theorem KeptG.of0 {w w' : World} (hc : Chg [] w w') : KeptG w w' := .of hc (by simp)
def PutQ (w0 w : World) (B : Nat) (VI VN VR VG : List IR) (e : Ending) (w' : World) : Prop := e = .returned (.tuple #[]) ∧ BagQ w0 w' B VI VN VR VG ∧ KeptG w w'
def kidsIR (L : List Cp) : List IR := L.map fun p => ⟨p.2.1, p.1.kids.length, p.2.2⟩
/-- How a row of nodes reads. -/
def NCells (w : World) (r : IR) (L : List Cp) : Prop := r.n = L.length ∧ r.n ≤ r.c ∧ r.c ≤ maxLen ∧ ∀ i (h : i < L.length), ∃ b, r.a = some ⟨b, 0, none⟩ ∧ ∀ q, q < 9 → w.cell? ⟨b, i * 9 + q, none⟩ = L[i].cells[q]?

set_option maxRecDepth 100000 in
set_option maxHeartbeats 4000000 in
theorem putQ_I (w0 w : World) (B : Nat) (VI VN VR VG : List IR) (r : IR) (h : BagQ w0 w B VI VN VR VG) (hk : VI.length ≤ 400000) :
    Calls Tryz.prog 92 #[.pointer (some ⟨B, 0, none⟩), .slice r.a r.n r.c] w (PutQ w0 w B (VI ++ [r]) VN VR VG) := by
  obtain ⟨j0, hj0, hy0, hy1, hy2⟩ := info_parts Tryz.infoRowIQ
  obtain ⟨hlo, hchg, aI, cI, aN, cN, aR, cR, aG, cG, hb, hI, hN, hR, hG⟩ := h
  unfold OR at hI hN hR hG
  obtain ⟨k, hkk⟩ : ∃ k, k = VI.length := ⟨_, rfl⟩
  have x2 : w.cell? ⟨B, 2, none⟩ = some (.slice aI VI.length cI) := cell_of_cells hb 2
  have hlt := lt_of_block hb
  have hca := (Chg.refl [] w).alloc (.cells #[.slice r.a r.n r.c] 48)
  have hrow2 := hca.row hI (fun _ _ => by simp)
  have hN2 := hca.row hN (fun _ _ => by simp)
  have hR2 := hca.row hR (fun _ _ => by simp)
  have hG2 := hca.row hG (fun _ _ => by simp)
  have hnew := cells_at (w := w.alloc (.cells #[.slice r.a r.n r.c] 48)) (heap_alloc_same _ _)
  have h1 : ∀ u ∈ [Value.slice r.a r.n r.c], u.oneCell' = true := by simp [Value.oneCell']
  have h2 : k + 1 ≤ maxLen ∧ (k + 1) * 24 ≤ 140737488355328 := by simp only [maxLen]; omega
  have hb2 := hca.heap hb (by simp)
  rw [← hkk] at x2 hrow2
  have HA := Lib.hid (And.intro hrow2 (And.intro hnew (And.intro h1 (And.intro h2 (And.intro hb2 (And.intro hca (And.intro hkk (And.intro hchg hlo))))))))
  have HO := Lib.hid (And.intro hN2 (And.intro hR2 hG2))
  have hbs : w0.heap.size ≤ (w.alloc (.cells #[.slice r.a r.n r.c] 48)).heap.size := Nat.le_trans hchg.size hca.size
  clear hrow2 hnew h1 h2 hb2 hca hb hI hN hR hG hN2 hR2 hG2 hkk hchg hlo hk
  go_enter Tryz.func92, Tryz.ntmps92
  go_wp2_with (at_builtin; refine wpList_append_own_at _ rfl _ _ 60 rfl w0.heap.size 48 j0 _ 1 24 Tryz.underlying60 hj0 hy0 hy1 hy2 rfl (by decide) (.slice aI k cI) k _ rfl HA.out.1 ⟨w.heap.size, 0, none⟩ 1 1 [.slice r.a r.n r.c] rfl rfl HA.out.2.1 HA.out.2.2.1 HA.out.2.2.2.1.1 HA.out.2.2.2.1.2 hbs ?_; intro v' w5 hr5 hg5 hn5 hb5; obtain ⟨a5, c5, rfl⟩ := ownsRow_slice hr5; have hB5 := grown_heap hg5 HA.out.2.2.2.2.1 (ownsRow_ne HA.out.1 HA.out.2.2.2.2.1 (by decide)); have q2 : w5.cell? ⟨B, 2, none⟩ = some (.slice aI k cI) := (by have := cell_of_cells hB5 2; rw [HA.out.2.2.2.2.2.2.1]; exact this); have f2 := free_of_cells hB5 2; have HW := Lib.hid (And.intro hr5 (And.intro hg5 hB5)); clear hr5 hg5 hn5 hb5 hB5)
  refine bodyPost_ret (v := .tuple #[]) (by simp [results, Tryz.results92, go_sem]) rfl ?_
  have hset := heap_setCell_same HW.out.2.2 2 (.slice a5 (k + 1) c5)
  have hcS := (Chg.refl [B] w5).setCell (p := ⟨B, 2, none⟩) (.inl (by simp)) (.slice a5 (k + 1) c5)
  have hcG : Chg (Value.slice aI k cI).ownBlock.toList (w.alloc (.cells #[.slice r.a r.n r.c] 48)) w5 := (Chg.refl _ _).grown HW.out.2.1 (fun x hx => .inl (by rw [hx]; simp))
  have hnB : ∀ t, 103 ≠ t → ∀ x ∈ [B], NotRow w5 t x := fun t ht x hx => by simp only [List.mem_singleton] at hx; subst hx; exact .of_cells HW.out.2.2 ht
  have hnG : ∀ t, 48 ≠ t → ∀ x ∈ (Value.slice aI k cI).ownBlock.toList, NotRow (w.alloc (.cells #[.slice r.a r.n r.c] 48)) t x := fun t ht x hx => row_notrow HA.out.1 (by simpa using hx) ht
  have hkg : KeptG w (w5.setCell ⟨B, 2, none⟩ (.slice a5 (k + 1) c5)) := ((KeptG.of0 HA.out.2.2.2.2.2.1).tr (.of hcG (fun x hx => by obtain ⟨_, _, cur, hcur⟩ := row_beyond HA.out.1 (by simpa using hx); exact ⟨cur, _, hcur, by decide⟩))).tr (.of hcS (fun x hx => by simp only [List.mem_singleton] at hx; subst hx; exact ⟨_, _, HW.out.2.2, by decide⟩))
  have hfin : BagQ w0 (w5.setCell ⟨B, 2, none⟩ (.slice a5 (k + 1) c5)) B (VI ++ [r]) VN VR VG := by
    refine ⟨HA.out.2.2.2.2.2.2.2.2, (((HA.out.2.2.2.2.2.2.2.1.tr HA.out.2.2.2.2.2.1).grown HW.out.2.1 (fun x hx => .inr (row_beyond HA.out.1 hx).1))).setCell (p := ⟨B, 2, none⟩) (.inr HA.out.2.2.2.2.2.2.2.2) _, a5, c5, aN, cN, aR, cR, aG, cG, ?_, ?_, ?_, ?_, ?_⟩
    · rw [show (VI ++ [r]).length = k + 1 by rw [HA.out.2.2.2.2.2.2.1]; simp]
      simpa using hset
    · unfold OR
      rw [List.map_append, show (VI ++ [r]).length = k + 1 by rw [HA.out.2.2.2.2.2.2.1]; simp]
      exact hcS.rowOf HW.out.1 (hnB _ (by decide))
    · exact hcS.rowOf (hcG.rowOf HO.out.1 (hnG _ (by decide))) (hnB _ (by decide))
    · exact hcS.rowOf (hcG.rowOf HO.out.2.1 (hnG _ (by decide))) (hnB _ (by decide))
    · exact hcS.rowOf (hcG.rowOf HO.out.2.2 (hnG _ (by decide))) (hnB _ (by decide))
  exact ⟨rfl, hfin, hkg⟩

set_option maxRecDepth 100000 in
set_option maxHeartbeats 2000000 in
theorem oneNodeQ (w0 w : World) (B : Nat) (VI VN VR VG : List IR) (p : Cp) (h : BagQ w0 w B VI VN VR VG) (hk : VI.length ≤ 400000) :
    Calls Tryz.prog 197 #[.pointer (some ⟨B, 0, none⟩), .agg (p.1.cells p.2.1 p.1.kids.length p.2.2)] w (PutQ w0 w B (VI ++ [⟨p.2.1, p.1.kids.length, p.2.2⟩]) VN VR VG) := by
  obtain ⟨⟨xk, xc0, xc1, xc2, xc3, xs, xr, xl, xkids⟩, ak, ck⟩ := p
  obtain ⟨nk, hnk⟩ : ∃ nk, nk = xkids.length := ⟨_, rfl⟩
  simp only [Nd.cells]
  rw [← hnk]
  clear hnk
  have hca := (Chg.refl [] w).alloc (.cells #[.int .i64 xk, .int .u64 xc0, .int .u64 xc1, .int .u64 xc2, .int .u64 xc3, .string xs, .int .i64 xr, .int .i64 xl, .slice ak nk ck] 53)
  have h1 := putQ_I w0 _ B VI VN VR VG ⟨ak, nk, ck⟩ (h.chg0 hca) hk
  have HC := Lib.hid hca
  clear h hca
  go_enter Tryz.func197, Tryz.ntmps197
  go_wp2_with fail
  refine h1.mono ?_
  clear h1
  rintro e w2 ⟨rfl, h2⟩
  have HB2 := Lib.hid h2
  clear h2
  go_wp2_with fail
  refine bodyPost_ret (v := .tuple #[]) (by simp [results, Tryz.results197, go_sem]) rfl ?_
  exact ⟨rfl, HB2.out.1, (KeptG.of0 HC.out).tr HB2.out.2⟩

set_option maxRecDepth 100000 in
set_option maxHeartbeats 4000000 in
theorem putQ_R (w0 w : World) (B : Nat) (VI VN VR VG : List IR) (r : IR) (h : BagQ w0 w B VI VN VR VG) (hk : VR.length ≤ 400000) :
    Calls Tryz.prog 184 #[.pointer (some ⟨B, 0, none⟩), .slice r.a r.n r.c] w (PutQ w0 w B VI VN (VR ++ [r]) VG) := by
  obtain ⟨j0, hj0, hy0, hy1, hy2⟩ := info_parts Tryz.infoRowRQ
  obtain ⟨hlo, hchg, aI, cI, aN, cN, aR, cR, aG, cG, hb, hI, hN, hR, hG⟩ := h
  unfold OR at hI hN hR hG
  obtain ⟨k, hkk⟩ : ∃ k, k = VR.length := ⟨_, rfl⟩
  have x2 : w.cell? ⟨B, 9, none⟩ = some (.slice aR VR.length cR) := cell_of_cells hb 9
  have hlt := lt_of_block hb
  have hca := (Chg.refl [] w).alloc (.cells #[.slice r.a r.n r.c] 22)
  have hrow2 := hca.row hR (fun _ _ => by simp)
  have hI2 := hca.row hI (fun _ _ => by simp)
  have hN2 := hca.row hN (fun _ _ => by simp)
  have hG2 := hca.row hG (fun _ _ => by simp)
  have hnew := cells_at (w := w.alloc (.cells #[.slice r.a r.n r.c] 22)) (heap_alloc_same _ _)
  have h1 : ∀ u ∈ [Value.slice r.a r.n r.c], u.oneCell' = true := by simp [Value.oneCell']
  have h2 : k + 1 ≤ maxLen ∧ (k + 1) * 24 ≤ 140737488355328 := by simp only [maxLen]; omega
  have hb2 := hca.heap hb (by simp)
  rw [← hkk] at x2 hrow2
  have HA := Lib.hid (And.intro hrow2 (And.intro hnew (And.intro h1 (And.intro h2 (And.intro hb2 (And.intro hca (And.intro hkk (And.intro hchg hlo))))))))
  have HO := Lib.hid (And.intro hI2 (And.intro hN2 hG2))
  have hbs : w0.heap.size ≤ (w.alloc (.cells #[.slice r.a r.n r.c] 22)).heap.size := Nat.le_trans hchg.size hca.size
  clear hrow2 hnew h1 h2 hb2 hca hb hI hN hR hG hI2 hN2 hG2 hkk hchg hlo hk
  go_enter Tryz.func184, Tryz.ntmps184
  go_wp2_with (at_builtin; refine wpList_append_own_at _ rfl _ _ 98 rfl w0.heap.size 22 j0 _ 1 24 Tryz.underlying98 hj0 hy0 hy1 hy2 rfl (by decide) (.slice aR k cR) k _ rfl HA.out.1 ⟨w.heap.size, 0, none⟩ 1 1 [.slice r.a r.n r.c] rfl rfl HA.out.2.1 HA.out.2.2.1 HA.out.2.2.2.1.1 HA.out.2.2.2.1.2 hbs ?_; intro v' w5 hr5 hg5 hn5 hb5; obtain ⟨a5, c5, rfl⟩ := ownsRow_slice hr5; have hB5 := grown_heap hg5 HA.out.2.2.2.2.1 (ownsRow_ne HA.out.1 HA.out.2.2.2.2.1 (by decide)); have q2 : w5.cell? ⟨B, 9, none⟩ = some (.slice aR k cR) := (by have := cell_of_cells hB5 9; rw [HA.out.2.2.2.2.2.2.1]; exact this); have f2 := free_of_cells hB5 9; have HW := Lib.hid (And.intro hr5 (And.intro hg5 hB5)); clear hr5 hg5 hn5 hb5 hB5)
  refine bodyPost_ret (v := .tuple #[]) (by simp [results, Tryz.results184, go_sem]) rfl ?_
  have hset := heap_setCell_same HW.out.2.2 9 (.slice a5 (k + 1) c5)
  have hcS := (Chg.refl [B] w5).setCell (p := ⟨B, 9, none⟩) (.inl (by simp)) (.slice a5 (k + 1) c5)
  have hcG : Chg (Value.slice aR k cR).ownBlock.toList (w.alloc (.cells #[.slice r.a r.n r.c] 22)) w5 := (Chg.refl _ _).grown HW.out.2.1 (fun x hx => .inl (by rw [hx]; simp))
  have hnB : ∀ t, 103 ≠ t → ∀ x ∈ [B], NotRow w5 t x := fun t ht x hx => by simp only [List.mem_singleton] at hx; subst hx; exact .of_cells HW.out.2.2 ht
  have hnG : ∀ t, 22 ≠ t → ∀ x ∈ (Value.slice aR k cR).ownBlock.toList, NotRow (w.alloc (.cells #[.slice r.a r.n r.c] 22)) t x := fun t ht x hx => row_notrow HA.out.1 (by simpa using hx) ht
  have hkg : KeptG w (w5.setCell ⟨B, 9, none⟩ (.slice a5 (k + 1) c5)) := ((KeptG.of0 HA.out.2.2.2.2.2.1).tr (.of hcG (fun x hx => by obtain ⟨_, _, cur, hcur⟩ := row_beyond HA.out.1 (by simpa using hx); exact ⟨cur, _, hcur, by decide⟩))).tr (.of hcS (fun x hx => by simp only [List.mem_singleton] at hx; subst hx; exact ⟨_, _, HW.out.2.2, by decide⟩))
  have hfin : BagQ w0 (w5.setCell ⟨B, 9, none⟩ (.slice a5 (k + 1) c5)) B VI VN (VR ++ [r]) VG := by
    refine ⟨HA.out.2.2.2.2.2.2.2.2, (((HA.out.2.2.2.2.2.2.2.1.tr HA.out.2.2.2.2.2.1).grown HW.out.2.1 (fun x hx => .inr (row_beyond HA.out.1 hx).1))).setCell (p := ⟨B, 9, none⟩) (.inr HA.out.2.2.2.2.2.2.2.2) _, aI, cI, aN, cN, a5, c5, aG, cG, ?_, ?_, ?_, ?_, ?_⟩
    · rw [show (VR ++ [r]).length = k + 1 by rw [HA.out.2.2.2.2.2.2.1]; simp]
      simpa using hset
    · exact hcS.rowOf (hcG.rowOf HO.out.1 (hnG _ (by decide))) (hnB _ (by decide))
    · exact hcS.rowOf (hcG.rowOf HO.out.2.1 (hnG _ (by decide))) (hnB _ (by decide))
    · unfold OR
      rw [List.map_append, show (VR ++ [r]).length = k + 1 by rw [HA.out.2.2.2.2.2.2.1]; simp]
      exact hcS.rowOf HW.out.1 (hnB _ (by decide))
    · exact hcS.rowOf (hcG.rowOf HO.out.2.2 (hnG _ (by decide))) (hnB _ (by decide))
  exact ⟨rfl, hfin, hkg⟩

set_option maxRecDepth 100000 in
set_option maxHeartbeats 4000000 in
theorem putQ_N (w0 w : World) (B : Nat) (VI VN VR VG : List IR) (ra : Option Addr) (rn rc : Nat) (h : BagQ w0 w B VI VN VR VG) (hk : VN.length ≤ 400000) (L : List Cp) (hL : NCells w0 ⟨ra, rn, rc⟩ L) (hk2 : VI.length + L.length ≤ 400000) :
    Calls Tryz.prog 185 #[.pointer (some ⟨B, 0, none⟩), .slice ra rn rc] w (PutQ w0 w B (VI ++ kidsIR L) (VN ++ [(⟨ra, rn, rc⟩ : IR)]) VR VG) := by
  obtain ⟨j0, hj0, hy0, hy1, hy2⟩ := info_parts Tryz.infoRowNQ
  obtain ⟨hlo, hchg, aI, cI, aN, cN, aR, cR, aG, cG, hb, hI, hN, hR, hG⟩ := h
  unfold OR at hI hN hR hG
  obtain ⟨k, hkk⟩ : ∃ k, k = VN.length := ⟨_, rfl⟩
  have x2 : w.cell? ⟨B, 8, none⟩ = some (.slice aN VN.length cN) := cell_of_cells hb 8
  have hlt := lt_of_block hb
  have hca := (Chg.refl [] w).alloc (.cells #[.slice ra rn rc] 23)
  have hrow2 := hca.row hN (fun _ _ => by simp)
  have hI2 := hca.row hI (fun _ _ => by simp)
  have hR2 := hca.row hR (fun _ _ => by simp)
  have hG2 := hca.row hG (fun _ _ => by simp)
  have hnew := cells_at (w := w.alloc (.cells #[.slice ra rn rc] 23)) (heap_alloc_same _ _)
  have h1 : ∀ u ∈ [Value.slice ra rn rc], u.oneCell' = true := by simp [Value.oneCell']
  have h2 : k + 1 ≤ maxLen ∧ (k + 1) * 24 ≤ 140737488355328 := by simp only [maxLen]; omega
  have hb2 := hca.heap hb (by simp)
  rw [← hkk] at x2 hrow2
  have HA := Lib.hid (And.intro hrow2 (And.intro hnew (And.intro h1 (And.intro h2 (And.intro hb2 (And.intro hca (And.intro hkk (And.intro hchg hlo))))))))
  have HO := Lib.hid (And.intro hI2 (And.intro hR2 hG2))
  have hbs : w0.heap.size ≤ (w.alloc (.cells #[.slice ra rn rc] 23)).heap.size := Nat.le_trans hchg.size hca.size
  clear hrow2 hnew h1 h2 hb2 hca hb hI hN hR hG hI2 hR2 hG2 hkk hchg hlo hk
  have HK := Lib.hid (And.intro hL hk2)
  clear hL hk2
  go_enter Tryz.func185, Tryz.ntmps185
  go_wp2_with (at_builtin; refine wpList_append_own_at _ rfl _ _ 37 rfl w0.heap.size 23 j0 _ 1 24 Tryz.underlying37 hj0 hy0 hy1 hy2 rfl (by decide) (.slice aN k cN) k _ rfl HA.out.1 ⟨w.heap.size, 0, none⟩ 1 1 [.slice ra rn rc] rfl rfl HA.out.2.1 HA.out.2.2.1 HA.out.2.2.2.1.1 HA.out.2.2.2.1.2 hbs ?_; intro v' w5 hr5 hg5 hn5 hb5; obtain ⟨a5, c5, rfl⟩ := ownsRow_slice hr5; have hB5 := grown_heap hg5 HA.out.2.2.2.2.1 (ownsRow_ne HA.out.1 HA.out.2.2.2.2.1 (by decide)); have q2 : w5.cell? ⟨B, 8, none⟩ = some (.slice aN k cN) := (by have := cell_of_cells hB5 8; rw [HA.out.2.2.2.2.2.2.1]; exact this); have f2 := free_of_cells hB5 8; have HW := Lib.hid (And.intro hr5 (And.intro hg5 hB5)); clear hr5 hg5 hn5 hb5 hB5)
  have hset := heap_setCell_same HW.out.2.2 8 (.slice a5 (k + 1) c5)
  have hcS := (Chg.refl [B] w5).setCell (p := ⟨B, 8, none⟩) (.inl (by simp)) (.slice a5 (k + 1) c5)
  have hcG : Chg (Value.slice aN k cN).ownBlock.toList (w.alloc (.cells #[.slice ra rn rc] 23)) w5 := (Chg.refl _ _).grown HW.out.2.1 (fun x hx => .inl (by rw [hx]; simp))
  have hnB : ∀ t, 103 ≠ t → ∀ x ∈ [B], NotRow w5 t x := fun t ht x hx => by simp only [List.mem_singleton] at hx; subst hx; exact .of_cells HW.out.2.2 ht
  have hnG : ∀ t, 23 ≠ t → ∀ x ∈ (Value.slice aN k cN).ownBlock.toList, NotRow (w.alloc (.cells #[.slice ra rn rc] 23)) t x := fun t ht x hx => row_notrow HA.out.1 (by simpa using hx) ht
  have hkg : KeptG w (w5.setCell ⟨B, 8, none⟩ (.slice a5 (k + 1) c5)) := ((KeptG.of0 HA.out.2.2.2.2.2.1).tr (.of hcG (fun x hx => by obtain ⟨_, _, cur, hcur⟩ := row_beyond HA.out.1 (by simpa using hx); exact ⟨cur, _, hcur, by decide⟩))).tr (.of hcS (fun x hx => by simp only [List.mem_singleton] at hx; subst hx; exact ⟨_, _, HW.out.2.2, by decide⟩))
  have hfin : BagQ w0 (w5.setCell ⟨B, 8, none⟩ (.slice a5 (k + 1) c5)) B VI (VN ++ [(⟨ra, rn, rc⟩ : IR)]) VR VG := by
    refine ⟨HA.out.2.2.2.2.2.2.2.2, (((HA.out.2.2.2.2.2.2.2.1.tr HA.out.2.2.2.2.2.1).grown HW.out.2.1 (fun x hx => .inr (row_beyond HA.out.1 hx).1))).setCell (p := ⟨B, 8, none⟩) (.inr HA.out.2.2.2.2.2.2.2.2) _, aI, cI, a5, c5, aR, cR, aG, cG, ?_, ?_, ?_, ?_, ?_⟩
    · rw [show (VN ++ [(⟨ra, rn, rc⟩ : IR)]).length = k + 1 by rw [HA.out.2.2.2.2.2.2.1]; simp]
      simpa using hset
    · exact hcS.rowOf (hcG.rowOf HO.out.1 (hnG _ (by decide))) (hnB _ (by decide))
    · unfold OR
      rw [List.map_append, show (VN ++ [(⟨ra, rn, rc⟩ : IR)]).length = k + 1 by rw [HA.out.2.2.2.2.2.2.1]; simp]
      exact hcS.rowOf HW.out.1 (hnB _ (by decide))
    · exact hcS.rowOf (hcG.rowOf HO.out.2.1 (hnG _ (by decide))) (hnB _ (by decide))
    · exact hcS.rowOf (hcG.rowOf HO.out.2.2 (hnG _ (by decide))) (hnB _ (by decide))
  obtain ⟨w6, e6⟩ : ∃ w6, w6 = w5.setCell ⟨B, 8, none⟩ (.slice a5 (k + 1) c5) := ⟨_, rfl⟩
  rw [← e6] at hfin hkg ⊢
  have HF := Lib.hid hfin
  have HG9 := Lib.hid hkg
  clear hset hcS hcG hnB hnG hfin e6 q2 f2 hkg
  obtain ⟨hLn, hLc, hLm, hLx⟩ := HK.out.1
  have hcm : rc ≤ 9223372036854775807 := by simp only [maxLen] at hLm; exact hLm
  have HN := Lib.hid (And.intro (show rn = L.length from hLn) trivial)
  clear hLn hLm hLx
  go_loopg [4] rn (fun dd iv wr => ∃ i : Nat, dd = rn - i ∧ i ≤ rn ∧ iv = .int .i64 i ∧ Hid (BagQ w0 wr B (VI ++ kidsIR (L.take i)) (VN ++ [(⟨ra, rn, rc⟩ : IR)]) VR VG ∧ KeptG w wr))
  case atStart => exact ⟨0, rfl, Nat.zero_le _, rfl, Lib.hid ⟨by simpa [kidsIR] using HF.out, HG9.out⟩⟩
  case round =>
    obtain ⟨i, rfl, hi, rfl, hin⟩ := hrel
    obtain ⟨wq, rfl⟩ : ∃ wq, wq = wr := ⟨_, rfl⟩
    by_cases hil : i < rn
    · have hiL : i < L.length := by have := HN.out.1; omega
      obtain ⟨b, rfl, hcell⟩ := HK.out.1.2.2.2 i hiL
      have hone := oneNodeQ w0 wq B _ _ VR VG L[i] hin.out.1 (by have := HK.out.2; simp [kidsIR]; omega)
      have hx : kidsIR (L.take (i + 1)) = kidsIR (L.take i) ++ [⟨(L[i]).2.1, (L[i]).1.kids.length, (L[i]).2.2⟩] := by
        unfold kidsIR; rw [List.take_succ_eq_append_getElem hiL, List.map_append]; rfl
      rw [List.append_assoc, ← hx] at hone
      have HX := Lib.hid hone
      obtain ⟨⟨⟨xk, xc0, xc1, xc2, xc3, xs, xr, xl, xkids⟩, ak, ck⟩, hp⟩ : ∃ p, p = L[i] := ⟨_, rfl⟩
      obtain ⟨nk, hnk⟩ : ∃ nk, nk = xkids.length := ⟨_, rfl⟩
      rw [← hp] at hcell hone
      have hc := hin.out.1.chg
      simp only [Cp.cells, Nd.cells] at hcell hone
      rw [← hnk] at hcell hone
      have p0 : wq.cell? ⟨b, i * 9, none⟩ = some (.int .i64 xk) := hc.cell (hcell 0 (by decide)) (by simp)
      have p1 : wq.cell? ⟨b, i * 9 + 1, none⟩ = some (.int .u64 xc0) := hc.cell (hcell 1 (by decide)) (by simp)
      have p2 : wq.cell? ⟨b, i * 9 + 2, none⟩ = some (.int .u64 xc1) := hc.cell (hcell 2 (by decide)) (by simp)
      have p3 : wq.cell? ⟨b, i * 9 + 3, none⟩ = some (.int .u64 xc2) := hc.cell (hcell 3 (by decide)) (by simp)
      have p4 : wq.cell? ⟨b, i * 9 + 4, none⟩ = some (.int .u64 xc3) := hc.cell (hcell 4 (by decide)) (by simp)
      have p5 : wq.cell? ⟨b, i * 9 + 5, none⟩ = some (.string xs) := hc.cell (hcell 5 (by decide)) (by simp)
      have p6 : wq.cell? ⟨b, i * 9 + 6, none⟩ = some (.int .i64 xr) := hc.cell (hcell 6 (by decide)) (by simp)
      have p7 : wq.cell? ⟨b, i * 9 + 7, none⟩ = some (.int .i64 xl) := hc.cell (hcell 7 (by decide)) (by simp)
      have p8 : wq.cell? ⟨b, i * 9 + 8, none⟩ = some (.slice ak nk ck) := hc.cell (hcell 8 (by decide)) (by simp)
      have hi1 : (i : Int) < rn := by omega
      have HO9 := Lib.hid hone
      clear hx hnk hp hcell hone hc HX
      go_wp2_with fail
      refine HO9.out.mono ?_
      rintro e w2 ⟨rfl, h2⟩
      have HB2 := Lib.hid h2
      clear h2 p0 p1 p2 p3 p4 p5 p6 p7 p8
      go_wp2_with fail
      go_roundg (rn - (i + 1))
      case measure => omega
      case rel => exact ⟨i + 1, rfl, by omega, by go_num, Lib.hid ⟨HB2.out.1, hin.out.2.tr HB2.out.2⟩⟩
    · obtain rfl : i = rn := by omega
      have hfin := hin.out
      rw [List.take_of_length_le (by have := HN.out.1; omega)] at hfin
      have HB2 := Lib.hid hfin
      clear hfin
      go_wp2_with fail
      refine bodyPost_ret (v := .tuple #[]) (by simp [results, Tryz.results185, go_sem]) rfl ?_
      exact ⟨rfl, HB2.out⟩

set_option maxRecDepth 100000 in
set_option maxHeartbeats 2000000 in
theorem oneGramQ (w0 w : World) (B : Nat) (VI VN VR VG : List IR) (ru nd : IR) (L : List Cp) (h : BagQ w0 w B VI VN VR VG) (hk1 : VN.length ≤ 400000) (hk3 : VR.length ≤ 400000) (hL : NCells w0 nd L) (hk2 : VI.length + L.length ≤ 400000) :
    Calls Tryz.prog 156 #[.pointer (some ⟨B, 0, none⟩), .agg #[.slice ru.a ru.n ru.c, .slice nd.a nd.n nd.c]] w (PutQ w0 w B (VI ++ kidsIR L) (VN ++ [nd]) (VR ++ [ru]) VG) := by
  have hca := (Chg.refl [] w).alloc (.cells #[.slice ru.a ru.n ru.c, .slice nd.a nd.n nd.c] 25)
  have hb := heap_alloc_same w (.cells #[.slice ru.a ru.n ru.c, .slice nd.a nd.n nd.c] 25)
  have h1 := putQ_R w0 _ B VI VN VR VG ru (h.chg0 hca) hk3
  have H := Lib.hid (And.intro hb (And.intro hL (And.intro h.chg hca)))
  have HK := Lib.hid (And.intro hk1 hk2)
  have hlt := lt_of_block hb
  obtain ⟨x0, x1⟩ := cells2 hb
  clear hb h hL
  go_enter Tryz.func156, Tryz.ntmps156
  go_wp2_with fail
  refine h1.mono ?_
  clear h1 x0 x1
  rintro e w2 ⟨rfl, h2, hk2⟩
  have HK2 := Lib.hid ((KeptG.of0 H.out.2.2.2).tr hk2)
  obtain ⟨x0, x1⟩ := cells2 (hk2 _ _ H.out.1)
  have hlt2 := lt_of_block (hk2 _ _ H.out.1)
  have HB2 := Lib.hid h2
  clear h2 hk2 hlt
  have hn := putQ_N w0 w2 B VI VN (VR ++ [ru]) VG nd.a nd.n nd.c HB2.out HK.out.1 L H.out.2.1 HK.out.2
  have HN := Lib.hid hn
  clear hn
  go_wp2_with fail
  refine HN.out.mono ?_
  rintro e w3 ⟨rfl, h3⟩
  have HB3 := Lib.hid h3
  clear h3
  go_wp2_with fail
  refine bodyPost_ret (v := .tuple #[]) (by simp [results, Tryz.results156, go_sem]) rfl ?_
  exact ⟨rfl, HB3.out.1, HK2.out.tr HB3.out.2⟩

set_option maxRecDepth 100000 in
set_option maxHeartbeats 4000000 in
theorem putQ_G (w0 w : World) (B : Nat) (VI VN VR VG : List IR) (ra : Option Addr) (rc : Nat) (ru nd : IR) (L : List Cp) (h : BagQ w0 w B VI VN VR VG) (hk : VG.length ≤ 400000) (hk1 : VN.length ≤ 400000) (hk3 : VR.length ≤ 400000) (hL : NCells w0 nd L) (hk2 : VI.length + L.length ≤ 400000) (hrc : 1 ≤ rc) (hrm : rc ≤ maxLen) (hrow : ∃ b, ra = some ⟨b, 0, none⟩ ∧ w0.cell? ⟨b, 0, none⟩ = some ru.v ∧ w0.cell? ⟨b, 1, none⟩ = some nd.v) :
    Calls Tryz.prog 116 #[.pointer (some ⟨B, 0, none⟩), .slice ra 1 rc] w (PutQ w0 w B (VI ++ kidsIR L) (VN ++ [nd]) (VR ++ [ru]) (VG ++ [(⟨ra, 1, rc⟩ : IR)])) := by
  obtain ⟨j0, hj0, hy0, hy1, hy2⟩ := info_parts Tryz.infoRowGQ
  obtain ⟨hlo, hchg, aI, cI, aN, cN, aR, cR, aG, cG, hb, hI, hN, hR, hG⟩ := h
  unfold OR at hI hN hR hG
  obtain ⟨k, hkk⟩ : ∃ k, k = VG.length := ⟨_, rfl⟩
  have x2 : w.cell? ⟨B, 11, none⟩ = some (.slice aG VG.length cG) := cell_of_cells hb 11
  have hlt := lt_of_block hb
  have hca := (Chg.refl [] w).alloc (.cells #[.slice ra 1 rc] 74)
  have hrow2 := hca.row hG (fun _ _ => by simp)
  have hI2 := hca.row hI (fun _ _ => by simp)
  have hN2 := hca.row hN (fun _ _ => by simp)
  have hR2 := hca.row hR (fun _ _ => by simp)
  have hnew := cells_at (w := w.alloc (.cells #[.slice ra 1 rc] 74)) (heap_alloc_same _ _)
  have h1 : ∀ u ∈ [Value.slice ra 1 rc], u.oneCell' = true := by simp [Value.oneCell']
  have h2 : k + 1 ≤ maxLen ∧ (k + 1) * 24 ≤ 140737488355328 := by simp only [maxLen]; omega
  have hb2 := hca.heap hb (by simp)
  rw [← hkk] at x2 hrow2
  have HA := Lib.hid (And.intro hrow2 (And.intro hnew (And.intro h1 (And.intro h2 (And.intro hb2 (And.intro hca (And.intro hkk (And.intro hchg hlo))))))))
  have HO := Lib.hid (And.intro hI2 (And.intro hN2 hR2))
  have hbs : w0.heap.size ≤ (w.alloc (.cells #[.slice ra 1 rc] 74)).heap.size := Nat.le_trans hchg.size hca.size
  clear hrow2 hnew h1 h2 hb2 hca hb hI hN hR hG hI2 hN2 hR2 hkk hchg hlo hk
  have HK := Lib.hid (And.intro hL (And.intro hk2 (And.intro hk1 (And.intro hk3 hrow))))
  clear hL hk2 hk1 hk3 hrow
  go_enter Tryz.func116, Tryz.ntmps116
  go_wp2_with (at_builtin; refine wpList_append_own_at _ rfl _ _ 75 rfl w0.heap.size 74 j0 _ 1 24 Tryz.underlying75 hj0 hy0 hy1 hy2 rfl (by decide) (.slice aG k cG) k _ rfl HA.out.1 ⟨w.heap.size, 0, none⟩ 1 1 [.slice ra 1 rc] rfl rfl HA.out.2.1 HA.out.2.2.1 HA.out.2.2.2.1.1 HA.out.2.2.2.1.2 hbs ?_; intro v' w5 hr5 hg5 hn5 hb5; obtain ⟨a5, c5, rfl⟩ := ownsRow_slice hr5; have hB5 := grown_heap hg5 HA.out.2.2.2.2.1 (ownsRow_ne HA.out.1 HA.out.2.2.2.2.1 (by decide)); have q2 : w5.cell? ⟨B, 11, none⟩ = some (.slice aG k cG) := (by have := cell_of_cells hB5 11; rw [HA.out.2.2.2.2.2.2.1]; exact this); have f2 := free_of_cells hB5 11; have HW := Lib.hid (And.intro hr5 (And.intro hg5 hB5)); clear hr5 hg5 hn5 hb5 hB5)
  have hset := heap_setCell_same HW.out.2.2 11 (.slice a5 (k + 1) c5)
  have hcS := (Chg.refl [B] w5).setCell (p := ⟨B, 11, none⟩) (.inl (by simp)) (.slice a5 (k + 1) c5)
  have hcG : Chg (Value.slice aG k cG).ownBlock.toList (w.alloc (.cells #[.slice ra 1 rc] 74)) w5 := (Chg.refl _ _).grown HW.out.2.1 (fun x hx => .inl (by rw [hx]; simp))
  have hnB : ∀ t, 103 ≠ t → ∀ x ∈ [B], NotRow w5 t x := fun t ht x hx => by simp only [List.mem_singleton] at hx; subst hx; exact .of_cells HW.out.2.2 ht
  have hnG : ∀ t, 74 ≠ t → ∀ x ∈ (Value.slice aG k cG).ownBlock.toList, NotRow (w.alloc (.cells #[.slice ra 1 rc] 74)) t x := fun t ht x hx => row_notrow HA.out.1 (by simpa using hx) ht
  have hkg : KeptG w (w5.setCell ⟨B, 11, none⟩ (.slice a5 (k + 1) c5)) := ((KeptG.of0 HA.out.2.2.2.2.2.1).tr (.of hcG (fun x hx => by obtain ⟨_, _, cur, hcur⟩ := row_beyond HA.out.1 (by simpa using hx); exact ⟨cur, _, hcur, by decide⟩))).tr (.of hcS (fun x hx => by simp only [List.mem_singleton] at hx; subst hx; exact ⟨_, _, HW.out.2.2, by decide⟩))
  have hfin : BagQ w0 (w5.setCell ⟨B, 11, none⟩ (.slice a5 (k + 1) c5)) B VI VN VR (VG ++ [(⟨ra, 1, rc⟩ : IR)]) := by
    refine ⟨HA.out.2.2.2.2.2.2.2.2, (((HA.out.2.2.2.2.2.2.2.1.tr HA.out.2.2.2.2.2.1).grown HW.out.2.1 (fun x hx => .inr (row_beyond HA.out.1 hx).1))).setCell (p := ⟨B, 11, none⟩) (.inr HA.out.2.2.2.2.2.2.2.2) _, aI, cI, aN, cN, aR, cR, a5, c5, ?_, ?_, ?_, ?_, ?_⟩
    · rw [show (VG ++ [(⟨ra, 1, rc⟩ : IR)]).length = k + 1 by rw [HA.out.2.2.2.2.2.2.1]; simp]
      simpa using hset
    · exact hcS.rowOf (hcG.rowOf HO.out.1 (hnG _ (by decide))) (hnB _ (by decide))
    · exact hcS.rowOf (hcG.rowOf HO.out.2.1 (hnG _ (by decide))) (hnB _ (by decide))
    · exact hcS.rowOf (hcG.rowOf HO.out.2.2 (hnG _ (by decide))) (hnB _ (by decide))
    · unfold OR
      rw [List.map_append, show (VG ++ [(⟨ra, 1, rc⟩ : IR)]).length = k + 1 by rw [HA.out.2.2.2.2.2.2.1]; simp]
      exact hcS.rowOf HW.out.1 (hnB _ (by decide))
  obtain ⟨w6, e6⟩ : ∃ w6, w6 = w5.setCell ⟨B, 11, none⟩ (.slice a5 (k + 1) c5) := ⟨_, rfl⟩
  rw [← e6] at hfin hkg ⊢
  have HF := Lib.hid hfin
  have HG9 := Lib.hid hkg
  clear hset hcS hcG hnB hnG hfin e6 q2 f2 hkg
  obtain ⟨b, rfl, hx0, hx1⟩ := HK.out.2.2.2.2
  have hcm : rc ≤ 9223372036854775807 := by simp only [maxLen] at hrm; exact hrm
  have hone := oneGramQ w0 w6 B VI VN VR (VG ++ [(⟨some ⟨b, 0, none⟩, 1, rc⟩ : IR)]) ru nd L HF.out HK.out.2.2.1 HK.out.2.2.2.1 HK.out.1 HK.out.2.1
  have y0 : w6.cell? ⟨b, 0, none⟩ = some (.slice ru.a ru.n ru.c) := HF.out.chg.cell hx0 (by simp)
  have y1 : w6.cell? ⟨b, 1, none⟩ = some (.slice nd.a nd.n nd.c) := HF.out.chg.cell hx1 (by simp)
  clear hx0 hx1
  have HY := Lib.hid (And.intro hone (And.intro y0 y1))
  clear hone y0 y1
  go_loopg [4] 1 (fun dd iv wr => ∃ i : Nat, dd = 1 - i ∧ i ≤ 1 ∧ iv = .int .i64 i ∧ Hid ((i = 0 → wr = w6) ∧ (i = 1 → BagQ w0 wr B (VI ++ kidsIR L) (VN ++ [nd]) (VR ++ [ru]) (VG ++ [(⟨some ⟨b, 0, none⟩, 1, rc⟩ : IR)]) ∧ KeptG w wr)))
  case atStart => exact ⟨0, rfl, Nat.zero_le _, rfl, Lib.hid ⟨fun _ => rfl, fun h => absurd h (by decide)⟩⟩
  case round =>
    obtain ⟨i, rfl, hi, rfl, hin⟩ := hrel
    rcases (show i = 0 ∨ i = 1 by omega) with rfl | rfl
    · obtain rfl := hin.out.1 rfl
      obtain ⟨hone, y0, y1⟩ := HY.out
      have hz : ((0 : Nat) : Int) = 0 := rfl
      rw [hz]
      go_wp2_with fail
      refine hone.mono ?_
      rintro e w2 ⟨rfl, h2⟩
      have HB2 := Lib.hid h2
      clear h2 y0 y1 hone
      go_wp2_with fail
      go_roundg 0
      case measure => omega
      case rel => exact ⟨1, rfl, by omega, by go_num, Lib.hid ⟨fun h => absurd h (by decide), fun _ => ⟨HB2.out.1, HG9.out.tr HB2.out.2⟩⟩⟩
    · have HB2 := Lib.hid (hin.out.2 rfl)
      have hz : ((1 : Nat) : Int) = 1 := rfl
      rw [hz]
      clear hin
      go_wp2_with fail
      refine bodyPost_ret (v := .tuple #[]) (by simp [results, Tryz.results116, go_sem]) rfl ?_
      exact ⟨rfl, HB2.out⟩
end Go.Proofs.YtibgfgfmljhimaaGreat

/-
  The kit: are two rows of rows of numbers the same?
  Conditions: both read as data.
-/
import Derived.Test.YtplpboknmhgpiaaCEdCpOpen
import Derived.Test.YtplpboknmhgpiaaCEdGKit
import Derived.Test.YtplpboknmhgpiaaCEdCpRg
import Derived.Test.YtplpboknmhgpiaaCEdCpTu
set_option linter.unusedVariables false
set_option linter.unusedSimpArgs false
set_option linter.unnecessarySimpa false
namespace Go.Proofs.Ytplpboknmhgpiaa
open Go.RowKit Go.MapKept Go.Shelf

set_option maxRecDepth 100000 in
set_option maxHeartbeats 4000000 in
theorem sameIntRows_any (w : World) (a b : Option Addr) (n c m d' : Nat) (VS US : List Is) (hn : n = VS.length) (hm : m = US.length) (hs : n ≤ 9223372036854775807) (hs2 : m ≤ 9223372036854775807) (hx : IntRows w a VS) (hy : IntRows w b US) :
    Calls Try.prog 19 #[.slice a n c, .slice b m d'] w fun e w' => e = .returned (.bool (decide (VS.map (·.2.2) = US.map (·.2.2)))) ∧ Chg [] w w' := by
  obtain ⟨R, hR⟩ : ∃ R, R = decide (VS.map (·.2.2) = US.map (·.2.2)) := ⟨_, rfl⟩
  rw [← hR]
  have H := Lib.hid (And.intro hn (And.intro hx (And.intro hy (And.intro hR hm))))
  clear hn hx hy hR hm
  go_enter Try.func19, Try.ntmps19
  by_cases hnm : n = m
  · subst hnm
    go_wp2_with fail
    go_loopg [5] n (fun d iv wr => ∃ k : Nat, d = n - k ∧ k ≤ n ∧ iv = .int .i64 k ∧ Hid (Chg [] w wr ∧ ∀ (j : Nat) (h1 : j < VS.length) (h2 : j < US.length), j < k → VS[j].2.2 = US[j].2.2))
    case atStart => exact ⟨0, rfl, Nat.zero_le _, rfl, Lib.hid ⟨Chg.refl _ _, fun j _ _ h => absurd h (Nat.not_lt_zero _)⟩⟩
    case round =>
      obtain ⟨k, rfl, hk, rfl, hin⟩ := hrel
      obtain ⟨wq, rfl⟩ : ∃ wq, wq = wr := ⟨_, rfl⟩
      by_cases hlt : k < n
      · have hkx : k < VS.length := by have := H.out.1; omega
        have hky : k < US.length := by have := H.out.2.2.2.2; omega
        obtain ⟨bx, ox, rfl, hx, ix, lx⟩ := (H.out.2.1.keep hin.out.1.kp) k hkx
        obtain ⟨bb, oy, rfl, hy, iy, ly⟩ := (H.out.2.2.1.keep hin.out.1.kp) k hky
        obtain ⟨z, hz⟩ : ∃ z, z = VS[k].2.2 := ⟨_, rfl⟩
        obtain ⟨y, hyy⟩ : ∃ y, y = US[k].2.2 := ⟨_, rfl⟩
        simp only [Is.cell] at hx hy
        rw [← hz] at hx ix lx
        rw [← hyy] at hy iy ly
        obtain ⟨zl, hzl⟩ : ∃ zl, zl = z.length := ⟨_, rfl⟩
        obtain ⟨yl, hyl⟩ : ∃ yl, yl = y.length := ⟨_, rfl⟩
        obtain ⟨va, hva⟩ : ∃ va, va = VS[k].1 := ⟨_, rfl⟩
        obtain ⟨vc, hvc⟩ : ∃ vc, vc = VS[k].2.1 := ⟨_, rfl⟩
        obtain ⟨ua, hua⟩ : ∃ ua, ua = US[k].1 := ⟨_, rfl⟩
        obtain ⟨uc, huc⟩ : ∃ uc, uc = US[k].2.1 := ⟨_, rfl⟩
        rw [← hzl, ← hva, ← hvc] at hx
        rw [← hyl, ← hua, ← huc] at hy
        rw [← hva] at ix
        rw [← hua] at iy
        have cA := calls_rg (w := wq) (fun w1 h1 => sameInts_any w1 va ua zl vc yl uc z y hzl hyl (by omega) (ix.keep h1.kp) (iy.keep h1.kp))
        obtain ⟨r, hr⟩ : ∃ r, r = decide (z = y) := ⟨_, rfl⟩
        rw [← hr] at cA
        have kx := cell_rg hx
        have ky := cell_rg hy
        have HR := Lib.hid (And.intro hr (And.intro hz hyy))
        clear hz hyy hva hvc hua huc ix iy lx ly hx hy hzl hyl hr
        cases r with
        | true =>
          go_wp2_with fail
          refine wp_region_quiet_below (by kernel_rfl) (by kernel_rfl) ?_
          repeat (go_big_quiet_step (first | (with_reducible exact cA _ _)))
          refine wpQuiet_nil ?_
          intro w4 hw4
          have hc4 := chg_of_rg hw4
          clear hw4 cA kx ky
          go_wp2_with fail
          go_roundg (n - (k + 1))
          case measure => omega
          case rel => exact ⟨k + 1, rfl, by omega, by go_num, Lib.hid ⟨hin.out.1.tr hc4, fun j h1 h2 hj => by
            by_cases e : j = k
            · subst e
              have := HR.out
              rw [← this.2.1, ← this.2.2]
              exact of_decide_eq_true this.1.symm
            · exact hin.out.2 j h1 h2 (by omega)⟩⟩
        | false =>
          go_wp2_with fail
          refine wp_region_quiet_below (by kernel_rfl) (by kernel_rfl) ?_
          repeat (go_big_quiet_step (first | (with_reducible exact cA _ _)))
          refine wpQuiet_nil ?_
          intro w4 hw4
          have hc4 := chg_of_rg hw4
          clear hw4 cA kx ky
          go_wp2_with fail
          go_ret
          refine ⟨ret_bool (a := false) ?_, hin.out.1.tr hc4⟩
          rw [H.out.2.2.2.1]
          refine (decide_eq_false (fun e => ?_)).symm
          have h1 : (VS.map (·.2.2))[k]? = (US.map (·.2.2))[k]? := by rw [e]
          have h2 := of_decide_eq_false HR.out.1.symm
          rw [HR.out.2.1, HR.out.2.2] at h2
          simp [hkx, hky] at h1
          exact h2 h1
      · obtain rfl : k = n := by omega
        go_wp2_with fail
        go_ret
        refine ⟨ret_bool (a := true) ?_, hin.out.1⟩
        rw [H.out.2.2.2.1]
        refine (decide_eq_true ?_).symm
        apply List.ext_getElem (by rw [List.length_map, List.length_map, ← H.out.1, ← H.out.2.2.2.2])
        intro i h1 h2
        rw [List.length_map] at h1 h2
        simp only [List.getElem_map]
        exact hin.out.2 i h1 h2 (by rw [H.out.1]; exact h1)
  · have hd : decide ((n : Int) = (m : Int)) = false := decide_eq_false (by omega)
    have hd2 : ((n : Int) == (m : Int)) = false := beq_eq_false_iff_ne.2 (by omega)
    go_wp2_with fail
    go_ret
    refine ⟨ret_bool (a := false) ?_, Chg.refl _ _⟩
    rw [H.out.2.2.2.1]
    refine (decide_eq_false (fun e => hnm ?_)).symm
    have := congrArg List.length e
    rw [List.length_map, List.length_map, ← H.out.1, ← H.out.2.2.2.2] at this
    exact this
end Go.Proofs.Ytplpboknmhgpiaa
set_option linter.unusedVariables false
set_option linter.unusedSimpArgs false
set_option linter.unnecessarySimpa false
namespace Go.Proofs.Ytplpboknmhgpiaa
open Go.RowKit Go.MapKept Go.Shelf

def lits : World → List (List Int) → World
  | W, [] => W
  | W, zs :: L => lits (W.alloc (.cells (zs.map (Value.int .i64)).toArray 3)) L
def litVS : Nat → List (List Int) → List Is
  | _, [] => []
  | b, zs :: L => (some ⟨b, 0, none⟩, zs.length, zs) :: litVS (b + 1) L
theorem litVS_len : ∀ (L : List (List Int)) (b : Nat), (litVS b L).length = L.length
  | [], _ => rfl
  | _ :: L, b => by show (litVS (b + 1) L).length + 1 = _; rw [litVS_len L]; rfl
theorem litVS_rows : ∀ (L : List (List Int)) (b : Nat), (litVS b L).map (·.2.2) = L
  | [], _ => rfl
  | zs :: L, b => by show zs :: (litVS (b + 1) L).map (·.2.2) = _; rw [litVS_rows L]
theorem lits_chg : ∀ (L : List (List Int)) (W : World), Chg [] W (lits W L)
  | [], W => Chg.refl _ _
  | zs :: L, W => ((Chg.refl [] W).alloc _).tr (lits_chg L _)
theorem lits_size : ∀ (L : List (List Int)) (W : World), (lits W L).heap.size = W.heap.size + L.length
  | [], W => rfl
  | zs :: L, W => by show (lits _ L).heap.size = _; rw [lits_size L, World.size_alloc, List.length_cons]; omega
theorem ints_of_cells {w : World} {g : Nat} {zs : List Int} {t : TypeId} {m : Nat × Nat} (h : w.heap[g]? = some (.cells (zs.map (Value.int .i64)).toArray t m)) : Ints w (some ⟨g, 0, none⟩) zs := fun i hi => ⟨g, 0, rfl, by rw [cell_of_cells h]; simp [hi]⟩
theorem lits_at : ∀ (L : List (List Int)) (W : World) (i : Nat) (h : i < (litVS W.heap.size L).length), Ints (lits W L) ((litVS W.heap.size L)[i]).1 ((litVS W.heap.size L)[i]).2.2
  | [], W, i, h => by simp [litVS] at h
  | zs :: L, W, 0, h => (ints_of_cells (heap_alloc_same W (.cells (zs.map (Value.int .i64)).toArray 3))).keep (lits_chg L _).kp
  | zs :: L, W, i + 1, h => by
    have h2 : i < (litVS (W.alloc (.cells (zs.map (Value.int .i64)).toArray 3)).heap.size L).length := by
      rw [litVS_len] at h ⊢; simpa using h
    have := lits_at L (W.alloc (.cells (zs.map (Value.int .i64)).toArray 3)) i h2
    simp only [World.size_alloc] at this
    exact this
def litW (W : World) (L : List (List Int)) : World := (lits W L).alloc (.cells ((litVS W.heap.size L).map Is.cell).toArray 26)
theorem litW_rows (W : World) (L : List (List Int)) (hL : ∀ l ∈ L, l.length ≤ 9223372036854775807) : IntRows (litW W L) (some ⟨W.heap.size + L.length, 0, none⟩) (litVS W.heap.size L) ∧ Chg [] W (litW W L) := by
  refine ⟨fun i hi => ⟨_, 0, rfl, ?_, (lits_at L W i hi).keep ((Chg.refl [] _).alloc _).kp, ?_⟩, (lits_chg L W).alloc _⟩
  · have h := heap_alloc_same (lits W L) (.cells ((litVS W.heap.size L).map Is.cell).toArray 26)
    rw [lits_size] at h
    show (litW W L).cell? _ = _
    unfold litW
    rw [Nat.zero_add, cell_of_cells h]
    simp [hi]
  · have : (litVS W.heap.size L)[i].2.2 ∈ (litVS W.heap.size L).map (·.2.2) := List.mem_map.2 ⟨_, List.getElem_mem hi, rfl⟩
    rw [litVS_rows] at this
    exact hL _ this
def exX : List (List Int) := [[1, 3], [2], [1], [3], [0]]
def TableP (w : World) (X : List (List Int)) (e : Ending) (w' : World) : Prop := ∃ (a : Option Addr) (VS : List Is), e = .returned (.slice a X.length X.length) ∧ IntRows w' a VS ∧ VS.map (·.2.2) = X ∧ Chg [] w w'

set_option maxRecDepth 100000 in
set_option maxHeartbeats 4000000 in
theorem example13_any (w : World) : Calls Try.prog 24 #[] w (TableP w exX) := by
  go_enter Try.func24, Try.ntmps24
  go_wp2_with fail
  go_ret
  obtain ⟨h1, h2⟩ := litW_rows w exX (by decide)
  exact ⟨some ⟨w.heap.size + 5, 0, none⟩, litVS w.heap.size exX, rfl, h1, litVS_rows _ _, h2⟩
set_option maxRecDepth 100000 in
set_option maxHeartbeats 8000000 in
theorem awake13_any (w : World) : Calls Try.prog 9 #[] w fun e w' => e = .returned (.bool true) ∧ Chg [] w w' := by
  go_enter Try.func9, Try.ntmps9
  go_wp2_with fail
  refine (example13_any w).mono ?_
  rintro e w1 ⟨a, VX, rfl, hX, hVX, hc1⟩
  have hl : 5 = VX.length := by have := congrArg List.length hVX; rw [List.length_map] at this; exact this.symm
  have H1 := Lib.hid (And.intro hX (And.intro hVX (And.intro hc1 hl)))
  clear hX hVX hc1 hl
  simp only [show exX.length = 5 from rfl]
  go_wp2_with fail
  refine (parts_any w1 a 5 5 VX H1.out.2.2.2 (by omega) H1.out.1).mono ?_
  rintro e w2 ⟨la, lc, VS, rfl, hO, hV, hc2⟩
  rw [H1.out.2.1] at hV
  have hV2 : VS.map (·.2.2) = [[1, 2], [3], [0], [4]] := hV.trans (by decide +kernel)
  have hl2 : 4 = VS.length := by have := congrArg List.length hV2; rw [List.length_map] at this; exact this.symm
  rw [← hl2]
  have H2 := Lib.hid (And.intro hO.rows (And.intro hV2 (And.intro hc2 hl2)))
  clear hO hV hV2 hc2 hl2
  go_wp2_with fail
  obtain ⟨w3, e3⟩ : ∃ w3, w3 = litW w2 [[1, 2], [3], [0], [4]] := ⟨_, rfl⟩
  change Calls _ _ _ (litW w2 [[1, 2], [3], [0], [4]]) _
  rw [← e3]
  obtain ⟨hr3, hc3⟩ := litW_rows w2 [[1, 2], [3], [0], [4]] (by decide)
  rw [← e3] at hr3 hc3
  refine (sameIntRows_any w3 la (some ⟨w2.heap.size + 4, 0, none⟩) 4 lc 4 4 VS (litVS w2.heap.size [[1, 2], [3], [0], [4]]) H2.out.2.2.2 rfl (by omega) (by omega) (H2.out.1.keep hc3.kp) hr3).mono ?_
  rintro e w4 ⟨rfl, hc4⟩
  rw [litVS_rows, H2.out.2.1, show decide (([[1, 2], [3], [0], [4]] : List (List Int)) = [[1, 2], [3], [0], [4]]) = true from by decide]
  have H4 := Lib.hid (((H2.out.2.2.1).tr hc3).tr hc4)
  clear e3 hr3 hc3 hc4
  go_wp2_with fail
  refine (ring_any w4 a 5 5 VX H1.out.2.2.2 (by omega) (H1.out.1.keep H4.out.kp) 1 (by decide)).mono ?_
  rintro e w5 ⟨rfl, hc5⟩
  rw [H1.out.2.1, show Cp.ringI exX 1 = true from by decide +kernel]
  have H5 := Lib.hid (H4.out.tr hc5)
  clear hc5
  go_wp2_with fail
  refine (ring_any w5 a 5 5 VX H1.out.2.2.2 (by omega) (H1.out.1.keep H5.out.kp) 3 (by decide)).mono ?_
  rintro e w6 ⟨rfl, hc6⟩
  rw [H1.out.2.1, show Cp.ringI exX 3 = true from by decide +kernel]
  have H6 := Lib.hid (H5.out.tr hc6)
  clear hc6
  go_wp2_with fail
  refine (ring_any w6 a 5 5 VX H1.out.2.2.2 (by omega) (H1.out.1.keep H6.out.kp) 0 (by decide)).mono ?_
  rintro e w7 ⟨rfl, hc7⟩
  rw [H1.out.2.1, show Cp.ringI exX 0 = false from by decide +kernel]
  have H7 := Lib.hid (H6.out.tr hc7)
  clear hc7
  go_wp2_with fail
  refine (part_any w7 a 5 5 VX H1.out.2.2.2 (by omega) (H1.out.1.keep H7.out.kp) 4 (by decide)).mono ?_
  rintro e w8 ⟨rfl, hc8⟩
  rw [H1.out.2.1, show Cp.partI exX 4 = 3 from by decide +kernel]
  have H8 := Lib.hid (H7.out.tr hc8)
  clear hc8
  go_wp2_with fail
  refine (leadsC_any w8 a 5 5 VX H1.out.2.2.2 (by omega) (H1.out.1.keep H8.out.kp) 4 2 (by decide) (by decide)).mono ?_
  rintro e w9 ⟨rfl, hc9⟩
  rw [H1.out.2.1, show Cp.leadsI exX 4 2 = true from by decide +kernel]
  have H9 := Lib.hid (H8.out.tr hc9)
  clear hc9
  go_wp2_with fail
  refine (leadsC_any w9 a 5 5 VX H1.out.2.2.2 (by omega) (H1.out.1.keep H9.out.kp) 2 4 (by decide) (by decide)).mono ?_
  rintro e w10 ⟨rfl, hc10⟩
  rw [H1.out.2.1, show Cp.leadsI exX 2 4 = false from by decide +kernel]
  have H10 := Lib.hid (H9.out.tr hc10)
  clear hc10
  go_wp2_with fail
  go_ret
  exact ⟨rfl, H1.out.2.2.1.tr H10.out⟩
end Go.Proofs.Ytplpboknmhgpiaa

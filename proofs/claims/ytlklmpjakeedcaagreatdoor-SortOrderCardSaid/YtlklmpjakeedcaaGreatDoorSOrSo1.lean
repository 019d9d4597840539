/-
  Package sort: the part of a number, whether it calls itself, whether there are others, its sort.
  Conditions: a graph with its parts stands in memory.
-/
import Derived.Test.YtlklmpjakeedcaaGreatDoorSOrSoG0
import Derived.Test.YtlklmpjakeedcaaGreatDoorSOrCpY
import Derived.Test.YtlklmpjakeedcaaGreatDoorSOrCpRq
import Derived.Test.YtlklmpjakeedcaaGreatDoorSOrLfH
set_option linter.unusedVariables false
set_option linter.unusedSimpArgs false
set_option linter.unnecessarySimpa false
namespace Go.Proofs.YtlklmpjakeedcaaGreatDoor
open Go.RowKit Go.MapKept Go.Shelf

/-- A graph with its parts. -/
structure WkAt (w : World) (ga : Option Addr) (gn gc : Nat) (pa : Option Addr) (pn pc : Nat) (VG VP : List Is) (X : List (List Int)) : Prop where
  gn : gn = VG.length
  pn : pn = VP.length
  gi : IntRows w ga VG
  pi : IntRows w pa VP
  eg : VG.map (·.2.2) = X
  ep : VP.map (·.2.2) = Cp.partsI X
  right : Cp.rightI X = true
theorem WkAt.keep {w w' : World} {ga : Option Addr} {gn gc : Nat} {pa : Option Addr} {pn pc : Nat} {VG VP : List Is} {X : List (List Int)} (h : WkAt w ga gn gc pa pn pc VG VP X) (k : Kp w w') : WkAt w' ga gn gc pa pn pc VG VP X := ⟨h.gn, h.pn, h.gi.keep k, h.pi.keep k, h.eg, h.ep, h.right⟩
theorem WkAt.len {w : World} {ga : Option Addr} {gn gc : Nat} {pa : Option Addr} {pn pc : Nat} {VG VP : List Is} {X : List (List Int)} (h : WkAt w ga gn gc pa pn pc VG VP X) : gn = X.length ∧ gn ≤ 64 := by
  have h1 : gn = X.length := by rw [h.gn, ← h.eg, List.length_map]
  have h2 := h.right
  unfold Cp.rightI at h2
  rw [Bool.and_eq_true] at h2
  have := of_decide_eq_true h2.1
  exact ⟨h1, by omega⟩
theorem WkAt.plen {w : World} {ga : Option Addr} {gn gc : Nat} {pa : Option Addr} {pn pc : Nat} {VG VP : List Is} {X : List (List Int)} (h : WkAt w ga gn gc pa pn pc VG VP X) : pn = (Cp.partsI X).length ∧ pn ≤ 64 := by
  have h1 : pn = (Cp.partsI X).length := by rw [h.pn, ← h.ep, List.length_map]
  have := Cp.place_small (Cp.right_RG h.right) 0
  have h2 : (Cp.partsI X).length ≤ 64 := by unfold Cp.partsI; rw [h.right, if_pos rfl, Cp.intsG_len]; exact this.2.2
  exact ⟨h1, by omega⟩

set_option maxRecDepth 100000 in
set_option maxHeartbeats 1000000 in
theorem with1_any (w : World) (a : Option Addr) (n c : Nat) (zs : List Int) (hn : n = zs.length) (hs : n ≤ 9223372036854775807) (hz : Ints w a zs) (bk : Nat) (x : Int) (hb : w.heap[bk]? = some (.cells #[.int .i64 x] 3 (0, 0))) :
    Calls Tryz.prog 79 #[.slice a n c, .pointer (some ⟨bk, 0, none⟩)] w fun e w' => e = .returned (.bool (zs.contains x)) ∧ Chg [] w w' := by
  have H := Lib.hid (contains_any w a n c zs hn hs hz x)
  obtain ⟨R, hR⟩ : ∃ R, R = zs.contains x := ⟨_, rfl⟩
  rw [← hR] at H ⊢
  have hbk := lt_of_block hb
  have c0 := cells1 hb
  clear hn hz hR hb
  go_enter Tryz.func79, Tryz.ntmps79
  go_wp2_with fail
  refine H.out.mono ?_
  rintro e w1 ⟨rfl, hc⟩
  have H1 := Lib.hid hc
  clear hc
  go_wp2_with fail
  go_ret
  exact ⟨rfl, H1.out⟩

set_option maxRecDepth 100000 in
set_option maxHeartbeats 2000000 in
theorem idxRow_any (w : World) (a : Option Addr) (n c : Nat) (VS : List Is) (g : Nat) (lb : Array Value) (p : Is → Bool) (hn : n = VS.length) (hs : n ≤ 9223372036854775807) (hr : IntRows w a VS)
    (hp : ∀ i (h : i < VS.length) w1, Chg [] w w1 → Calls Tryz.prog g (#[VS[i].cell] ++ lb) w1 fun e w2 => e = .returned (.bool (p VS[i])) ∧ Chg [] w1 w2)
    (eg : ∀ args w, (callFunc g args).run Tryz.prog w = .ok (.enter g args) w) :
    Calls Tryz.prog 78 #[.slice a n c, .func (.func g) #[] lb] w fun e w' => e = .returned (.int .i64 (idxI VS p)) ∧ Chg [] w w' := by
  have H := Lib.hid (And.intro hn (And.intro hr hp))
  clear hn hr hp
  go_enter Tryz.func78, Tryz.ntmps78
  go_wp2_with fail
  go_loopg [8] n (fun d iv wr => ∃ k : Nat, d = n - k ∧ k ≤ n ∧ iv = .int .i64 k ∧ Chg [] w wr ∧ Hid (∀ j (h : j < VS.length), j < k → p VS[j] = false))
  case atStart => exact ⟨0, rfl, Nat.zero_le _, rfl, Chg.refl _ _, Lib.hid (fun j _ h => by omega)⟩
  case round =>
    obtain ⟨k, rfl, hk, rfl, hcw, hb⟩ := hrel
    have HC := Lib.hid hcw
    clear hcw
    by_cases hlt : k < n
    · have hk' : k < VS.length := by have := H.out.1; omega
      obtain ⟨b, o, rfl, h1, -, -⟩ := (H.out.2.1.keep HC.out.kp) k hk'
      have hcall := H.out.2.2 k hk'
      have hbk := World.block_lt_of_cell? _ _ h1
      simp only at hbk
      obtain ⟨r, hr⟩ : ∃ r, r = VS[k] := ⟨_, rfl⟩
      rw [← hr] at hcall h1
      obtain ⟨sa, sc, sz⟩ := r
      simp only [Is.cell] at hcall h1
      obtain ⟨sl, hsl⟩ : ∃ sl, sl = sz.length := ⟨_, rfl⟩
      rw [← hsl] at hcall h1
      have HR := Lib.hid (And.intro hr hcall)
      clear hcall hr hsl
      go_wp2_with fail
      refine (HR.out.2 _ HC.out).mono ?_
      rintro e w1 ⟨rfl, hc1⟩
      have H1 := Lib.hid hc1
      clear hc1
      cases hp : p (sa, sc, sz)
      · go_wp2
        go_roundg (n - (k + 1))
        case measure => omega
        case rel =>
          refine ⟨k + 1, rfl, by omega, by go_num, HC.out.tr H1.out, Lib.hid fun j h hj => ?_⟩
          by_cases e : j = k
          · subst e; rw [← HR.out.1]; exact hp
          · exact hb.out j h (by omega)
      · go_wp2
        go_ret
        refine ⟨ret_int ?_, HC.out.tr H1.out⟩
        have hk' : k < VS.length := by have := H.out.1; omega
        have hf := findIdx_at hk' (by rw [← HR.out.1]; exact hp) (fun j hj => hb.out j (by omega) hj)
        unfold idxI
        rw [hf, if_pos hk']
    · obtain rfl : k = n := by omega
      go_wp2
      go_ret
      refine ⟨ret_int ?_, HC.out⟩
      have hf := findIdx_none (p := p) (l := VS) (fun j hj => hb.out j hj (by have := H.out.1; omega))
      unfold idxI
      rw [hf, if_neg (by omega)]

/-- The place of a number's part is found. -/
theorem idx_part {w : World} {ga : Option Addr} {gn gc : Nat} {pa : Option Addr} {pn pc : Nat} {VG VP : List Is} {X : List (List Int)} (h : WkAt w ga gn gc pa pn pc VG VP X) {i : Nat} (hi : i < X.length) :
    ∃ p : Nat, ∃ hp : p < VP.length, idxI VP (fun q => q.2.2.contains (i : Int)) = (p : Int) ∧ VP[p].2.2 = withI X i ∧ (p : Int) = Cp.partI X i := by
  obtain ⟨p, hpi, hpl, hw, _, hm⟩ := so_part h.right hi
  have hlen : VP.length = (Cp.partsI X).length := by rw [← h.ep, List.length_map]
  have hrow : ∀ j (hj : j < VP.length), VP[j].2.2 = (Cp.partsI X)[j]'(by omega) := fun j hj => by simp [← h.ep]
  have hj : VP.findIdx (fun q => q.2.2.contains (i : Int)) < VP.length := by
    rw [List.findIdx_lt_length]
    refine ⟨VP[p]'(by omega), List.getElem_mem _, ?_⟩
    have h1 : (Cp.partsI X)[p] = withI X i := by rw [hw]; simp [hpl]
    rw [List.contains_iff_mem, hrow p (by omega), h1]
    exact with_self h.right hi
  obtain ⟨f, hf⟩ : ∃ f, f = VP.findIdx (fun q => q.2.2.contains (i : Int)) := ⟨_, rfl⟩
  have hfl : f < VP.length := by rw [hf]; exact hj
  have h1 : (i : Int) ∈ (Cp.partsI X)[f]'(by omega) := by
    have := List.findIdx_getElem (w := hj)
    simp only [← hf] at this
    rw [← hrow f hfl]
    exact List.contains_iff_mem.1 this
  have h2 : ∀ j, j < f → ∀ l, (Cp.partsI X)[j]? = some l → (i : Int) ∉ l := fun j hjf l hl hm => by
    have h3 := List.not_of_lt_findIdx (p := fun q : Is => q.2.2.contains (i : Int)) (xs := VP) (i := j) (by rw [← hf]; exact hjf)
    have h4 : (Cp.partsI X)[j]'(by omega) = l := by
      rw [List.getElem?_eq_getElem (by omega)] at hl
      exact Option.some.inj hl
    rw [hrow j (by omega), h4] at h3
    exact absurd (List.contains_iff_mem.2 hm) (by simpa using h3)
  have h5 := placeZ_at (L := Cp.partsI X) (a := (i : Int)) (i := f) (by omega) h2 h1
  rw [Cp.placeZ_parts] at h5
  have h6 : f = p := by omega
  refine ⟨f, hfl, ?_, ?_, h5.symm⟩
  · unfold idxI
    rw [← hf, if_pos hfl]
  · rw [hrow f hfl, hw]
    subst h6
    simp [hpl]
def WithF (w : World) (VP : List Is) (zs : List Int) (e : Ending) (w' : World) : Prop := ∃ p, ∃ hp : p < VP.length, VP[p].2.2 = zs ∧ e = .returned VP[p].cell ∧ Chg [] w w'

set_option maxRecDepth 100000 in
set_option maxHeartbeats 4000000 in
theorem withC_any (w : World) (ga : Option Addr) (gn gc : Nat) (pa : Option Addr) (pn pc : Nat) (VG VP : List Is) (X : List (List Int)) (h : WkAt w ga gn gc pa pn pc VG VP X) (i : Nat) (hi : i < X.length) :
    Calls Tryz.prog 45 #[.agg #[.slice ga gn gc, .slice pa pn pc], .int .i64 i] w (WithF w VP (withI X i)) := by
  have H := Lib.hid (And.intro h hi)
  have hpn := h.plen.2
  clear h hi
  go_enter Tryz.func45, Tryz.ntmps45
  go_wp2_with fail
  obtain ⟨W, hW⟩ : ∃ W, W = (w.alloc (.cells #[.slice ga gn gc, .slice pa pn pc] 72)).alloc (.cells #[.int .i64 i] 3) := ⟨_, rfl⟩
  have hcW : Chg [] w W := by rw [hW]; exact ((Chg.refl [] w).alloc _).alloc _
  have hb0 : W.heap[w.heap.size]? = some (.cells #[.slice ga gn gc, .slice pa pn pc] 72 (0, 0)) := by rw [hW]; exact heap_alloc_lt (heap_alloc_same _ _) _
  have hb1 : W.heap[w.heap.size + 1]? = some (.cells #[.int .i64 i] 3 (0, 0)) := by
    rw [hW]
    have := heap_alloc_same (w.alloc (.cells #[.slice ga gn gc, .slice pa pn pc] 72)) (.cells #[.int .i64 i] 3)
    rwa [World.size_alloc] at this
  rw [← hW]
  have hwk := H.out.1.keep hcW.kp
  obtain ⟨p, hp, hidx, hrow, hpi⟩ := idx_part H.out.1 H.out.2
  obtain ⟨pb, po, rfl, hcell, -, -⟩ := hwk.pi p hp
  have x1 := (cells2 hb0).2
  have hb1' := lt_of_block hb1
  have hb0' := lt_of_block hb0
  have hpl : p < pn := by have := H.out.1.pn; omega
  obtain ⟨sa, hsa⟩ : ∃ v, v = VP[p].1 := ⟨_, rfl⟩
  obtain ⟨sl, hsl⟩ : ∃ v, v = VP[p].2.2.length := ⟨_, rfl⟩
  obtain ⟨sc, hsc⟩ : ∃ v, v = VP[p].2.1 := ⟨_, rfl⟩
  have hv : VP[p].cell = .slice sa sl sc := by rw [hsa, hsl, hsc]; rfl
  rw [hv] at hcell
  clear hsa hsl hsc
  have cA := calls_rg (w := W) (fun w1 h1 => by
    have := idxRow_any w1 (some ⟨pb, po, none⟩) pn pc VP 79 #[.pointer (some ⟨w.heap.size + 1, 0, none⟩)] (fun q => q.2.2.contains (i : Int)) H.out.1.pn (by omega) (hwk.pi.keep h1.kp)
      (fun j hj w2 h2 => by
        obtain ⟨b, o, e, hc, hz, hl⟩ := (hwk.pi.keep (h1.tr h2).kp) j hj
        exact with1_any w2 VP[j].1 VP[j].2.2.length VP[j].2.1 VP[j].2.2 rfl hl hz (w.heap.size + 1) i ((h1.tr h2).heap hb1 (by simp)))
      (enters_of Tryz.func79 (by kernel_rfl) rfl)
    rw [hidx] at this
    exact this)
  have kx := cell_rg x1
  have ky := cell_rg hcell
  have HP := Lib.hid (And.intro hp (And.intro hrow (And.intro hv hcW)))
  clear hwk hidx hrow hpi hcell x1 hb0 hb1 hv hcW hW
  refine wp_region_quiet_below (by kernel_rfl) (by kernel_rfl) ?_
  repeat (go_big_quiet_step (first | (with_reducible exact cA _ _)))
  refine wpQuiet_nil ?_
  intro w4 hw4
  have H4 := Lib.hid (HP.out.2.2.2.tr (chg_of_rg hw4))
  clear hw4 cA kx ky
  go_wp2_with fail
  go_ret
  exact ⟨p, HP.out.1, HP.out.2.1, by rw [HP.out.2.2.1]; rfl, H4.out⟩

set_option maxRecDepth 100000 in
set_option maxHeartbeats 2000000 in
theorem itselfC_any (w : World) (ga : Option Addr) (gn gc : Nat) (pa : Option Addr) (pn pc : Nat) (VG VP : List Is) (X : List (List Int)) (h : WkAt w ga gn gc pa pn pc VG VP X) (i : Nat) (hi : i < X.length) :
    Calls Tryz.prog 108 #[.agg #[.slice ga gn gc, .slice pa pn pc], .int .i64 i] w fun e w' => e = .returned (.bool (itI X i)) ∧ Chg [] w w' := by
  have hig : i < VG.length := by rw [← h.gn, h.len.1]; exact hi
  have hcA := (Chg.refl [] w).alloc (.cells #[.slice ga gn gc, .slice pa pn pc] 72)
  obtain ⟨gb, go, rfl, hcell, hz, hl⟩ := (h.gi.keep hcA.kp) i hig
  have hit : itI X i = VG[i].2.2.contains (i : Int) := by
    unfold itI
    rw [Int.toNat_natCast, ← h.eg]
    simp [hig]
  obtain ⟨R, hR⟩ : ∃ R, R = itI X i := ⟨_, rfl⟩
  obtain ⟨sa, hsa⟩ : ∃ v, v = VG[i].1 := ⟨_, rfl⟩
  obtain ⟨zs, hzs⟩ : ∃ v, v = VG[i].2.2 := ⟨_, rfl⟩
  obtain ⟨sl, hsl⟩ : ∃ v, v = zs.length := ⟨_, rfl⟩
  obtain ⟨sc, hsc⟩ : ∃ v, v = VG[i].2.1 := ⟨_, rfl⟩
  simp only [Is.cell] at hcell
  rw [← hsa, ← hzs, ← hsc, ← hsl] at hcell
  rw [← hsa, ← hzs] at hz
  rw [← hzs] at hl hit
  have HC := Lib.hid (contains_any _ sa sl sc zs hsl (by omega) hz i)
  rw [← hit, ← hR] at HC
  rw [← hR]
  have hgl : i < gn := by have := h.gn; omega
  have HA := Lib.hid hcA
  clear hz hl hsa hzs hsl hsc hit hR hcA h hi hig
  go_enter Tryz.func108, Tryz.ntmps108
  go_wp2_with fail
  refine HC.out.mono ?_
  rintro e w1 ⟨rfl, hc⟩
  have H1 := Lib.hid (HA.out.tr hc)
  clear hc hcell
  go_wp2_with fail
  go_ret
  exact ⟨rfl, H1.out⟩

set_option maxRecDepth 100000 in
set_option maxHeartbeats 2000000 in
theorem othersC_any (w : World) (ga : Option Addr) (gn gc : Nat) (pa : Option Addr) (pn pc : Nat) (VG VP : List Is) (X : List (List Int)) (h : WkAt w ga gn gc pa pn pc VG VP X) (i : Nat) (hi : i < X.length) :
    Calls Tryz.prog 109 #[.agg #[.slice ga gn gc, .slice pa pn pc], .int .i64 i] w fun e w' => e = .returned (.bool (othI X i)) ∧ Chg [] w w' := by
  have hcA := (Chg.refl [] w).alloc (.cells #[.slice ga gn gc, .slice pa pn pc] 72)
  have HC := Lib.hid (withC_any _ ga gn gc pa pn pc VG VP X (h.keep hcA.kp) i hi)
  have HA := Lib.hid hcA
  obtain ⟨R, hR⟩ : ∃ R, R = othI X i := ⟨_, rfl⟩
  rw [← hR]
  have HR := Lib.hid hR
  clear hcA h hi hR
  go_enter Tryz.func109, Tryz.ntmps109
  go_wp2_with fail
  refine HC.out.mono ?_
  rintro e w1 ⟨p, hp, hrow, rfl, hc⟩
  obtain ⟨sl, hsl⟩ : ∃ v, v = VP[p].2.2.length := ⟨_, rfl⟩
  simp only [Is.cell]
  rw [← hsl]
  have hR2 : R = decide (1 < sl) := by rw [HR.out, othI, ← hrow, hsl]
  have H1 := Lib.hid (And.intro (HA.out.tr hc) hR2)
  clear hc hrow hsl hR2
  go_wp2_with fail
  go_ret
  exact ⟨ret_bool (by rw [H1.out.2]; exact decide_eq_decide.2 (by omega)), H1.out.1⟩


set_option maxRecDepth 100000 in
set_option maxHeartbeats 2000000 in
theorem directC_any (w : World) (ga : Option Addr) (gn gc : Nat) (pa : Option Addr) (pn pc : Nat) (VG VP : List Is) (X : List (List Int)) (h : WkAt w ga gn gc pa pn pc VG VP X) (i : Nat) (hi : i < X.length) :
    Calls Tryz.prog 75 #[.agg #[.slice ga gn gc, .slice pa pn pc], .int .i64 i] w fun e w' => e = .returned (.bool (itI X i && !othI X i)) ∧ Chg [] w w' := by
  have hb := heap_alloc_same w (.cells #[.slice ga gn gc, .slice pa pn pc] 74)
  have hcA := (Chg.refl [] w).alloc (.cells #[.slice ga gn gc, .slice pa pn pc] 74)
  obtain ⟨it, hit⟩ : ∃ R, R = itI X i := ⟨_, rfl⟩
  obtain ⟨ot, hot⟩ : ∃ R, R = othI X i := ⟨_, rfl⟩
  have HC := Lib.hid (itselfC_any _ ga gn gc pa pn pc VG VP X (h.keep hcA.kp) i hi)
  have HD := Lib.hid (fun w1 (hk : Chg [] _ w1) => othersC_any w1 ga gn gc pa pn pc VG VP X ((h.keep hcA.kp).keep hk.kp) i hi)
  rw [← hit] at HC
  rw [← hot] at HD
  rw [← hit, ← hot]
  have HA := Lib.hid (And.intro hb hcA)
  clear h hi hit hot hb hcA
  go_enter Tryz.func75, Tryz.ntmps75
  obtain ⟨x0, x1⟩ := cells2 HA.out.1
  go_wp2_with fail
  refine HC.out.mono ?_
  rintro e w1 ⟨rfl, hc⟩
  clear x0 x1
  obtain ⟨x0, x1⟩ := cells2 (hc.heap HA.out.1 (by simp))
  have hl := lt_of_block (hc.heap HA.out.1 (by simp))
  have H1 := Lib.hid hc
  clear hc
  cases it with
  | false =>
    go_wp2_with fail
    go_ret
    exact ⟨rfl, HA.out.2.tr H1.out⟩
  | true =>
    go_wp2_with fail
    refine (HD.out _ H1.out).mono ?_
    rintro e w2 ⟨rfl, hc⟩
    have H2 := Lib.hid ((HA.out.2.tr H1.out).tr hc)
    clear hc x0 x1
    go_wp2_with fail
    go_ret
    exact ⟨by cases ot <;> rfl, H2.out⟩

set_option maxRecDepth 100000 in
set_option maxHeartbeats 2000000 in
theorem indirectC_any (w : World) (ga : Option Addr) (gn gc : Nat) (pa : Option Addr) (pn pc : Nat) (VG VP : List Is) (X : List (List Int)) (h : WkAt w ga gn gc pa pn pc VG VP X) (i : Nat) (hi : i < X.length) :
    Calls Tryz.prog 76 #[.agg #[.slice ga gn gc, .slice pa pn pc], .int .i64 i] w fun e w' => e = .returned (.bool (!itI X i && othI X i)) ∧ Chg [] w w' := by
  have hb := heap_alloc_same w (.cells #[.slice ga gn gc, .slice pa pn pc] 74)
  have hcA := (Chg.refl [] w).alloc (.cells #[.slice ga gn gc, .slice pa pn pc] 74)
  obtain ⟨it, hit⟩ : ∃ R, R = itI X i := ⟨_, rfl⟩
  obtain ⟨ot, hot⟩ : ∃ R, R = othI X i := ⟨_, rfl⟩
  have HC := Lib.hid (itselfC_any _ ga gn gc pa pn pc VG VP X (h.keep hcA.kp) i hi)
  have HD := Lib.hid (fun w1 (hk : Chg [] _ w1) => othersC_any w1 ga gn gc pa pn pc VG VP X ((h.keep hcA.kp).keep hk.kp) i hi)
  rw [← hit] at HC
  rw [← hot] at HD
  rw [← hit, ← hot]
  have HA := Lib.hid (And.intro hb hcA)
  clear h hi hit hot hb hcA
  go_enter Tryz.func76, Tryz.ntmps76
  obtain ⟨x0, x1⟩ := cells2 HA.out.1
  go_wp2_with fail
  refine HC.out.mono ?_
  rintro e w1 ⟨rfl, hc⟩
  clear x0 x1
  obtain ⟨x0, x1⟩ := cells2 (hc.heap HA.out.1 (by simp))
  have hl := lt_of_block (hc.heap HA.out.1 (by simp))
  have H1 := Lib.hid hc
  clear hc
  cases it with
  | true =>
    go_wp2_with fail
    go_ret
    exact ⟨rfl, HA.out.2.tr H1.out⟩
  | false =>
    go_wp2_with fail
    refine (HD.out _ H1.out).mono ?_
    rintro e w2 ⟨rfl, hc⟩
    have H2 := Lib.hid ((HA.out.2.tr H1.out).tr hc)
    clear hc x0 x1
    go_wp2_with fail
    go_ret
    exact ⟨by cases ot <;> rfl, H2.out⟩

set_option maxRecDepth 100000 in
set_option maxHeartbeats 2000000 in
theorem bothC_any (w : World) (ga : Option Addr) (gn gc : Nat) (pa : Option Addr) (pn pc : Nat) (VG VP : List Is) (X : List (List Int)) (h : WkAt w ga gn gc pa pn pc VG VP X) (i : Nat) (hi : i < X.length) :
    Calls Tryz.prog 77 #[.agg #[.slice ga gn gc, .slice pa pn pc], .int .i64 i] w fun e w' => e = .returned (.bool (itI X i && othI X i)) ∧ Chg [] w w' := by
  have hb := heap_alloc_same w (.cells #[.slice ga gn gc, .slice pa pn pc] 74)
  have hcA := (Chg.refl [] w).alloc (.cells #[.slice ga gn gc, .slice pa pn pc] 74)
  obtain ⟨it, hit⟩ : ∃ R, R = itI X i := ⟨_, rfl⟩
  obtain ⟨ot, hot⟩ : ∃ R, R = othI X i := ⟨_, rfl⟩
  have HC := Lib.hid (itselfC_any _ ga gn gc pa pn pc VG VP X (h.keep hcA.kp) i hi)
  have HD := Lib.hid (fun w1 (hk : Chg [] _ w1) => othersC_any w1 ga gn gc pa pn pc VG VP X ((h.keep hcA.kp).keep hk.kp) i hi)
  rw [← hit] at HC
  rw [← hot] at HD
  rw [← hit, ← hot]
  have HA := Lib.hid (And.intro hb hcA)
  clear h hi hit hot hb hcA
  go_enter Tryz.func77, Tryz.ntmps77
  obtain ⟨x0, x1⟩ := cells2 HA.out.1
  go_wp2_with fail
  refine HC.out.mono ?_
  rintro e w1 ⟨rfl, hc⟩
  clear x0 x1
  obtain ⟨x0, x1⟩ := cells2 (hc.heap HA.out.1 (by simp))
  have hl := lt_of_block (hc.heap HA.out.1 (by simp))
  have H1 := Lib.hid hc
  clear hc
  cases it with
  | false =>
    go_wp2_with fail
    go_ret
    exact ⟨rfl, HA.out.2.tr H1.out⟩
  | true =>
    go_wp2_with fail
    refine (HD.out _ H1.out).mono ?_
    rintro e w2 ⟨rfl, hc⟩
    have H2 := Lib.hid ((HA.out.2.tr H1.out).tr hc)
    clear hc x0 x1
    go_wp2_with fail
    go_ret
    exact ⟨by cases ot <;> rfl, H2.out⟩

set_option maxRecDepth 100000 in
set_option maxHeartbeats 2000000 in
theorem thereC_any (w : World) (ga : Option Addr) (gn gc : Nat) (pa : Option Addr) (pn pc : Nat) (VG VP : List Is) (X : List (List Int)) (h : WkAt w ga gn gc pa pn pc VG VP X) (i : Int) :
    Calls Tryz.prog 43 #[.agg #[.slice ga gn gc, .slice pa pn pc], .int .i64 i] w fun e w' => e = .returned (.bool (inX X i)) ∧ Chg [] w w' := by
  have hl := h.len
  have HX := Lib.hid hl.1
  have h64 := hl.2
  clear h hl
  go_enter Tryz.func43, Tryz.ntmps43
  by_cases h0 : 0 ≤ i
  · by_cases h1 : i < gn
    · go_wp2_with fail
      go_ret
      exact ⟨ret_bool (by unfold inX; rw [← HX.out]; simp [h0, h1]), (Chg.refl [] w).alloc _⟩
    · go_wp2_with fail
      go_ret
      exact ⟨ret_bool (by unfold inX; rw [← HX.out]; simp [h0, h1]), (Chg.refl [] w).alloc _⟩
  · go_wp2_with fail
    go_ret
    exact ⟨ret_bool (by unfold inX; rw [← HX.out]; simp; omega), (Chg.refl [] w).alloc _⟩
end Go.Proofs.YtlklmpjakeedcaaGreatDoor

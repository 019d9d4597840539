/-
 The document's Of, With, All, Free, Order; sorts as numbers.
 Conditions: the grammar reads as data.
-/
import Derived.Test.YtlklmpjakeedcaaGreatDoorSEnSo9
import Derived.Test.YtlklmpjakeedcaaGreatDoorSEnLf4
import Derived.Test.YtlklmpjakeedcaaGreatDoorSEnSf3
set_option linter.unusedVariables false
set_option linter.unusedSimpArgs false
set_option linter.unnecessarySimpa false
namespace Go.Proofs.YtlklmpjakeedcaaGreatDoor
open Go.RowKit Go.MapKept Go.Shelf

/-- The document's graph of a grammar, with its rows. -/
structure GrAt (w : World) (ga : Option Addr) (gn gc : Nat) (VG : List Is) (X : List (List Int)) : Prop where
 len : gn = VG.length
 cap : gn ≤ gc ∧ gc ≤ 9223372036854775807
 rows : IntRows w ga VG
 eq : VG.map (·.2.2) = X
 right : Cp.rightI X = true
theorem GrAt.keep {w w' : World} {ga : Option Addr} {gn gc : Nat} {VG : List Is} {X : List (List Int)} (h : GrAt w ga gn gc VG X) (k : Kp w w') : GrAt w' ga gn gc VG X := ⟨h.len, h.cap, h.rows.keep k, h.eq, h.right⟩
theorem GrAt.xlen {w : World} {ga : Option Addr} {gn gc : Nat} {VG : List Is} {X : List (List Int)} (h : GrAt w ga gn gc VG X) : gn = X.length ∧ gn ≤ 64 := by
 have h1 : gn = X.length := by rw [h.len, ← h.eq, List.length_map]
 have h2 := h.right
 unfold Cp.rightI at h2
 rw [Bool.and_eq_true] at h2
 have := of_decide_eq_true h2.1
 exact ⟨h1, by omega⟩
theorem refGraph_at (w : World) (a1 : Option Addr) (n1 c1 : Nat) (a2 : Option Addr) (n2 c2 : Nat) (g : Gr) (hg : GramAt w a1 n1 c1 a2 n2 c2 g) :
  Calls Tryz.prog 83 #[.agg #[.slice a1 n1 c1, .slice a2 n2 c2]] w fun e w' => ∃ ga gn gc VG, e = .returned (.slice ga gn gc) ∧ GrAt w' ga gn gc VG (graphG g) ∧ Chg [] w w' := by
 refine (ref12Graph_any w a1 n1 c1 a2 n2 c2 g hg).mono ?_
 rintro e w' ⟨ga, gc, VG, rfl, hVG, hO, hc⟩
 have hl : (graphG g).length = VG.length := by rw [← hVG, List.length_map]
 have hcap := hO.cap
 exact ⟨ga, _, gc, VG, rfl, ⟨hl, by rw [hl]; exact hcap, hO.rows, hVG, graph_right g⟩, hc⟩
theorem refSortG_any (w : World) (ga : Option Addr) (gn gc : Nat) (VG : List Is) (X : List (List Int)) (h : GrAt w ga gn gc VG X) (i : Nat) (hi : i < X.length) :
  Calls Tryz.prog 84 #[.slice ga gn gc, .int .i64 i] w fun e w' => e = .returned (.int .i64 (sortI X i)) ∧ Chg [] w w' :=
 refSort_any w ga gn gc VG X h.len h.cap h.rows h.eq h.right i hi

set_option maxRecDepth 100000 in
set_option maxHeartbeats 4000000 in
theorem refOf14_any (w : World) (a1 : Option Addr) (n1 c1 : Nat) (a2 : Option Addr) (n2 c2 : Nat) (g : Gr) (hg : GramAt w a1 n1 c1 a2 n2 c2 g) (i : Int) :
  Calls Tryz.prog 47 #[.agg #[.slice a1 n1 c1, .slice a2 n2 c2], .int .i64 i] w fun e w' => e = .returned (.int .i64 (sortOf (graphG g) i)) ∧ Chg [] w w' := by
 have hcA := (Chg.refl [] w).alloc (.cells #[.slice a1 n1 c1, .slice a2 n2 c2] 31)
 have HG := Lib.hid (refGraph_at _ a1 n1 c1 a2 n2 c2 g (hg.keep hcA.kp))
 have HA := Lib.hid hcA
 obtain ⟨X, hXd⟩ : ∃ X, X = graphG g := ⟨_, rfl⟩
 rw [← hXd] at HG ⊢
 clear hcA hg hXd
 go_enter Tryz.func47, Tryz.ntmps47
 go_wp2_with fail
 refine HG.out.mono ?_
 rintro e w1 ⟨ga, gn, gc, VG, rfl, hW, hc1⟩
 have hgx := hW.xlen
 have h64 := hgx.2
 have H1 := Lib.hid (And.intro hW (And.intro (HA.out.tr hc1) hgx.1))
 clear hW hc1 hgx
 by_cases h0 : i < 0
 ·have e : sortOf X i = 0 := by unfold sortOf inX; rw [decide_eq_false (by omega : ¬ 0 ≤ i)]; rfl
  go_wp2_with fail
  go_ret
  exact ⟨ret_int e.symm, H1.out.2.1⟩
 ·by_cases h1 : (gn : Int) ≤ i
  ·have e : sortOf X i = 0 := by unfold sortOf inX; rw [decide_eq_false (by have := H1.out.2.2; omega : ¬ i < (X.length : Int)), Bool.and_false]; rfl
   go_wp2_with fail
   go_ret
   exact ⟨ret_int e.symm, H1.out.2.1⟩
  ·obtain ⟨k, rfl⟩ := Int.eq_ofNat_of_zero_le (a := i) (by omega)
   have hk : k < X.length := by have := H1.out.2.2; omega
   have e : sortOf X (k : Int) = sortI X k := by unfold sortOf inX; rw [decide_eq_true (by omega : (0 : Int) ≤ (k : Int)), decide_eq_true (by omega : (k : Int) < (X.length : Int))]; rfl
   have HC := Lib.hid (refSortG_any w1 ga gn gc VG X H1.out.1 k hk)
   obtain ⟨S, hS⟩ : ∃ S, S = sortI X k := ⟨_, rfl⟩
   rw [← hS] at HC e
   have HE := Lib.hid e
   clear hk e hS
   go_wp2_with fail
   refine HC.out.mono ?_
   rintro e w2 ⟨rfl, hc⟩
   have H2 := Lib.hid (H1.out.2.1.tr hc)
   clear hc
   go_wp2_with fail
   go_ret
   exact ⟨ret_int HE.out.symm, H2.out⟩

set_option maxRecDepth 100000 in
set_option maxHeartbeats 4000000 in
theorem refWith14_any (w : World) (a1 : Option Addr) (n1 c1 : Nat) (a2 : Option Addr) (n2 c2 : Nat) (g : Gr) (hg : GramAt w a1 n1 c1 a2 n2 c2 g) (i : Int) :
  Calls Tryz.prog 51 #[.agg #[.slice a1 n1 c1, .slice a2 n2 c2], .int .i64 i] w fun e w' => ∃ a l c, e = .returned (.slice a l c) ∧ l = (withOf (graphG g) i).length ∧ Ints w' a (withOf (graphG g) i) ∧ Chg [] w w' := by
 have hcA := (Chg.refl [] w).alloc (.cells #[.slice a1 n1 c1, .slice a2 n2 c2] 31)
 have HG := Lib.hid (refGraph_at _ a1 n1 c1 a2 n2 c2 g (hg.keep hcA.kp))
 have HA := Lib.hid hcA
 obtain ⟨X, hXd⟩ : ∃ X, X = graphG g := ⟨_, rfl⟩
 rw [← hXd] at HG ⊢
 clear hcA hg hXd
 go_enter Tryz.func51, Tryz.ntmps51
 go_wp2_with fail
 refine HG.out.mono ?_
 rintro e w1 ⟨ga, gn, gc, VG, rfl, hW, hc1⟩
 have hgx := hW.xlen
 have h64 := hgx.2
 have H1 := Lib.hid (And.intro hW (And.intro (HA.out.tr hc1) hgx.1))
 clear hW hc1 hgx
 by_cases h0 : i < 0
 ·have e : withOf X i = [] := by unfold withOf inX; rw [decide_eq_false (by omega : ¬ 0 ≤ i)]; rfl
  go_wp2_with fail
  go_ret
  rw [e]
  exact ⟨none, 0, 0, rfl, rfl, fun j hj => absurd hj (by simp), H1.out.2.1⟩
 ·by_cases h1 : (gn : Int) ≤ i
  ·have e : withOf X i = [] := by unfold withOf inX; rw [decide_eq_false (by have := H1.out.2.2; omega : ¬ i < (X.length : Int)), Bool.and_false]; rfl
   go_wp2_with fail
   go_ret
   rw [e]
   exact ⟨none, 0, 0, rfl, rfl, fun j hj => absurd hj (by simp), H1.out.2.1⟩
  ·obtain ⟨k, rfl⟩ := Int.eq_ofNat_of_zero_le (a := i) (by omega)
   have hk : k < X.length := by have := H1.out.2.2; omega
   have HC := Lib.hid (refSortG_any w1 ga gn gc VG X H1.out.1 k hk)
   obtain ⟨S, hS⟩ : ∃ S, S = sortI X k := ⟨_, rfl⟩
   rw [← hS] at HC
   have HS := Lib.hid (And.intro hS hk)
   clear hk hS
   go_wp2_with fail
   refine HC.out.mono ?_
   rintro e w2 ⟨rfl, hc⟩
   have H2 := Lib.hid (And.intro (H1.out.2.1.tr hc) (H1.out.1.keep hc.kp))
   clear hc
   cases hz : (S == 0) with
   | true =>
    have e : withOf X (k : Int) = [] := by rw [with_of HS.out.2, ← HS.out.1, hz]; rfl
    go_wp2_with fail
    go_ret
    rw [e]
    exact ⟨none, 0, 0, rfl, rfl, fun j hj => absurd hj (by simp), H2.out.1⟩
   | false =>
    have e : withOf X (k : Int) = withI X k := by rw [with_of HS.out.2, ← HS.out.1, hz]; rfl
    obtain ⟨p, hpi, hpl, hw, _, _⟩ := so_part H2.out.2.right HS.out.2
    rw [hw] at e
    have HW := Lib.hid (And.intro e (And.intro hpi hpl))
    clear e hpi hpl hw
    go_wp2_with fail
    have hp := refParts_any w2 ga gn gc VG H2.out.2.len H2.out.2.cap H2.out.2.rows
    rw [H2.out.2.eq] at hp
    refine hp.mono ?_
    clear hp
    rintro e w3 ⟨la, lc, VS, rfl, hO, hVS, hc⟩
    obtain ⟨pn, hpn⟩ : ∃ z, z = VS.length := ⟨_, rfl⟩
    rw [← hpn]
    have H3 := Lib.hid (And.intro hO.rows (And.intro hVS (And.intro hpn (And.intro (H2.out.1.tr hc) (H2.out.2.keep hc.kp)))))
    clear hO hVS hpn hc
    go_wp2_with fail
    have hp := refPart_any w3 ga gn gc VG H3.out.2.2.2.2.len H3.out.2.2.2.2.cap H3.out.2.2.2.2.rows k
    rw [H3.out.2.2.2.2.eq, HW.out.2.1] at hp
    refine hp.mono ?_
    clear hp
    rintro e w4 ⟨rfl, hc⟩
    have hpn2 : p < VS.length := by
     have := congrArg List.length H3.out.2.1
     rw [List.length_map] at this
     have := HW.out.2.2
     omega
    obtain ⟨vb, vo, va, vc, rfl, hcv, hiv, hlv⟩ := rows_at (H3.out.1.keep hc.kp) H3.out.2.1 (i := p) hpn2
    obtain ⟨wl, hwl⟩ : ∃ z, z = ((Cp.partsI X).getD p []).length := ⟨_, rfl⟩
    rw [← hwl] at hcv hlv
    have hvl := World.block_lt_of_cell? _ _ hcv
    simp only at hvl
    have hpp : p < pn := by have := H3.out.2.2.1; omega
    have H4 := Lib.hid (And.intro hwl (And.intro hiv (H3.out.2.2.2.1.tr hc)))
    clear hc hpn2 hwl hiv
    go_wp2_with fail
    go_ret
    rw [HW.out.1]
    exact ⟨va, wl, vc, rfl, H4.out.1, H4.out.2.1, H4.out.2.2⟩

set_option maxRecDepth 100000 in
set_option maxHeartbeats 4000000 in
theorem refAll14_any (w : World) (a1 : Option Addr) (n1 c1 : Nat) (a2 : Option Addr) (n2 c2 : Nat) (g : Gr) (hg : GramAt w a1 n1 c1 a2 n2 c2 g) :
  Calls Tryz.prog 49 #[.agg #[.slice a1 n1 c1, .slice a2 n2 c2]] w fun e w' => ∃ a l c, e = .returned (.slice a l c) ∧ l = (allI (graphG g)).length ∧ Ints w' a (allI (graphG g)) ∧ Chg [] w w' := by
 have hcA := (Chg.refl [] w).alloc (.cells #[.slice a1 n1 c1, .slice a2 n2 c2] 31)
 have HG := Lib.hid (refGraph_at _ a1 n1 c1 a2 n2 c2 g (hg.keep hcA.kp))
 have HA := Lib.hid hcA
 obtain ⟨X, hXd⟩ : ∃ X, X = graphG g := ⟨_, rfl⟩
 rw [← hXd] at HG ⊢
 clear hcA hg hXd
 obtain ⟨i0, hi0, hz0, hz1, hz2⟩ := info_parts Tryz.infoInt
 go_enter Tryz.func49, Tryz.ntmps49
 go_wp2_with fail
 refine HG.out.mono ?_
 rintro e w1 ⟨ga, gn, gc, VG, rfl, hW, hc1⟩
 have hgx := hW.xlen
 have h64 := hgx.2
 have H1 := Lib.hid (And.intro hW (And.intro (HA.out.tr hc1) hgx.1))
 clear hW hc1 hgx
 go_wp2_with fail
 go_loopg [5, 4] gn (fun d kv ov wr => ∃ (k oc : Nat) (oa : Option Addr), d = gn - k ∧ k ≤ gn ∧ kv = .int .i64 k ∧ ov = .slice oa k oc ∧ Hid (Chg [] w1 wr ∧ wr.ownsRow w1.heap.size 3 1 (.slice oa k oc) k (((allI X).take k).map (Value.int .i64))))
 case atStart => exact ⟨0, 0, none, rfl, Nat.zero_le _, rfl, rfl, Lib.hid ⟨Chg.refl _ _, World.ownsRow_nil _ _ _ _⟩⟩
 case round =>
  obtain ⟨k, oc, oa, rfl, hk, rfl, rfl, hin⟩ := hrel
  obtain ⟨wq, rfl⟩ : ∃ z, z = wr := ⟨_, rfl⟩
  by_cases hlt : k < gn
  ·have hkx : k < X.length := by have := H1.out.2.2; omega
   obtain ⟨S, hS⟩ : ∃ S, S = sortI X k := ⟨_, rfl⟩
   have HC := Lib.hid (refSortG_any wq ga gn gc VG X (H1.out.1.keep hin.out.1.kp) k hkx)
   rw [← hS] at HC
   have HS := Lib.hid (And.intro hS hkx)
   clear hS hkx
   go_wp2_with fail
   refine HC.out.mono ?_
   rintro e w3 ⟨rfl, hc3⟩
   have hcA := (Chg.refl [] w3).alloc (.cells #[.int .i64 S] 3)
   have hrow := (hc3.tr hcA).row hin.out.2 (fun _ _ => by simp)
   have h1' : ∀ u ∈ [Value.int .i64 S], u.oneCell' = true := by simp [Value.oneCell']
   have h2' : k + 1 ≤ maxLen ∧ (k + 1) * 8 ≤ 140737488355328 := by simp only [maxLen]; omega
   have hnew := cells_at (w := w3.alloc (.cells #[.int .i64 S] 3)) (heap_alloc_same _ _)
   have hcq := (hin.out.1.tr hc3).tr hcA
   have H4 := Lib.hid (And.intro hrow (And.intro h1' (And.intro h2' (And.intro hnew (And.intro hcq.size hcq)))))
   clear hrow h1' h2' hnew hcA hc3 hcq
   go_wp2_with (at_builtin; refine wpList_append_own_at _ rfl _ _ 34 rfl w1.heap.size 3 i0 _ 1 8 Tryz.underlying34 hi0 hz0 hz1 hz2 rfl (by decide) (.slice oa k oc) k (((allI X).take k).map (Value.int .i64)) rfl H4.out.1 ⟨w3.heap.size, 0, none⟩ 1 1 [.int .i64 S] rfl rfl H4.out.2.2.2.1 H4.out.2.1 H4.out.2.2.1.1 H4.out.2.2.1.2 H4.out.2.2.2.2.1 ?_; intro v' w5 hr5 hg5 hn5 hb5; obtain ⟨a5, c5, rfl⟩ := ownsRow_slice hr5; have HR := Lib.hid (And.intro hr5 hg5); clear hr5 hg5 hn5 hb5)
   go_roundg (gn - (k + 1))
   case measure => omega
   case rel =>
    refine ⟨k + 1, c5, a5, rfl, by omega, by go_num, rfl, Lib.hid ⟨H4.out.2.2.2.2.2.grown HR.out.2 (fun j hj => .inr (row_beyond H4.out.1 hj).1), ?_⟩⟩
    rw [allI_take X HS.out.2, List.map_append, ← HS.out.1]
    exact HR.out.1
  ·obtain rfl : k = gn := by omega
   go_wp2_with fail
   go_ret
   have hl : k = (allI X).length := by rw [allI_len, H1.out.2.2]
   have hr := hin.out.2
   rw [List.take_of_length_le (Nat.le_of_eq hl.symm), hl] at hr
   exact ⟨oa, k, oc, rfl, hl, nums_ints hr, H1.out.2.1.tr hin.out.1⟩

set_option maxRecDepth 100000 in
set_option maxHeartbeats 4000000 in
theorem refFree14_any (w : World) (a1 : Option Addr) (n1 c1 : Nat) (a2 : Option Addr) (n2 c2 : Nat) (g : Gr) (hg : GramAt w a1 n1 c1 a2 n2 c2 g) :
  Calls Tryz.prog 50 #[.agg #[.slice a1 n1 c1, .slice a2 n2 c2]] w fun e w' => e = .returned (.bool (freeI (graphG g))) ∧ Chg [] w w' := by
 have hcA := (Chg.refl [] w).alloc (.cells #[.slice a1 n1 c1, .slice a2 n2 c2] 31)
 have HG := Lib.hid (refAll14_any _ a1 n1 c1 a2 n2 c2 g (hg.keep hcA.kp))
 have HA := Lib.hid hcA
 have hl := allI_len (graphG g)
 have hl64 : (graphG g).length ≤ 64 := by
  have := graph_right g
  unfold Cp.rightI at this
  rw [Bool.and_eq_true] at this
  exact of_decide_eq_true this.1
 have hf := free_all (graphG g)
 rw [← hl] at hf hl64
 obtain ⟨R, hR⟩ : ∃ R, R = freeI (graphG g) := ⟨_, rfl⟩
 rw [← hR] at hf ⊢
 obtain ⟨L, hL⟩ : ∃ L, L = allI (graphG g) := ⟨_, rfl⟩
 rw [← hL] at HG hf hl64
 have HF := Lib.hid hf
 clear hcA hg hl hf hR hL
 go_enter Tryz.func50, Tryz.ntmps50
 go_wp2_with fail
 refine HG.out.mono ?_
 rintro e w1 ⟨a, n, c, rfl, hn, hi, hc1⟩
 have hn64 : n ≤ 64 := by omega
 have H1 := Lib.hid (And.intro hi (And.intro hn (HA.out.tr hc1)))
 clear hi hn hc1
 go_wp2_with fail
 go_loopg [4] n (fun d kv wr => ∃ k : Nat, d = n - k ∧ k ≤ n ∧ kv = .int .i64 k ∧ wr = w1 ∧ Hid ((L.take k).any (fun z => z != 0) = false))
 case atStart => exact ⟨0, rfl, Nat.zero_le _, rfl, rfl, Lib.hid (by simp)⟩
 case round =>
  obtain ⟨k, rfl, hk, rfl, rfl, hin⟩ := hrel
  by_cases hlt : k < n
  ·have hkl : k < L.length := by have := H1.out.2.1; omega
   obtain ⟨b, o, rfl, hcl⟩ := H1.out.1 k hkl
   obtain ⟨z, hz⟩ : ∃ z, z = L[k] := ⟨_, rfl⟩
   rw [← hz] at hcl
   have hbl := World.block_lt_of_cell? _ _ hcl
   simp only at hbl
   have htk : L.take (k + 1) = L.take k ++ [z] := by rw [hz]; exact List.take_succ_eq_append_getElem hkl
   have HT := Lib.hid (And.intro htk hz)
   clear htk hz
   cases hz0 : (z != 0) with
   | true =>
    go_wp2_with fail
    go_ret
    refine ⟨ret_bool ?_, H1.out.2.2⟩
    have ha : L.any (fun z => z != 0) = true := List.any_eq_true.2 ⟨z, by rw [HT.out.2]; exact List.getElem_mem hkl, hz0⟩
    rw [HF.out, ha]; simp
   | false =>
    go_wp2_with fail
    go_roundg (n - (k + 1))
    case measure => omega
    case rel => exact ⟨k + 1, rfl, by omega, by go_num, rfl, Lib.hid (by rw [HT.out.1, List.any_append, hin.out]; simpa using hz0)⟩
  ·obtain rfl : k = n := by omega
   go_wp2_with fail
   go_ret
   refine ⟨ret_bool ?_, H1.out.2.2⟩
   have hln : L.length = k := H1.out.2.1.symm
   have ha : L.any (fun z => z != 0) = false := by
    have := hin.out
    rwa [List.take_of_length_le (by omega)] at this
   rw [HF.out, ha, hln]
   simp

set_option maxRecDepth 100000 in
set_option maxHeartbeats 4000000 in
theorem refOrder14_any (w : World) (a1 : Option Addr) (n1 c1 : Nat) (a2 : Option Addr) (n2 c2 : Nat) (g : Gr) (hg : GramAt w a1 n1 c1 a2 n2 c2 g) :
  Calls Tryz.prog 52 #[.agg #[.slice a1 n1 c1, .slice a2 n2 c2]] w fun e w' => ∃ a l c, e = .returned (.slice a l c) ∧ l = (orderI (graphG g)).length ∧ Ints w' a (orderI (graphG g)) ∧ Chg [] w w' := by
 have hcA := (Chg.refl [] w).alloc (.cells #[.slice a1 n1 c1, .slice a2 n2 c2] 31)
 have HG := Lib.hid (refGraph_at _ a1 n1 c1 a2 n2 c2 g (hg.keep hcA.kp))
 have HA := Lib.hid hcA
 obtain ⟨X, hXd⟩ : ∃ X, X = graphG g := ⟨_, rfl⟩
 rw [← hXd] at HG ⊢
 clear hcA hg hXd
 obtain ⟨i0, hi0, hz0, hz1, hz2⟩ := info_parts Tryz.infoInt
 go_enter Tryz.func52, Tryz.ntmps52
 go_wp2_with fail
 refine HG.out.mono ?_
 rintro e w1 ⟨ga, gn, gc, VG, rfl, hW, hc1⟩
 have hgx := hW.xlen
 have h64 := hgx.2
 have H1 := Lib.hid (And.intro hW (And.intro (HA.out.tr hc1) hgx.1))
 clear hW hc1 hgx
 go_wp2_with fail
 have hp := refParts_any w1 ga gn gc VG H1.out.1.len H1.out.1.cap H1.out.1.rows
 rw [H1.out.1.eq] at hp
 refine hp.mono ?_
 clear hp
 rintro e w2 ⟨la, lc, VS, rfl, hO, hVS, hc⟩
 have hrows : ∀ p ∈ VS, 1 ≤ p.2.2.length ∧ p.2.2.length ≤ 64 := fun p hp => parts_rows H1.out.1.right _ (by rw [← hVS]; exact List.mem_map.2 ⟨p, hp, rfl⟩)
 have hpn64 : VS.length ≤ 64 := by
  have h1 := Cp.place_small (Cp.right_RG H1.out.1.right) 0
  have h2 : (Cp.partsI X).length ≤ 64 := by unfold Cp.partsI; rw [H1.out.1.right, if_pos rfl, Cp.intsG_len]; exact h1.2.2
  rw [← hVS, List.length_map] at h2
  exact h2
 obtain ⟨n, hn⟩ : ∃ z, z = VS.length := ⟨_, rfl⟩
 rw [← hn] at hpn64 ⊢
 have H2 := Lib.hid (And.intro hn (And.intro hO.rows (And.intro hrows (And.intro hVS (H1.out.2.1.tr hc)))))
 clear hO hVS hn hc hrows
 go_wp2_with fail
 go_loopg [5, 4] n (fun d kv ov wr => ∃ (j q oc : Nat) (oa : Option Addr), d = n - j ∧ j ≤ n ∧ kv = .int .i64 j ∧ ov = .slice oa q oc ∧ q ≤ 4096 ∧ Hid (q = sumQ (VS.take j) ∧ Chg [] w2 wr ∧ wr.ownsRow w2.heap.size 3 1 (.slice oa q oc) q (((VS.take j).map (·.2.2)).flatten.map (Value.int .i64))))
 case atStart => exact ⟨0, 0, 0, none, rfl, Nat.zero_le _, rfl, rfl, by omega, Lib.hid ⟨rfl, Chg.refl _ _, World.ownsRow_nil _ _ _ _⟩⟩
 case round =>
  obtain ⟨j, q, oc, oa, rfl, hj, rfl, rfl, hq4, hin2⟩ := hrel
  obtain ⟨wp, rfl⟩ : ∃ z, z = wr := ⟨_, rfl⟩
  by_cases hlt2 : j < n
  ·have hkl : j < VS.length := by have := H2.out.1; omega
   obtain ⟨b, o, rfl, hcell, hz, -⟩ := (H2.out.2.1.keep hin2.out.2.1.kp) j hkl
   have hm := H2.out.2.2.1 _ (List.getElem_mem hkl)
   have hsum := sumQ_take hkl
   have hle := sumQ_le (fun p hp => (H2.out.2.2.1 p hp).2) (by have := H2.out.1; omega) (j + 1)
   have htk := List.take_succ_eq_append_getElem hkl
   obtain ⟨sa, sc, zs, hV⟩ : ∃ sa sc zs, VS[j] = (sa, sc, zs) := ⟨_, _, _, rfl⟩
   rw [hV] at hcell hm hsum hz htk
   simp only [Is.cell] at hcell hm hsum hz
   obtain ⟨sb, so, rfl, -⟩ := hz 0 (by omega)
   obtain ⟨m, hmm⟩ : ∃ m, m = zs.length := ⟨_, rfl⟩
   rw [← hmm] at hcell hm hsum
   have hbl := World.block_lt_of_cell? _ _ hcell
   simp only at hbl
   have hsm : q + m ≤ 4096 := by have := hin2.out.1; omega
   have hl1 : (zs.map (Value.int .i64)).length = m * 1 := by simp [hmm]
   have h1' : ∀ u ∈ zs.map (Value.int .i64), u.oneCell' = true := by
    intro u hu
    obtain ⟨z, _, rfl⟩ := List.mem_map.1 hu
    rfl
   have h2' : q + m ≤ maxLen ∧ (q + m) * 8 ≤ 140737488355328 := by simp only [maxLen]; omega
   have HS := Lib.hid (And.intro hl1 (And.intro (ints_some hz) (And.intro h1' (And.intro h2' (And.intro hin2.out.2.1.size (And.intro hsum htk))))))
   clear hkl hV hmm hle hsum hl1 hz h1' h2' htk
   go_wp2_with (at_builtin; refine wpList_append_own_at _ rfl _ _ 34 rfl w2.heap.size 3 i0 _ 1 8 Tryz.underlying34 hi0 hz0 hz1 hz2 rfl (by decide) (.slice oa q oc) q (((VS.take j).map (·.2.2)).flatten.map (Value.int .i64)) rfl hin2.out.2.2 ⟨sb, so, none⟩ m sc (zs.map (Value.int .i64)) rfl HS.out.1 HS.out.2.1 HS.out.2.2.1 HS.out.2.2.2.1.1 HS.out.2.2.2.1.2 HS.out.2.2.2.2.1 ?_; intro v' w5 hr5 hg5 hn5 hb5; obtain ⟨a5, c5, rfl⟩ := ownsRow_slice hr5; have HR := Lib.hid (And.intro hr5 hg5); clear hr5 hg5 hn5 hb5)
   go_roundg (n - (j + 1))
   case measure => omega
   case rel =>
    refine ⟨j + 1, q + m, c5, a5, rfl, by omega, by go_num, rfl, hsm, Lib.hid ⟨by rw [HS.out.2.2.2.2.2.1, ← hin2.out.1], hin2.out.2.1.grown HR.out.2 (fun i hi => .inr (row_beyond hin2.out.2.2 hi).1), ?_⟩⟩
    rw [HS.out.2.2.2.2.2.2, List.map_append, List.flatten_append, List.map_append]
    simpa using HR.out.1
  ·obtain rfl : j = n := by omega
   go_wp2_with fail
   go_ret
   have hl : VS.take j = VS := List.take_of_length_le (by have := H2.out.1; omega)
   have hr := hin2.out.2.2
   have hq : q = (VS.map (·.2.2)).flatten.length := by
    rw [hin2.out.1, hl]
    unfold sumQ
    rw [List.length_flatten, List.map_map]
    rfl
   rw [hl] at hr
   rw [hq] at hr
   have ho : orderI X = (VS.map (·.2.2)).flatten := by unfold orderI; rw [H2.out.2.2.2.1]
   rw [ho]
   exact ⟨oa, q, oc, rfl, hq, nums_ints hr, H2.out.2.2.2.2.tr hin2.out.2.1⟩

set_option maxRecDepth 100000 in
set_option maxHeartbeats 4000000 in
theorem numbers_any (w : World) (a : Option Addr) (n c : Nat) (zs : List Int) (hn : n = zs.length) (hs : n ≤ 64) (hz : Ints w a zs) :
  Calls Tryz.prog 48 #[.slice a n c] w fun e w' => ∃ b d, e = .returned (.slice b n d) ∧ Ints w' b zs ∧ Chg [] w w' := by
 obtain ⟨i0, hi0, hz0, hz1, hz2⟩ := info_parts Tryz.infoInt
 have H := Lib.hid (And.intro hn hz)
 clear hn hz
 go_enter Tryz.func48, Tryz.ntmps48
 go_wp2_with fail
 go_loopg [4, 3] n (fun d kv ov wr => ∃ (k oc : Nat) (oa : Option Addr), d = n - k ∧ k ≤ n ∧ kv = .int .i64 k ∧ ov = .slice oa k oc ∧ Hid (Chg [] w wr ∧ wr.ownsRow w.heap.size 3 1 (.slice oa k oc) k ((zs.take k).map (Value.int .i64))))
 case atStart => exact ⟨0, 0, none, rfl, Nat.zero_le _, rfl, rfl, Lib.hid ⟨Chg.refl _ _, World.ownsRow_nil _ _ _ _⟩⟩
 case round =>
  obtain ⟨k, oc, oa, rfl, hk, rfl, rfl, hin⟩ := hrel
  obtain ⟨wq, rfl⟩ : ∃ z, z = wr := ⟨_, rfl⟩
  by_cases hlt : k < n
  ·have hkl : k < zs.length := by have := H.out.1; omega
   obtain ⟨b, o, rfl, hcl⟩ := (H.out.2.keep hin.out.1.kp) k hkl
   obtain ⟨S, hS⟩ : ∃ S, S = zs[k] := ⟨_, rfl⟩
   rw [← hS] at hcl
   have hbl := World.block_lt_of_cell? _ _ hcl
   simp only at hbl
   have htk : zs.take (k + 1) = zs.take k ++ [S] := by rw [hS]; exact List.take_succ_eq_append_getElem hkl
   have hcA := (Chg.refl [] wq).alloc (.cells #[.int .i64 S] 3)
   have hrow := hcA.row hin.out.2 (fun _ _ => by simp)
   have h1' : ∀ u ∈ [Value.int .i64 S], u.oneCell' = true := by simp [Value.oneCell']
   have h2' : k + 1 ≤ maxLen ∧ (k + 1) * 8 ≤ 140737488355328 := by simp only [maxLen]; omega
   have hnew := cells_at (w := wq.alloc (.cells #[.int .i64 S] 3)) (heap_alloc_same _ _)
   have hcq := hin.out.1.tr hcA
   have H4 := Lib.hid (And.intro hrow (And.intro h1' (And.intro h2' (And.intro hnew (And.intro hcq.size (And.intro hcq htk))))))
   clear hrow h1' h2' hnew hcA hcq hS htk hkl
   go_wp2_with (at_builtin; refine wpList_append_own_at _ rfl _ _ 34 rfl w.heap.size 3 i0 _ 1 8 Tryz.underlying34 hi0 hz0 hz1 hz2 rfl (by decide) (.slice oa k oc) k ((zs.take k).map (Value.int .i64)) rfl H4.out.1 ⟨wq.heap.size, 0, none⟩ 1 1 [.int .i64 S] rfl rfl H4.out.2.2.2.1 H4.out.2.1 H4.out.2.2.1.1 H4.out.2.2.1.2 H4.out.2.2.2.2.1 ?_; intro v' w5 hr5 hg5 hn5 hb5; obtain ⟨a5, c5, rfl⟩ := ownsRow_slice hr5; have HR := Lib.hid (And.intro hr5 hg5); clear hr5 hg5 hn5 hb5)
   go_roundg (n - (k + 1))
   case measure => omega
   case rel =>
    refine ⟨k + 1, c5, a5, rfl, by omega, by go_num, rfl, Lib.hid ⟨H4.out.2.2.2.2.2.1.grown HR.out.2 (fun j hj => .inr (row_beyond H4.out.1 hj).1), ?_⟩⟩
    rw [H4.out.2.2.2.2.2.2, List.map_append]
    exact HR.out.1
  ·obtain rfl : k = n := by omega
   go_wp2_with fail
   go_ret
   have hr := hin.out.2
   rw [List.take_of_length_le (by have := H.out.1; omega), H.out.1] at hr
   exact ⟨oa, oc, rfl, nums_ints hr, hin.out.1⟩
end Go.Proofs.YtlklmpjakeedcaaGreatDoor

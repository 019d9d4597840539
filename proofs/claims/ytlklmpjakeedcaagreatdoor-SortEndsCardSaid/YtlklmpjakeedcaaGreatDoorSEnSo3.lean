/-
 Package sort: a grammar at work, the sort of a rule.
 Conditions: the grammar reads as data.
-/
import Derived.Test.YtlklmpjakeedcaaGreatDoorSEnSo1
set_option linter.unusedVariables false
set_option linter.unusedSimpArgs false
set_option linter.unnecessarySimpa false
namespace Go.Proofs.YtlklmpjakeedcaaGreatDoor
open Go.RowKit Go.MapKept Go.Shelf

set_option maxRecDepth 100000 in
set_option maxHeartbeats 4000000 in
theorem sortC_any (w : World) (ga : Option Addr) (gn gc : Nat) (pa : Option Addr) (pn pc : Nat) (VG VP : List Is) (X : List (List Int)) (h : WkAt w ga gn gc pa pn pc VG VP X) (i : Nat) (hi : i < X.length) :
  Calls Tryz.prog 44 #[.agg #[.slice ga gn gc, .slice pa pn pc], .int .i64 i] w fun e w' => e = .returned (.int .i64 (sortI X i)) ∧ Chg [] w w' := by
 obtain ⟨it, hit⟩ : ∃ R, R = itI X i := ⟨_, rfl⟩
 obtain ⟨ot, hot⟩ : ∃ R, R = othI X i := ⟨_, rfl⟩
 obtain ⟨S, hS⟩ : ∃ R, R = sortI X i := ⟨_, rfl⟩
 have hS2 : S = if it then (if ot then 3 else 1) else (if ot then 2 else 0) := by rw [hS, hit, hot]; rfl
 have H0 := Lib.hid (fun w1 (hk : Chg [] w w1) => directC_any w1 ga gn gc pa pn pc VG VP X (h.keep hk.kp) i hi)
 have H1 := Lib.hid (fun w1 (hk : Chg [] w w1) => indirectC_any w1 ga gn gc pa pn pc VG VP X (h.keep hk.kp) i hi)
 have H2 := Lib.hid (fun w1 (hk : Chg [] w w1) => bothC_any w1 ga gn gc pa pn pc VG VP X (h.keep hk.kp) i hi)
 rw [← hit, ← hot] at H0 H1 H2
 rw [← hS]
 have HS := Lib.hid hS2
 clear h hi hit hot hS hS2
 go_enter Tryz.func44, Tryz.ntmps44
 go_wp2_with fail
 obtain ⟨W, hW⟩ : ∃ z, z = (w.alloc (Obj.cells #[Value.slice ga gn gc, Value.slice pa pn pc] 74)).alloc (Obj.cells #[Value.func (Fn.func 75) #[] #[], Value.func (Fn.func 76) #[] #[], Value.func (Fn.func 77) #[] #[]] 115) := ⟨_, rfl⟩
 have hb : W.heap[w.heap.size]? = some (Obj.cells #[Value.slice ga gn gc, Value.slice pa pn pc] 74 (0, 0)) := by rw [hW]; exact heap_alloc_lt (heap_alloc_same _ _) _
 have hcW : Chg [] w W := by rw [hW]; exact ((Chg.refl [] w).alloc _).alloc _
 rw [← hW]
 have HW := Lib.hid (And.intro hb hcW)
 clear hb hcW hW
 have ix0 : ∀ V : World, (Instr.index 115 (.agg #[Value.func (Fn.func 75) #[] #[], Value.func (Fn.func 76) #[] #[], Value.func (Fn.func 77) #[] #[]]) (.int .i64 0)).run Tryz.prog V = .ok (Value.func (Fn.func 75) #[] #[]) V := fun V => by kernel_rfl
 have ix1 : ∀ V : World, (Instr.index 115 (.agg #[Value.func (Fn.func 75) #[] #[], Value.func (Fn.func 76) #[] #[], Value.func (Fn.func 77) #[] #[]]) (.int .i64 1)).run Tryz.prog V = .ok (Value.func (Fn.func 76) #[] #[]) V := fun V => by kernel_rfl
 have ix2 : ∀ V : World, (Instr.index 115 (.agg #[Value.func (Fn.func 75) #[] #[], Value.func (Fn.func 76) #[] #[], Value.func (Fn.func 77) #[] #[]]) (.int .i64 2)).run Tryz.prog V = .ok (Value.func (Fn.func 77) #[] #[]) V := fun V => by kernel_rfl
 go_loopg [10] 3 (fun d kv wr => ∃ k : Nat, d = 3 - k ∧ k ≤ 3 ∧ kv = .int .i64 k ∧ Hid (Chg [] W wr ∧ (0 < k → (it && !ot) = false) ∧ (1 < k → (!it && ot) = false) ∧ (2 < k → (it && ot) = false)))
 case atStart => exact ⟨0, rfl, by omega, rfl, Lib.hid ⟨Chg.refl _ _, fun h => absurd h (by omega), fun h => absurd h (by omega), fun h => absurd h (by omega)⟩⟩
 case round =>
  obtain ⟨k, rfl, hk, rfl, hin⟩ := hrel
  obtain ⟨wq, rfl⟩ : ∃ z, z = wr := ⟨_, rfl⟩
  obtain ⟨x0, x1⟩ := cells2 (hin.out.1.heap HW.out.1 (by simp))
  have hbl := lt_of_block (hin.out.1.heap HW.out.1 (by simp))
  rcases (show k = 0 ∨ k = 1 ∨ k = 2 ∨ k = 3 by omega) with rfl | rfl | rfl | rfl
  ·obtain ⟨r, hr⟩ : ∃ r, r = (it && !ot) := ⟨_, rfl⟩
   have hcall := H0.out wq (HW.out.2.tr hin.out.1)
   rw [← hr] at hcall
   have HC := Lib.hid hcall
   have HR := Lib.hid hr
   clear hcall hr
   go_wp2_with fail
   refine HC.out.mono ?_
   rintro e w2 ⟨rfl, hc⟩
   have HQ := Lib.hid (hin.out.1.tr hc)
   clear hc x0 x1
   cases r with
   | true =>
    go_wp2_with fail
    go_ret
    refine ⟨ret_int ?_, HW.out.2.tr HQ.out⟩
    have h1 := HS.out
    have h2 := HR.out
    cases it <;> cases ot <;> simp at h1 h2 <;> omega
   | false =>
    go_wp2_with fail
    go_roundg (3 - (0 + 1))
    case measure => omega
    case rel => exact ⟨0 + 1, rfl, by omega, by go_num, Lib.hid ⟨HQ.out, fun _ => HR.out.symm, fun h => absurd h (by omega), fun h => absurd h (by omega)⟩⟩
  ·obtain ⟨r, hr⟩ : ∃ r, r = (!it && ot) := ⟨_, rfl⟩
   have hcall := H1.out wq (HW.out.2.tr hin.out.1)
   rw [← hr] at hcall
   have HC := Lib.hid hcall
   have HR := Lib.hid hr
   clear hcall hr
   go_wp2_with fail
   refine HC.out.mono ?_
   rintro e w2 ⟨rfl, hc⟩
   have HQ := Lib.hid (hin.out.1.tr hc)
   clear hc x0 x1
   cases r with
   | true =>
    go_wp2_with fail
    go_ret
    refine ⟨ret_int ?_, HW.out.2.tr HQ.out⟩
    have h1 := HS.out
    have h2 := HR.out
    cases it <;> cases ot <;> simp at h1 h2 <;> omega
   | false =>
    go_wp2_with fail
    go_roundg (3 - (1 + 1))
    case measure => omega
    case rel => exact ⟨1 + 1, rfl, by omega, by go_num, Lib.hid ⟨HQ.out, fun _ => hin.out.2.1 (by omega), fun _ => HR.out.symm, fun h => absurd h (by omega)⟩⟩
  ·obtain ⟨r, hr⟩ : ∃ r, r = (it && ot) := ⟨_, rfl⟩
   have hcall := H2.out wq (HW.out.2.tr hin.out.1)
   rw [← hr] at hcall
   have HC := Lib.hid hcall
   have HR := Lib.hid hr
   clear hcall hr
   go_wp2_with fail
   refine HC.out.mono ?_
   rintro e w2 ⟨rfl, hc⟩
   have HQ := Lib.hid (hin.out.1.tr hc)
   clear hc x0 x1
   cases r with
   | true =>
    go_wp2_with fail
    go_ret
    refine ⟨ret_int ?_, HW.out.2.tr HQ.out⟩
    have h1 := HS.out
    have h2 := HR.out
    cases it <;> cases ot <;> simp at h1 h2 <;> omega
   | false =>
    go_wp2_with fail
    go_roundg (3 - (2 + 1))
    case measure => omega
    case rel => exact ⟨2 + 1, rfl, by omega, by go_num, Lib.hid ⟨HQ.out, fun _ => hin.out.2.1 (by omega), fun _ => hin.out.2.2.1 (by omega), fun _ => HR.out.symm⟩⟩
  ·go_wp2_with fail
   go_ret
   refine ⟨ret_int ?_, HW.out.2.tr hin.out.1⟩
   have h1 := HS.out
   have h2 := hin.out.2.1 (by omega)
   have h3 := hin.out.2.2.1 (by omega)
   have h4 := hin.out.2.2.2 (by omega)
   cases it <;> cases ot <;> simp at h1 h2 h3 h4 <;> omega

theorem OwnIs.below {B : Nat} {S : List Nat} {w w' : World} {a : Option Addr} {c : Nat} {VS : List Is} (h : OwnIs B w a c VS) (hc : Chg S w w') (hS : ∀ k ∈ S, k < B) : OwnIs B w' a c VS :=
 ⟨hc.row h.row (fun k hk hm => by have := (row_beyond h.row hk).1; have := hS k hm; omega), fun p hp => hc.row (h.each p hp) (fun k hk hm => by have := (row_beyond (h.each p hp) hk).1; have := hS k hm; omega), h.apart⟩
/-- A grammar's graph with its parts are told. -/
def WorkP (w : World) (X : List (List Int)) (e : Ending) (w' : World) : Prop :=
 ∃ ga gc pa pc VG VP, e = .returned (.agg #[.slice ga VG.length gc, .slice pa VP.length pc]) ∧ WkAt w' ga VG.length gc pa VP.length pc VG VP X ∧ OwnIs w.heap.size w' pa pc VP ∧ Chg [] w w'

set_option maxRecDepth 100000 in
set_option maxHeartbeats 4000000 in
theorem ofC_any (w : World) (a1 : Option Addr) (n1 c1 : Nat) (a2 : Option Addr) (n2 c2 : Nat) (g : Gr) (hg : GramAt w a1 n1 c1 a2 n2 c2 g) (hre : Reach g) :
  Calls Tryz.prog 40 #[.agg #[.slice a1 n1 c1, .slice a2 n2 c2]] w (WorkP w (graphG g)) := by
 have H := Lib.hid (And.intro hg hre)
 clear hg hre
 go_enter Tryz.func40, Tryz.ntmps40
 go_wp2_with fail
 have hcA := ((Chg.refl [] w).alloc (Obj.cells #[Value.slice a1 n1 c1, Value.slice a2 n2 c2] 31)).alloc (Obj.cells #[Value.slice none 0 0, Value.slice none 0 0] 74)
 have hb : ((w.alloc (Obj.cells #[Value.slice a1 n1 c1, Value.slice a2 n2 c2] 31)).alloc (Obj.cells #[Value.slice none 0 0, Value.slice none 0 0] 74)).heap[w.heap.size + 1]? = some (Obj.cells #[Value.slice none 0 0, Value.slice none 0 0] 74 (0, 0)) := by
  have := heap_alloc_same (w.alloc (Obj.cells #[Value.slice a1 n1 c1, Value.slice a2 n2 c2] 31)) (Obj.cells #[Value.slice none 0 0, Value.slice none 0 0] 74)
  rwa [World.size_alloc] at this
 have HA := Lib.hid (And.intro hcA hb)
 clear hcA hb
 refine (Graph_any _ a1 n1 c1 a2 n2 c2 g (H.out.1.keep HA.out.1.kp) H.out.2).mono ?_
 rintro e w1 ⟨ga, gc, VG, rfl, hVG, hOG, hc1⟩
 have hgl : (graphG g).length = VG.length := by rw [← hVG, List.length_map]
 rw [hgl]
 obtain ⟨gn, hgn⟩ : ∃ k, k = VG.length := ⟨_, rfl⟩
 have hcap := hOG.cap
 rw [← hgn] at hcap ⊢
 have H1 := Lib.hid (And.intro hVG (And.intro hOG (And.intro hgn (And.intro (HA.out.1.tr hc1) (hc1.heap HA.out.2 (by simp))))))
 clear hVG hOG hgn hc1 hgl
 go_wp2_with fail
 refine (parts_any w1 ga gn gc VG H1.out.2.2.1 hcap H1.out.2.1.rows).mono ?_
 rintro e w2 ⟨pa, pc, VP, rfl, hOP, hVP, hc2⟩
 rw [H1.out.1] at hVP
 obtain ⟨pn, hpn⟩ : ∃ k, k = VP.length := ⟨_, rfl⟩
 rw [← hpn]
 have hb := hc2.heap H1.out.2.2.2.2 (by simp)
 obtain ⟨x0, x1⟩ := cells2 hb
 have f0 := free_of_cells hb 0
 have f1 := free_of_cells hb 1
 have hbl := lt_of_block hb
 have H2 := Lib.hid (And.intro hVP (And.intro hOP (And.intro hpn (And.intro (H1.out.2.2.2.1.tr hc2) (And.intro hc2 hb)))))
 clear hVP hOP hpn hc2 hb
 go_wp2_with fail
 obtain ⟨hVP, hOP, hpn, hcw, hc2, hb⟩ := H2.out
 obtain ⟨hVG, hOG, hgn, -, -⟩ := H1.out
 have hc := ((Chg.refl [w.heap.size + 1] w2).setCell (p := ⟨w.heap.size + 1, 0, none⟩) (.inl (by simp)) (.slice ga gn gc)).setCell (p := ⟨w.heap.size + 1, 1, none⟩) (.inl (by simp)) (.slice pa pn pc)
 have hz := heap_setCell_same (heap_setCell_same hb 0 (.slice ga gn gc)) 1 (.slice pa pn pc)
 simp at hz
 obtain ⟨y0, y1⟩ := cells2 hz
 have hTl := lt_of_block hz
 refine bodyPost_ret (v := .agg #[.slice ga gn gc, .slice pa pn pc]) (by simp [results, Tryz.results40, go_sem, y0, y1, hTl]) rfl ?_
 have hs1 := (hcw.size : w.heap.size ≤ w2.heap.size)
 have hB1 : w.heap.size + 1 < w1.heap.size := lt_of_block H1.out.2.2.2.2
 have hOG2 := (hOG.chg0 hc2).below hc (fun k hk => by simp at hk; rw [World.size_alloc, World.size_alloc]; omega)
 have hOP2 := hOP.below hc (fun k hk => by simp at hk; omega)
 refine ⟨ga, gc, pa, pc, VG, VP, by rw [hgn, hpn], ⟨rfl, rfl, hOG2.rows, hOP2.rows, hVG, hVP, graph_right g⟩, hOP2.base (by omega), hcw.trans hc (fun k hk => .inr (by simp at hk; omega))⟩
end Go.Proofs.YtlklmpjakeedcaaGreatDoor
set_option linter.unusedVariables false
set_option linter.unusedSimpArgs false
set_option linter.unnecessarySimpa false
namespace Go.Proofs.YtlklmpjakeedcaaGreatDoor
open Go.RowKit Go.MapKept Go.Shelf

theorem in_nat {X : List (List Int)} {i : Int} (h : inX X i = true) : ∃ k : Nat, i = (k : Int) ∧ k < X.length := by
 unfold inX at h
 simp at h
 exact ⟨i.toNat, by omega, by omega⟩
theorem allI_len (X : List (List Int)) : (allI X).length = X.length := by unfold allI; simp
theorem allI_take (X : List (List Int)) {k : Nat} (h : k < X.length) : (allI X).take (k + 1) = (allI X).take k ++ [sortI X k] := by
 rw [List.take_succ_eq_append_getElem (by rw [allI_len]; exact h)]
 congr 2
 unfold allI; simp
def NumsP (w : World) (t : TypeId) (zs : List Int) (e : Ending) (w' : World) : Prop := ∃ a c, e = .returned (.slice a zs.length c) ∧ w'.ownsRow w.heap.size t 1 (.slice a zs.length c) zs.length (zs.map (Value.int .i64)) ∧ (zs.length = 0 → a = none) ∧ Chg [] w w'
def WithP (w : World) (zs : List Int) (e : Ending) (w' : World) : Prop := ∃ a c, e = .returned (.slice a zs.length c) ∧ FreshInts w.heap.size w' a c zs ∧ (zs = [] → a = none ∧ c = 0) ∧ Chg [] w w'
theorem Tryz.infoSort : (Tryz.prog.info? 22).map (fun i => (i.zero, i.size, i.bytes)) = some (some (.int .i64 0), 1, 8) := by kernel_rfl

set_option maxRecDepth 100000 in
set_option maxHeartbeats 4000000 in
theorem OfS_any (w : World) (a1 : Option Addr) (n1 c1 : Nat) (a2 : Option Addr) (n2 c2 : Nat) (g : Gr) (hg : GramAt w a1 n1 c1 a2 n2 c2 g) (hre : Reach g) (i : Int) :
  Calls Tryz.prog 31 #[.agg #[.slice a1 n1 c1, .slice a2 n2 c2], .int .i64 i] w fun e w' => e = .returned (.int .i64 (sortOf (graphG g) i)) ∧ Chg [] w w' := by
 have hcA := (Chg.refl [] w).alloc (.cells #[.slice a1 n1 c1, .slice a2 n2 c2] 31)
 have HG := Lib.hid (ofC_any _ a1 n1 c1 a2 n2 c2 g (hg.keep hcA.kp) hre)
 have HA := Lib.hid hcA
 obtain ⟨X, hXd⟩ : ∃ X, X = graphG g := ⟨_, rfl⟩
 rw [← hXd] at HG ⊢
 clear hcA hg hre hXd
 go_enter Tryz.func31, Tryz.ntmps31
 go_wp2_with fail
 refine HG.out.mono ?_
 rintro e w1 ⟨ga, gc, pa, pc, VG, VP, rfl, hW, hO, hc1⟩
 obtain ⟨gn, hgn⟩ : ∃ k, k = VG.length := ⟨_, rfl⟩
 obtain ⟨pn, hpn⟩ : ∃ k, k = VP.length := ⟨_, rfl⟩
 rw [← hgn, ← hpn] at hW ⊢
 have hgx := hW.len
 have H1 := Lib.hid (And.intro hW (And.intro (hO.base (Nat.le_refl _)) (And.intro (HA.out.tr hc1) (And.intro hgx.1 (And.intro hgn hpn)))))
 have h64 := hgx.2
 clear hW hO hc1 hgn hpn hgx
 obtain ⟨W, hWd⟩ : ∃ z, z = w1.alloc (.cells #[.slice ga gn gc, .slice pa pn pc] 74) := ⟨_, rfl⟩
 have hb : W.heap[w1.heap.size]? = some (.cells #[.slice ga gn gc, .slice pa pn pc] 74 (0, 0)) := by rw [hWd]; exact heap_alloc_same _ _
 have hcW : Chg [] w1 W := by rw [hWd]; exact (Chg.refl [] w1).alloc _
 have HW := Lib.hid (And.intro hb (And.intro hcW (And.intro (H1.out.1.keep hcW.kp) (H1.out.2.2.1.tr hcW))))
 clear hb hcW
 go_wp2_with fail
 rw [← hWd]
 clear hWd
 refine (thereC_any W ga gn gc pa pn pc VG VP X HW.out.2.2.1 i).mono ?_
 rintro e w2 ⟨rfl, hc2⟩
 obtain ⟨x0, x1⟩ := cells2 (hc2.heap HW.out.1 (by simp))
 have hbl := lt_of_block (hc2.heap HW.out.1 (by simp))
 obtain ⟨b, hb⟩ : ∃ b, b = inX X i := ⟨_, rfl⟩
 rw [← hb]
 have H2 := Lib.hid (And.intro hb hc2)
 clear hb hc2
 cases b with
 | false =>
  go_wp2_with fail
  go_ret
  exact ⟨ret_int (by unfold sortOf; rw [← H2.out.1]; rfl), HW.out.2.2.2.tr H2.out.2⟩
 | true =>
  obtain ⟨k, rfl, hk⟩ := in_nat H2.out.1.symm
  have HC := Lib.hid (sortC_any w2 ga gn gc pa pn pc VG VP X (HW.out.2.2.1.keep H2.out.2.kp) k hk)
  obtain ⟨S, hS⟩ : ∃ S, S = sortI X k := ⟨_, rfl⟩
  rw [← hS] at HC
  have HS := Lib.hid hS
  clear hk hS
  go_wp2_with fail
  refine HC.out.mono ?_
  rintro e w3 ⟨rfl, hc3⟩
  have H3 := Lib.hid ((HW.out.2.2.2.tr H2.out.2).tr hc3)
  clear hc3 x0 x1
  go_wp2_with fail
  go_ret
  exact ⟨ret_int (by unfold sortOf; rw [← H2.out.1, if_pos rfl]; exact HS.out), H3.out⟩

set_option maxRecDepth 100000 in
set_option maxHeartbeats 4000000 in
theorem With_any (w : World) (a1 : Option Addr) (n1 c1 : Nat) (a2 : Option Addr) (n2 c2 : Nat) (g : Gr) (hg : GramAt w a1 n1 c1 a2 n2 c2 g) (hre : Reach g) (i : Int) :
  Calls Tryz.prog 17 #[.agg #[.slice a1 n1 c1, .slice a2 n2 c2], .int .i64 i] w (WithP w (withOf (graphG g) i)) := by
 have hcA := (Chg.refl [] w).alloc (.cells #[.slice a1 n1 c1, .slice a2 n2 c2] 31)
 have HG := Lib.hid (ofC_any _ a1 n1 c1 a2 n2 c2 g (hg.keep hcA.kp) hre)
 have HA := Lib.hid hcA
 obtain ⟨X, hXd⟩ : ∃ X, X = graphG g := ⟨_, rfl⟩
 rw [← hXd] at HG ⊢
 clear hcA hg hre hXd
 go_enter Tryz.func17, Tryz.ntmps17
 go_wp2_with fail
 refine HG.out.mono ?_
 rintro e w1 ⟨ga, gc, pa, pc, VG, VP, rfl, hW, hO, hc1⟩
 obtain ⟨gn, hgn⟩ : ∃ k, k = VG.length := ⟨_, rfl⟩
 obtain ⟨pn, hpn⟩ : ∃ k, k = VP.length := ⟨_, rfl⟩
 rw [← hgn, ← hpn] at hW ⊢
 have hgx := hW.len
 have H1 := Lib.hid (And.intro hW (And.intro (hO.base (Nat.le_refl _)) (And.intro (HA.out.tr hc1) (And.intro hgx.1 (And.intro hgn hpn)))))
 have h64 := hgx.2
 clear hW hO hc1 hgn hpn hgx
 obtain ⟨W, hWd⟩ : ∃ z, z = w1.alloc (.cells #[.slice ga gn gc, .slice pa pn pc] 74) := ⟨_, rfl⟩
 have hb : W.heap[w1.heap.size]? = some (.cells #[.slice ga gn gc, .slice pa pn pc] 74 (0, 0)) := by rw [hWd]; exact heap_alloc_same _ _
 have hcW : Chg [] w1 W := by rw [hWd]; exact (Chg.refl [] w1).alloc _
 have HW := Lib.hid (And.intro hb (And.intro hcW (And.intro (H1.out.1.keep hcW.kp) (H1.out.2.2.1.tr hcW))))
 clear hb hcW
 go_wp2_with fail
 rw [← hWd]
 clear hWd
 refine (thereC_any W ga gn gc pa pn pc VG VP X HW.out.2.2.1 i).mono ?_
 rintro e w2 ⟨rfl, hc2⟩
 obtain ⟨x0, x1⟩ := cells2 (hc2.heap HW.out.1 (by simp))
 have hbl := lt_of_block (hc2.heap HW.out.1 (by simp))
 obtain ⟨b, hb⟩ : ∃ b, b = inX X i := ⟨_, rfl⟩
 rw [← hb]
 have H2 := Lib.hid (And.intro hb hc2)
 clear hb hc2
 cases b with
 | false =>
  go_wp2_with fail
  go_ret
  have e : withOf X i = [] := by unfold withOf; rw [← H2.out.1]; rfl
  rw [e]
  exact ⟨none, 0, rfl, World.ownsRow_nil _ _ _ _, fun _ => ⟨rfl, rfl⟩, HW.out.2.2.2.tr H2.out.2⟩
 | true =>
  obtain ⟨k, rfl, hk⟩ := in_nat H2.out.1.symm
  have HC := Lib.hid (sortC_any w2 ga gn gc pa pn pc VG VP X (HW.out.2.2.1.keep H2.out.2.kp) k hk)
  obtain ⟨S, hS⟩ : ∃ S, S = sortI X k := ⟨_, rfl⟩
  rw [← hS] at HC
  have HS := Lib.hid (And.intro hS hk)
  clear hk hS
  go_wp2_with fail
  refine HC.out.mono ?_
  rintro e w3 ⟨rfl, hc3⟩
  clear x0 x1 hbl
  obtain ⟨x0, x1⟩ := cells2 ((H2.out.2.tr hc3).heap HW.out.1 (by simp))
  have hbl := lt_of_block ((H2.out.2.tr hc3).heap HW.out.1 (by simp))
  have H3 := Lib.hid (H2.out.2.tr hc3)
  clear hc3
  cases hz : (S == 0) with
  | true =>
   go_wp2_with fail
   go_ret
   have e : withOf X (k : Int) = [] := by unfold withOf; rw [← HS.out.1, hz]; simp
   rw [e]
   exact ⟨none, 0, rfl, World.ownsRow_nil _ _ _ _, fun _ => ⟨rfl, rfl⟩, HW.out.2.2.2.tr H3.out⟩
  | false =>
   have HD := Lib.hid (withC_any w3 ga gn gc pa pn pc VG VP X (HW.out.2.2.1.keep H3.out.kp) k HS.out.2)
   go_wp2_with fail
   refine HD.out.mono ?_
   rintro e w4 ⟨p, hp, hrow, rfl, hc4⟩
   have hO4 := ((H1.out.2.1.chg0 HW.out.2.1).chg0 H3.out).chg0 hc4
   have hf := hO4.each _ (List.getElem_mem hp)
   have e : withOf X (k : Int) = VP[p].2.2 := by unfold withOf; rw [← HS.out.1, hz, ← H2.out.1, hrow]; rfl
   have hne : VP[p].2.2 ≠ [] := fun h => by have := with_self H1.out.1.right HS.out.2; rw [← hrow, h] at this; cases this
   have H4 := Lib.hid (And.intro (row_base hf HA.out.size) (And.intro e (And.intro hne ((HW.out.2.2.2.tr H3.out).tr hc4))))
   clear hO4 hf e hc4 hrow hne x0 x1
   go_wp2_with fail
   go_ret
   rw [H4.out.2.1]
   exact ⟨VP[p].1, VP[p].2.1, rfl, H4.out.1, fun h => absurd h H4.out.2.2.1, H4.out.2.2.2⟩

set_option maxRecDepth 100000 in
set_option maxHeartbeats 4000000 in
theorem All_any (w : World) (a1 : Option Addr) (n1 c1 : Nat) (a2 : Option Addr) (n2 c2 : Nat) (g : Gr) (hg : GramAt w a1 n1 c1 a2 n2 c2 g) (hre : Reach g) :
  Calls Tryz.prog 32 #[.agg #[.slice a1 n1 c1, .slice a2 n2 c2]] w (NumsP w 22 (allI (graphG g))) := by
 obtain ⟨i0, hi0, hz0, hz1, hz2⟩ := info_parts Tryz.infoSort
 have hcA := (Chg.refl [] w).alloc (.cells #[.slice a1 n1 c1, .slice a2 n2 c2] 31)
 have HG := Lib.hid (ofC_any _ a1 n1 c1 a2 n2 c2 g (hg.keep hcA.kp) hre)
 have HA := Lib.hid hcA
 obtain ⟨X, hXd⟩ : ∃ X, X = graphG g := ⟨_, rfl⟩
 rw [← hXd] at HG ⊢
 clear hcA hg hre hXd
 go_enter Tryz.func32, Tryz.ntmps32
 go_wp2_with fail
 refine HG.out.mono ?_
 rintro e w1 ⟨ga, gc, pa, pc, VG, VP, rfl, hW, hO, hc1⟩
 obtain ⟨gn, hgn⟩ : ∃ k, k = VG.length := ⟨_, rfl⟩
 obtain ⟨pn, hpn⟩ : ∃ k, k = VP.length := ⟨_, rfl⟩
 rw [← hgn, ← hpn] at hW ⊢
 have hgx := hW.len
 have H1 := Lib.hid (And.intro hW (And.intro (hO.base (Nat.le_refl _)) (And.intro (HA.out.tr hc1) (And.intro hgx.1 (And.intro hgn hpn)))))
 have h64 := hgx.2
 clear hW hO hc1 hgn hpn hgx
 obtain ⟨W, hWd⟩ : ∃ z, z = w1.alloc (.cells #[.slice ga gn gc, .slice pa pn pc] 74) := ⟨_, rfl⟩
 have hb : W.heap[w1.heap.size]? = some (.cells #[.slice ga gn gc, .slice pa pn pc] 74 (0, 0)) := by rw [hWd]; exact heap_alloc_same _ _
 have hcW : Chg [] w1 W := by rw [hWd]; exact (Chg.refl [] w1).alloc _
 have HW := Lib.hid (And.intro hb (And.intro hcW (And.intro (H1.out.1.keep hcW.kp) (H1.out.2.2.1.tr hcW))))
 clear hb hcW
 go_wp2_with fail
 rw [← hWd]
 clear hWd
 go_loopg [11, 2] gn (fun d kv ov wr => ∃ (k oc : Nat) (oa : Option Addr), d = gn - k ∧ k ≤ gn ∧ kv = .int .i64 k ∧ ov = .slice oa k oc ∧ Hid (Chg [] W wr ∧ wr.ownsRow W.heap.size 22 1 (.slice oa k oc) k (((allI X).take k).map (Value.int .i64)) ∧ (k = 0 → oa = none)))
 case atStart => exact ⟨0, 0, none, rfl, Nat.zero_le _, rfl, rfl, Lib.hid ⟨Chg.refl _ _, World.ownsRow_nil _ _ _ _, fun _ => rfl⟩⟩
 case round =>
  obtain ⟨k, oc, oa, rfl, hk, rfl, rfl, hin⟩ := hrel
  obtain ⟨wq, rfl⟩ : ∃ z, z = wr := ⟨_, rfl⟩
  by_cases hlt : k < gn
  ·have hkx : k < X.length := by have := H1.out.2.2.2.1; omega
   obtain ⟨x0, x1⟩ := cells2 (hin.out.1.heap HW.out.1 (by simp))
   have hbl := lt_of_block (hin.out.1.heap HW.out.1 (by simp))
   obtain ⟨S, hS⟩ : ∃ S, S = sortI X k := ⟨_, rfl⟩
   have HC := Lib.hid (sortC_any wq ga gn gc pa pn pc VG VP X (HW.out.2.2.1.keep hin.out.1.kp) k hkx)
   rw [← hS] at HC
   have HS := Lib.hid (And.intro hS hkx)
   clear hS hkx
   go_wp2_with fail
   refine HC.out.mono ?_
   rintro e w3 ⟨rfl, hc3⟩
   clear x0 x1 hbl
   have hcA := (Chg.refl [] w3).alloc (.cells #[.int .i64 S] 22)
   have hrow := (hc3.tr hcA).row hin.out.2.1 (fun _ _ => by simp)
   have h1' : ∀ u ∈ [Value.int .i64 S], u.oneCell' = true := by simp [Value.oneCell']
   have h2' : k + 1 ≤ maxLen ∧ (k + 1) * 8 ≤ 140737488355328 := by simp only [maxLen]; omega
   have hnew := cells_at (w := w3.alloc (.cells #[.int .i64 S] 22)) (heap_alloc_same _ _)
   have hcq := (hin.out.1.tr hc3).tr hcA
   have H4 := Lib.hid (And.intro hrow (And.intro h1' (And.intro h2' (And.intro hnew (And.intro hcq.size hcq)))))
   clear hrow h1' h2' hnew hcA hc3 hcq
   go_wp2_with (at_builtin; refine wpList_append_own_at _ rfl _ _ 56 rfl W.heap.size 22 i0 _ 1 8 Tryz.underlying56 hi0 hz0 hz1 hz2 rfl (by decide) (.slice oa k oc) k (((allI X).take k).map (Value.int .i64)) rfl H4.out.1 ⟨w3.heap.size, 0, none⟩ 1 1 [.int .i64 S] rfl rfl H4.out.2.2.2.1 H4.out.2.1 H4.out.2.2.1.1 H4.out.2.2.1.2 H4.out.2.2.2.2.1 ?_; intro v' w5 hr5 hg5 hn5 hb5; obtain ⟨a5, c5, rfl⟩ := ownsRow_slice hr5; have HR := Lib.hid (And.intro hr5 hg5); clear hr5 hg5 hn5 hb5)
   go_roundg (gn - (k + 1))
   case measure => omega
   case rel =>
    refine ⟨k + 1, c5, a5, rfl, by omega, by go_num, rfl, Lib.hid ⟨H4.out.2.2.2.2.2.grown HR.out.2 (fun j hj => .inr (row_beyond H4.out.1 hj).1), ?_, fun h => absurd h (by omega)⟩⟩
    rw [allI_take X HS.out.2, List.map_append, ← HS.out.1]
    exact HR.out.1
  ·obtain rfl : k = gn := by omega
   go_wp2_with fail
   go_ret
   have hl : k = (allI X).length := by rw [allI_len, H1.out.2.2.2.1]
   have hr := hin.out.2.1
   rw [List.take_of_length_le (Nat.le_of_eq hl.symm), hl] at hr
   exact ⟨oa, oc, by rw [← hl]; rfl, row_base hr HW.out.2.2.2.size, fun h => hin.out.2.2 (by omega), HW.out.2.2.2.tr hin.out.1⟩

end Go.Proofs.YtlklmpjakeedcaaGreatDoor

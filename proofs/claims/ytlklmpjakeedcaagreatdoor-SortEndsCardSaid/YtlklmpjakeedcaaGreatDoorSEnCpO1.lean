/-
 The parts are put in their order, by the package.
 Conditions: the graph is right and reads as data; the search lies in memory of its own and has found the parts.
-/
import Derived.Test.YtlklmpjakeedcaaGreatDoorSEnCpO2
set_option linter.unusedVariables false
set_option linter.unusedSimpArgs false
set_option linter.unnecessarySimpa false
namespace Go.Proofs.YtlklmpjakeedcaaGreatDoor
open Go.RowKit Go.MapKept Go.Shelf

section
attribute [local go_sem] Oper.semAt_some
set_option maxRecDepth 100000 in
set_option maxHeartbeats 16000000 in
theorem order_any (w0 w : World) (sb : Nat) (ga : Option Addr) (n gc : Nat) (VG : List Is) (G : List (List Nat)) (hG : Cp.RG G) (hn : n = G.length) (hVG : VG.map (·.2.2) = Cp.intsG G) (hrows : IntRows w0 ga VG) (hgc : n ≤ gc ∧ gc ≤ 9223372036854775807)
  (s : Cp.TS) (hP : Cp.Parted G s.part s.parts) (hm : s.parts.length ≤ n) (hc : Chg [] w0 w) (h : SearchAt w0.heap.size w sb ga n gc n s) :
  Calls Tryz.prog 152 #[.pointer (some ⟨sb, 0, none⟩)] w (VisitP w0 sb ga n gc { s with part := Cp.placeR (Cp.partsR G), parts := Cp.partsR G }) := by
 have hn64 : n ≤ 64 := by rw [hn]; exact hG.few
 obtain ⟨A, M, K, P, la, lc, VS, h⟩ := h
 obtain ⟨m, hmm⟩ : ∃ m, m = VS.length := ⟨_, rfl⟩
 have hmn : m ≤ n := by rw [hmm, h.len]; exact hm
 obtain ⟨x0, -, -, -, -, x5, -⟩ := h.cells
 rw [← hmm] at x5
 have hsb := lt_of_block h.head
 have hla : m ≤ lc ∧ lc ≤ 9223372036854775807 := by
  have := h.own.row
  rw [← hmm] at this
  rcases this.2 with ⟨h0, h1⟩ | ⟨g, cap, cur, h0, _, _, h3, h4, _⟩
  ·simp only [Value.slice.injEq] at h0
   omega
  ·simp only [Value.slice.injEq] at h0
   simp only [maxLen] at h4
   omega
 have H := Lib.hid (And.intro hG (And.intro hn (And.intro hVG (And.intro hrows (And.intro hP (And.intro hm (And.intro hc (And.intro h hmm))))))))
 obtain ⟨b, hb⟩ : ∃ b, b = w.heap.size := ⟨_, rfl⟩
 have hmk1 := fun W => run_ints m (by omega) W
 have hmk2 := fun W => run_nils m (by omega) W
 have x5a : ∀ o1 o2 o3, (((w.alloc o1).alloc o2).alloc o3).cell? ⟨sb, 5, none⟩ = some (.slice la m lc) := fun o1 o2 o3 => ((((Chg.refl [] w).alloc o1).alloc o2).alloc o3).cell x5 (by simp)
 have x0a : ∀ o1 o2 o3 o4 o5, (((((w.alloc o1).alloc o2).alloc o3).alloc o4).alloc o5).cell? ⟨sb, 0, none⟩ = some (.slice ga n gc) := fun o1 o2 o3 o4 o5 => ((((((Chg.refl [] w).alloc o1).alloc o2).alloc o3).alloc o4).alloc o5).cell x0 (by simp)
 clear hG hn hVG hrows hP hm hc h hmm
 refine (callsIn_wide (n := 3)).1 ?_
 refine callsIn_of_wp_marks Tryz.func152 rfl trivial ?_ rfl
 simp only [Tryz.ntmps152, List.size_toArray, List.length_cons, List.length_nil, Nat.reduceAdd, Nat.reduceSub, Array.replicate_succ, Array.replicate_zero, List.push_toArray, List.append_toArray, List.nil_append, List.cons_append]
 refine wpIn_wide.2 ?_
 go_wp2_with fail
 refine (all_any _ _ _ _).mono ?_
 rintro e w6 ⟨rfl, rfl⟩
 simp only [← hb, World.size_alloc, Nat.add_assoc, Nat.reduceAdd]
 obtain ⟨hO, hbg, zf⟩ := ord_start w b sb m s.part (Obj.cells #[Value.slice ga n gc] 157) hb.symm (by omega)
 obtain ⟨wf, ef⟩ : ∃ wf, wf = (((((w.alloc (Obj.cells #[.pointer (some ⟨sb, 0, none⟩)] 154)).alloc (rowI (List.replicate m 0))).alloc (Obj.cells #[.slice (some ⟨b + 1, 0, none⟩) m m] 34)).alloc (rowN m)).alloc (Obj.cells #[.slice (some ⟨b + 3, 0, none⟩) m m] 36)).alloc (Obj.cells #[Value.slice ga n gc] 157) := ⟨_, rfl⟩
 rw [← ef] at hO hbg zf ⊢
 have hgives := Edges_gives w0 wf ga n gc VG G H.out.1 H.out.2.1 H.out.2.2.1 H.out.2.2.2.1 hgc (b + 5) hbg (H.out.2.2.2.2.2.2.1.tr hO.chg)
 have HO := Lib.hid (And.intro hO hgives)
 have hwf0 : w0.heap.size ≤ wf.heap.size := (H.out.2.2.2.2.2.2.1.tr HO.out.1.chg).size
 have HB := Lib.hid (And.intro hb zf)
 clear hO hgives ef hbg hmk1 hmk2 x5a x0a x0 x5 hb zf
 go_wp2_with fail
 refine (wpIn_wide (n := 3)).1 ?_
 refine range_gives (n := 3) (gf := 186) (lb := #[.pointer (some ⟨b + 5, 0, none⟩)]) rfl (enters_of Tryz.func186 (by kernel_rfl) rfl) HO.out.2 (fun pre x => Stays.pure _) ?hK (Chg.refl [] _) (fun _ => rfl)
  (fun pre W => ∃ FS, OrdAt w b sb m (Cp.lefts s.part pre) (Cp.fromO s.part pre) FS W) (fun _ _ _ => False)
  (fun pre => Stays.ex fun FS => OrdAt.stays _ (by have := HB.out.2; omega)) (fun _ _ => Stays.pure _) ?h0
  (fun x a' W => a' = { tmps := #[.pointer (some ⟨sb, 0, none⟩), .pointer (some ⟨b, 0, none⟩), .pointer (some ⟨b + 2, 0, none⟩), .pointer (some ⟨b + 4, 0, none⟩), .int .i64 x.1, .int .i64 x.2, undef, undef, undef, undef, undef, undef, undef, undef, undef, undef, undef, .pointer (some ⟨sb, 0, none⟩), .pointer (some ⟨sb, 0, none⟩), .pointer (some ⟨sb, 5, none⟩), .slice la m lc, .int .i64 m, .slice (some ⟨b + 1, 0, none⟩) m m, .pointer (some ⟨sb, 0, none⟩), .pointer (some ⟨sb, 0, none⟩), .pointer (some ⟨sb, 5, none⟩), .slice la m lc, .int .i64 m, .slice (some ⟨b + 3, 0, none⟩) m m, .pointer (some ⟨sb, 0, none⟩), .pointer (some ⟨sb, 0, none⟩), .pointer (some ⟨sb, 0, none⟩), .slice ga n gc, .func (.func 186) #[] #[.pointer (some ⟨b + 5, 0, none⟩)], .int .i64 x.1, .int .i64 x.2, undef, undef, undef, undef, undef, undef, undef, undef, undef, undef, undef, undef, undef, undef, undef, undef, undef, undef, undef, undef, undef, undef, undef, undef, undef, undef, undef, undef, undef, undef, undef, undef, undef, undef, undef, undef, undef, undef, undef, undef, undef, undef, undef, undef, undef, undef, undef, undef, undef, undef, undef, undef, undef, undef, undef, undef, undef, undef, undef, undef, undef, undef, undef, undef, undef, undef, undef, undef, undef, undef, undef, undef, undef, undef, undef, undef, undef, undef, undef, undef, undef, undef, undef, undef, undef, undef, undef, undef, undef, undef, undef, undef, undef, undef, undef, undef, undef, undef, undef, undef, undef, undef, undef, undef, undef, undef, undef, undef, undef, undef, undef, undef, undef, undef, undef, undef, undef, undef, undef, undef, undef, undef, undef, undef, undef, undef, undef, undef, undef, undef, undef, undef, undef, undef, undef, undef], defers := [] }) (fun x a' => Stays.pure _) ?assign ?body ?done ?stop
 case hK =>
  rintro pre x A A1 A2 C C' hc ht k1 ht2 hA
  obtain ⟨l1, hl1, hc1⟩ := ht.chg
  obtain ⟨l2, hl2, hc2⟩ := ht2.chg
  exact (k1 ((hA.tr hc).trans hc1 (fun j hj => .inr (by rw [List.mem_singleton.1 hj]; omega)))).trans hc2 (fun j hj => .inr (by rw [List.mem_singleton.1 hj]; omega))
 case h0 => exact ⟨_, HO.out.1⟩
 case assign =>
  rintro l pre x W K hi hx hK
  gi_wp2
  exact hK _ _ (Chg.refl _ _) rfl
 case body =>
  rintro l pre ⟨xa, xb⟩ a' W ⟨FS, hI⟩ hx rfl
  dsimp only
  obtain ⟨e1, e2⟩ := Cp.mem_edges.1 (hx.subset (show (xa, xb) ∈ pre ++ [(xa, xb)] by simp))
  have e3 := H.out.1.lt _ _ e2
  dsimp only at e1 e2 e3
  rw [← H.out.2.1] at e1 e3
  have hS := H.out.2.2.2.2.2.2.2.1.chg0 hI.chg
  obtain ⟨gp, q0, -, -, -, ep, p1, p2, xp, -, -, -⟩ := hS.putP e1 0
  obtain ⟨gp', q0', -, -, -, -, -, -, xp', -, -, -⟩ := hS.putP e3 0
  obtain rfl : gp' = gp := by rw [q0] at q0'; simpa using q0'.symm
  obtain ⟨-, -, -, -, x4, -, -⟩ := hS.cells
  rw [ep] at x4
  obtain ⟨pc, hpc⟩ : ∃ pc, pc = P.2.1 := ⟨_, rfl⟩
  rw [← hpc] at x4 p1 p2
  obtain ⟨pn, hpn⟩ : ∃ pn : Nat, s.part xa = (pn : Int) := ⟨(s.part xa).toNat, by have := H.out.2.2.2.2.1.pos xa (by rw [← H.out.2.1]; exact e1); omega⟩
  obtain ⟨qn, hqn⟩ : ∃ qn : Nat, s.part xb = (qn : Int) := ⟨(s.part xb).toNat, by have := H.out.2.2.2.2.1.pos xb (by rw [← H.out.2.1]; exact e3); omega⟩
  have hpm : pn < m := by
   have := H.out.2.2.2.2.1.most xa
   have := H.out.2.2.2.2.2.2.2.1.len
   have := H.out.2.2.2.2.2.2.2.2
   omega
  have hqm : qn < m := by
   have := H.out.2.2.2.2.1.most xb
   have := H.out.2.2.2.2.2.2.2.1.len
   have := H.out.2.2.2.2.2.2.2.2
   omega
  rw [hpn] at xp
  rw [hqn] at xp'
  have xb0 := cells1 hI.box
  have HI := Lib.hid (And.intro hI (And.intro hS (And.intro hpn (And.intro hqn (And.intro hpm hqm)))))
  have k1 := cell_rg x4
  have k2 := cell_rg xp
  have k3 := cell_rg xp'
  have k4 := cell_rg xb0
  have hxx := Lib.hid hx
  clear hI hS hpn hqn q0 q0' ep hpc x4 xp xp' xb0 hx hpm hqm
  gi_wp2_with fail
  refine round_region_quiet (by kernel_rfl) (by kernel_rfl) (by kernel_rfl) ?_
  repeat (gi_big_quiet_step (fail))
  refine wpQuietIn_nil ?_
  intro w4 hw4
  have hc4 := chg_of_rg hw4
  clear hw4 k1 k2 k3 k4
  have hI := HI.out.1.chg0 hc4
  by_cases hpq : pn = qn
  ·subst hpq
   gi_wp2_with fail
   refine ⟨keepsFrom_of_chg hc4 (by simp), fun hA => hA.tr hc4, FS, ?_⟩
   have hm := Cp.lefts_same (es := pre) (HI.out.2.2.1.trans HI.out.2.2.2.1.symm)
   rw [hm.1, hm.2]
   exact hI
  ·have hpq' : ((pn : Int) == (qn : Int)) = false := by simpa using (show ¬ ((pn : Int) = (qn : Int)) by omega)
   have hpq2 : ((pn : Int) != (qn : Int)) = true := by simpa using (show ¬ ((pn : Int) = (qn : Int)) by omega)
   have hlf := rowI_get hI.left HI.out.2.2.2.2.1
   have hlz := free_of_cells hI.left pn
   have xl := cells1 hI.bxl
   have hsm := Cp.lefts_small (part := s.part) H.out.1 (show ∃ r, pre ++ r = Cp.edges G from by obtain ⟨r, hr⟩ := hxx.out; exact ⟨[(xa, xb)] ++ r, by rw [← List.append_assoc]; exact hr⟩) pn
   obtain ⟨lv, hlv⟩ : ∃ lv, lv = Cp.lefts s.part pre pn := ⟨_, rfl⟩
   rw [← hlv] at hlf hsm
   have hw1 : IntKind.i64.wrap (lv + 1) = lv + 1 := IntWalk.i64_in _ (by omega)
   have HL := Lib.hid (And.intro hI (And.intro hlv hpq))
   have hpm := HI.out.2.2.2.2.1
   clear hI hlv hsm hpq
   gi_wp2_with fail
   obtain ⟨hO5, hc5⟩ := HL.out.1.putL pn (lv + 1)
   obtain ⟨w5, e5⟩ : ∃ w5, w5 = w4.setCell ⟨b + 1, pn, none⟩ (.int .i64 (lv + 1)) := ⟨_, rfl⟩
   rw [← e5] at hO5 hc5 ⊢
   have hqF : qn < FS.length := by rw [hO5.len]; exact HI.out.2.2.2.2.2
   obtain ⟨pq, hpqe⟩ : ∃ pq, pq = FS[qn] := ⟨_, rfl⟩
   have h5p := hO5.own.each _ (List.getElem_mem hqF)
   obtain ⟨g9, eg, -, h5c⟩ := hO5.own.at hqF
   obtain rfl : b + 3 = g9 := by simpa using eg
   rw [← hpqe] at h5p h5c
   have h5n3 : b + 3 ∉ pq.own.toList := fun hm => by
    have hm2 := Option.mem_toList.1 hm
    have := (row_beyond hO5.own.row (j := b + 3) rfl).2.2
    obtain ⟨cur, hcur⟩ := this
    exact ownsRow_ne h5p hcur (by decide) hm2
   have h5n4 : b + 4 ∉ pq.own.toList := fun hm => ownsRow_ne h5p hO5.bxf (by decide) (Option.mem_toList.1 hm)
   have h5l : pq.2.2.length ≤ 100000 := by
    have h1 := congrArg (fun l => l[qn]?) hO5.frm
    simp only [List.getElem?_map, List.getElem?_eq_getElem hqF, List.getElem?_range HI.out.2.2.2.2.2, Option.map_some, Option.some.injEq] at h1
    rw [hpqe, h1]
    have h2 := (Cp.from_small (part := s.part) H.out.1 H.out.2.2.2.2.1 qn).1
    obtain ⟨r, hr⟩ := hxx.out
    rw [← hr, List.append_assoc] at h2
    unfold Cp.fromO at h2 ⊢
    rw [List.length_map] at h2 ⊢
    rw [List.filter_append, List.length_append] at h2
    omega
   have h5B : b + 3 ≤ w5.heap.size := by have := lt_of_block hO5.bxf; omega
   have H5 := Lib.hid (And.intro hO5 (And.intro h5p (And.intro h5n3 (And.intro h5n4 (And.intro (cells1 hO5.bxf) (And.intro h5c (And.intro h5l (And.intro h5B hpqe))))))))
   have HC := Lib.hid (And.intro hc4 hc5)
   clear hO5 hc5 e5 h5p h5n3 h5n4 h5c h5l h5B hpqe eg hlf hlz xl hw1 hc4 
   refine round_region_any (by kernel_rfl) (by rintro ⟨a, w, h⟩; exact h) (by kernel_rfl) ?_
   refine wpAny_mix (by kernel_rfl) [59, 60, 61, 62, 63, 64, 65, 66, 67, 68] (by kernel_rfl) 7 8 (by decide) (by decide) (fun rI rV => match rI with | 0 => rV = .slice (some ⟨b + 3, 0, none⟩) m m | 1 => rV = .int .i64 qn | 2 => rV = .slice (some ⟨b + 3, 0, none⟩) m m | 3 => rV = .int .i64 qn | 4 => rV = .pointer (some ⟨b + 3, qn, none⟩) | 5 => rV = pq.cell | 6 => rV = .int .i64 pn | 7 => True | 8 => True | 9 => rV = .pointer (some ⟨b + 3, qn, none⟩) | _ => True) (MixF (b + 3) w5 pq pn) ?h0M6 ?hstepM6 ?hlastM6
   case h0M6 =>
    intro v u
    exact MixF.start _ _ _ _ _ _
   case hstepM6 =>
    intro rI rH us W l1 l2 hJ hl1 hl2 hw1 hdep K hK
    have hiN : rI < 10 := rH
    simp only [actU, Act.put, List.setIfInBounds_toArray, List.set_cons_succ, List.set_cons_zero, Nat.reduceAdd] at hK ⊢
    have hcq := hJ.2.1
    have y4 := hcq.cell H5.out.2.2.2.2.1 H5.out.2.2.2.1
    have y3 := hcq.cell H5.out.2.2.2.2.2.1 H5.out.2.2.1
    have hqm := HI.out.2.2.2.2.2
    rcases (show rI = 0 ∨ rI = 1 ∨ rI = 2 ∨ rI = 3 ∨ rI = 4 ∨ rI = 5 ∨ rI = 6 ∨ rI = 7 ∨ rI = 8 ∨ rI = 9 by omega) with rfl | rfl | rfl | rfl | rfl | rfl | rfl | rfl | rfl | rfl
    ·simp only [List.getD_cons_succ, List.getD_cons_zero, List.setIfInBounds_toArray, List.set_cons_succ, List.set_cons_zero] at hK ⊢
     refine wpOp_at rfl rfl ?_
     go_simp
     exact hK _ _ _ rfl hJ rfl
    ·simp only [List.getD_cons_succ, List.getD_cons_zero, List.setIfInBounds_toArray, List.set_cons_succ, List.set_cons_zero] at hK ⊢
     refine wpOp_at rfl rfl ?_
     go_simp
     exact hK _ _ _ rfl hJ rfl
    ·simp only [List.getD_cons_succ, List.getD_cons_zero, List.setIfInBounds_toArray, List.set_cons_succ, List.set_cons_zero] at hK ⊢
     refine wpOp_at rfl rfl ?_
     go_simp
     exact hK _ _ _ rfl hJ rfl
    ·simp only [List.getD_cons_succ, List.getD_cons_zero, List.setIfInBounds_toArray, List.set_cons_succ, List.set_cons_zero] at hK ⊢
     refine wpOp_at rfl rfl ?_
     go_simp
     exact hK _ _ _ rfl hJ rfl
    ·have l2 := hdep 2 (by kernel_rfl)
     replace l2 : us 2 = .slice (some ⟨b + 3, 0, none⟩) m m := l2
     have l3 := hdep 3 (by kernel_rfl)
     replace l3 : us 3 = .int .i64 qn := l3
     simp only [List.getD_cons_succ, List.getD_cons_zero, List.setIfInBounds_toArray, List.set_cons_succ, List.set_cons_zero, l2, l3] at hK ⊢
     refine wpOp_at rfl rfl ?_
     go_simp
     exact hK _ _ _ rfl hJ rfl
    ·have l4 := hdep 4 (by kernel_rfl)
     replace l4 : us 4 = .pointer (some ⟨b + 3, qn, none⟩) := l4
     simp only [List.getD_cons_succ, List.getD_cons_zero, List.setIfInBounds_toArray, List.set_cons_succ, List.set_cons_zero, l4] at hK ⊢
     refine wpOp_at rfl rfl ?_
     go_simp
     exact hK _ _ _ rfl hJ rfl
    ·simp only [List.getD_cons_succ, List.getD_cons_zero, List.setIfInBounds_toArray, List.set_cons_succ, List.set_cons_zero] at hK ⊢
     refine wpOp_at rfl rfl ?_
     go_simp
     exact hK _ _ _ rfl hJ rfl
    ·have l6 := hdep 6 (by kernel_rfl)
     replace l6 : us 6 = .int .i64 pn := l6
     simp only [List.getD_cons_succ, List.getD_cons_zero, List.setIfInBounds_toArray, List.set_cons_succ, List.set_cons_zero, l6] at hK ⊢
     obtain rfl := hl1 rfl
     refine wpOp_at rfl rfl ?_
     go_simp
     exact hK _ _ _ rfl hJ.make trivial
    ·have l5 := hdep 5 (by kernel_rfl)
     replace l5 : us 5 = pq.cell := l5
     simp only [List.getD_cons_succ, List.getD_cons_zero, List.setIfInBounds_toArray, List.set_cons_succ, List.set_cons_zero, l5] at hK ⊢
     obtain rfl := hl2 rfl
     obtain rfl := hw1 (by kernel_rfl)
     refine wpOp_at rfl rfl ?_
     refine MixF.app hJ H5.out.2.2.2.2.2.2.2.1 H5.out.2.1 H5.out.2.2.2.2.2.2.1 (.tmp 64) (.tmp 66) rfl rfl rfl ?_
     intro v W9 hv
     exact hK _ _ _ rfl hv trivial
    ·have l0 := hdep 0 (by kernel_rfl)
     replace l0 : us 0 = .slice (some ⟨b + 3, 0, none⟩) m m := l0
     have l1 := hdep 1 (by kernel_rfl)
     replace l1 : us 1 = .int .i64 qn := l1
     simp only [List.getD_cons_succ, List.getD_cons_zero, List.setIfInBounds_toArray, List.set_cons_succ, List.set_cons_zero, l0, l1] at hK ⊢
     refine wpOp_at rfl rfl ?_
     go_simp
     exact hK _ _ _ rfl hJ rfl
   case hlastM6 =>
    intro us Wm hJ hall
    have l0 := hall 0 (by decide)
    replace l0 : us 0 = .slice (some ⟨b + 3, 0, none⟩) m m := l0
    have l1 := hall 1 (by decide)
    replace l1 : us 1 = .int .i64 qn := l1
    have l2 := hall 2 (by decide)
    replace l2 : us 2 = .slice (some ⟨b + 3, 0, none⟩) m m := l2
    have l3 := hall 3 (by decide)
    replace l3 : us 3 = .int .i64 qn := l3
    have l4 := hall 4 (by decide)
    replace l4 : us 4 = .pointer (some ⟨b + 3, qn, none⟩) := l4
    have l5 := hall 5 (by decide)
    replace l5 : us 5 = pq.cell := l5
    have l6 := hall 6 (by decide)
    replace l6 : us 6 = .int .i64 pn := l6
    have l9 := hall 9 (by decide)
    replace l9 : us 9 = .pointer (some ⟨b + 3, qn, none⟩) := l9
    simp only [actU, Act.put, List.setIfInBounds_toArray, List.set_cons_succ, List.set_cons_zero, Nat.reduceAdd, l0, l1, l2, l3, l4, l5, l6, l9]
    clear hall l0 l1 l2 l3 l4 l5 l6 l9
    obtain ⟨-, hcq, -, -, h2⟩ := hJ
    obtain ⟨p9, e9, hz9, hf9, ho9⟩ := h2 rfl
    rw [e9]
    have hqF : qn < FS.length := by rw [H5.out.1.len]; exact HI.out.2.2.2.2.2
    have hpqe := H5.out.2.2.2.2.2.2.2.2
    rw [hpqe] at hcq ho9 hz9
    obtain ⟨g9, eg, -, -, cc9, ff9, -, -⟩ := H5.out.1.own.put hqF hcq hf9 ho9
    obtain rfl : b + 3 = g9 := by simpa using eg
    have hput := H5.out.1.putF hqF hcq hf9 ho9
    have H9 := Lib.hid (And.intro hput (And.intro hcq hz9))
    clear hput hcq hz9 hf9 ho9 hpqe e9 h2 eg
    refine wpOp_at rfl rfl ?_
    unfold Is.cell
    go_simp
    obtain ⟨⟨hO9, hc9⟩, hcq, hz9⟩ := H9.out
    have hcT : Chg ((b + 1) :: (b + 3) :: FS[qn].own.toList) W (Wm.setCell ⟨b + 3, qn, none⟩ p9.cell) := (((HC.out.1.any (S := (b + 1) :: (b + 3) :: FS[qn].own.toList)).trans HC.out.2 (fun j hj => .inl (by rw [List.mem_singleton.1 hj]; simp))).trans hcq (fun j hj => .inl (by simp only [List.mem_cons]; exact .inr (.inr hj)))).trans hc9 (fun j hj => .inl (by rw [List.mem_singleton.1 hj]; simp))
    have hown : ∀ k, k ∈ FS[qn].own.toList → b + 3 ≤ k ∧ ∃ cur t m, W.heap[k]? = some (.cells cur t m) := fun k hk => by
     obtain ⟨h1, -, cur, h2⟩ := row_beyond (HI.out.1.own.each _ (List.getElem_mem hqF)) (Option.mem_toList.1 hk)
     exact ⟨h1, cur, _, _, h2⟩
    have hsz := HB.out.2
    have hbw := H.out.2.2.2.2.2.2.1.size
    have hbb := HB.out.1
    refine ⟨keepsFrom_of_chg hcT (fun k hk => ?_), fun hA => hA.trans hcT (fun j hj => .inr ?_), FS.set qn p9, ?_⟩
    ·rcases List.mem_cons.1 hk with e | hk
     ·exact .inl (by omega)
     ·rcases List.mem_cons.1 hk with e | hk
      ·exact .inl (by omega)
      ·exact .inr (hown k hk).2
    ·rcases List.mem_cons.1 hj with e | hj
     ·omega
     ·rcases List.mem_cons.1 hj with e | hj
      ·omega
      ·have := (hown j hj).1; omega
    ·have hm := Cp.lefts_more (es := pre) HI.out.2.2.1 HI.out.2.2.2.1 HL.out.2.2
     rw [hm.1, hm.2, ← HL.out.2.1]
     have hzz : p9.2.2 = Cp.fromO s.part pre qn ++ [(pn : Int)] := by
      have h1 := congrArg (fun l => l[qn]?) HI.out.1.frm
      simp only [List.getElem?_map, List.getElem?_eq_getElem hqF, List.getElem?_range HI.out.2.2.2.2.2, Option.map_some, Option.some.injEq] at h1
      rw [hz9, h1]
     rw [← hzz]
     exact hO9
 case done =>
  rintro D xs W hD hS ⟨FS, hI⟩ hd
  subst hS
  rw [show Cp.lefts s.part (Cp.edges G) = Cp.leftO s.part [] (Cp.edges G) from funext (Cp.lefts_all)] at hI
  have hS := H.out.2.2.2.2.2.2.2.1.chg0 hI.chg
  obtain ⟨-, -, -, -, -, x5, -⟩ := hS.cells
  rw [← H.out.2.2.2.2.2.2.2.2] at x5
  have xb0 := cells1 hI.box
  have HI := Lib.hid (And.intro hI (And.intro hd hD))
  clear hS hI hd
  dsimp only
  go_wp2_with fail
  clear x5 xb0
  go_loopg [8, 74] m (fun d ov kv wr => ∃ (os : List Nat) (k : Nat) (oa : Option Addr) (oc : Nat), d = m - k ∧ k ≤ m ∧ kv = .int .i64 k ∧ ov = .slice oa k oc ∧ Hid (os.length = k ∧ Cp.Ord G s.part s.parts os ∧ OrdAt w b sb m (Cp.leftO s.part os (Cp.edges G)) (Cp.fromO s.part (Cp.edges G)) FS wr ∧ wr.ownsRow (b + 6) 34 1 (.slice oa k oc) k ((os.map (atV VS)).map Is.cell) ∧ wr.heap[D]? = some (.deferred (some []))))
  case atStart => exact ⟨[], 0, none, 0, rfl, Nat.zero_le _, rfl, rfl, Lib.hid ⟨rfl, Cp.ord_nil, HI.out.1, World.ownsRow_nil _ _ _ _, HI.out.2.1⟩⟩
  case round =>
   obtain ⟨os, k, oa, oc, rfl, hk, rfl, rfl, hin⟩ := hrel
   obtain ⟨wq, rfl⟩ : ∃ wz, wz = wr := ⟨_, rfl⟩
   by_cases hlt : k < m
   ·have hS := H.out.2.2.2.2.2.2.2.1.chg0 hin.out.2.2.1.chg
    obtain ⟨-, -, -, -, -, x5, -⟩ := hS.cells
    rw [← H.out.2.2.2.2.2.2.2.2] at x5
    have xb0 := cells1 hin.out.2.2.1.box
    clear hS
    go_wp2_with fail
    clear x5 xb0
    go_loopg [9, 81] m (fun d xv iv wr => ∃ (i : Nat) (x : Int), d = m - i ∧ i ≤ m ∧ iv = .int .i64 i ∧ xv = .int .i64 x ∧ Hid (Cp.Best G s.part s.parts os i x ∧ Chg [] wq wr))
    case atStart => exact ⟨0, -1, rfl, Nat.zero_le _, rfl, rfl, Lib.hid ⟨Cp.best_zero os, Chg.refl _ _⟩⟩
    case round =>
     obtain ⟨i, x, rfl, hi, rfl, rfl, hin2⟩ := hrel
     obtain ⟨ws, rfl⟩ : ∃ wz, wz = wr := ⟨_, rfl⟩
     by_cases hlt2 : i < m
     ·have hO2 := hin.out.2.2.1.chg0 hin2.out.2
      have xl := cell_rg (cells1 hO2.bxl)
      have xv := cell_rg (rowI_get hO2.left hlt2)
      have xb0 := cell_rg (cells1 hO2.box)
      obtain ⟨lv, hlv⟩ : ∃ lv, lv = Cp.leftO s.part os (Cp.edges G) i := ⟨_, rfl⟩
      rw [← hlv] at xv
      have H2 := Lib.hid (And.intro hO2 hlv)
      by_cases hl0 : lv = 0
      ·subst hl0
       have hd0 : ((0 : Int) == 0) = true := rfl
       by_cases hxn : x < 0
       ·have hd1 : decide (x < 0) = true := decide_eq_true hxn
        clear hO2 hlv
        go_wp2_with fail
        refine wp_region_quiet_below (by kernel_rfl) (by kernel_rfl) ?_
        repeat (go_big_quiet_step (fail))
        refine wpQuiet_nil ?_
        intro w6 hw6
        have hc6 := chg_of_rg hw6
        clear hw6 xl xv xb0
        go_wp2_with fail
        go_roundg (m - (i + 1))
        case measure => omega
        case rel => exact ⟨i + 1, i, rfl, by omega, by go_num, rfl, Lib.hid ⟨Cp.best_take hin2.out.1 H2.out.2.symm (.inl hxn), hin2.out.2.tr hc6⟩⟩
       ·have hd1 : decide (x < 0) = false := decide_eq_false hxn
        obtain ⟨h1, -, -⟩ := hin2.out.1.some (by omega)
        obtain ⟨xn, rfl⟩ : ∃ xn : Nat, x = (xn : Int) := ⟨x.toNat, by omega⟩
        have hxm : xn < m := by omega
        have hS := H.out.2.2.2.2.2.2.2.1.chg0 hO2.chg
        obtain ⟨-, -, -, -, -, x5, -⟩ := hS.cells
        obtain ⟨gl, g1, c1, k1, ela, y1, -, -, k10, k1c, k1m, z1, -⟩ := H.out.2.2.2.2.2.2.2.1.part_at H.out.2.2.2.2.1 (p := i) (by rw [← H.out.2.2.2.2.2.2.2.2]; exact hlt2)
        obtain ⟨gl', g2, c2, k2, ela', y2, -, -, k20, k2c, k2m, z2, -⟩ := H.out.2.2.2.2.2.2.2.1.part_at H.out.2.2.2.2.1 (p := xn) (by rw [← H.out.2.2.2.2.2.2.2.2]; exact hxm)
        rw [← H.out.2.2.2.2.2.2.2.2, ela] at x5
        obtain rfl : gl' = gl := by rw [ela] at ela'; simpa using ela'.symm
        have x5 := cell_rg x5
        have y1 := cell_rg (hO2.chg.kp.2 _ _ y1)
        have y2 := cell_rg (hO2.chg.kp.2 _ _ y2)
        have z1 := cell_rg (hO2.chg.kp.2 _ _ z1)
        have z2 := cell_rg (hO2.chg.kp.2 _ _ z2)
        obtain ⟨n1, hn1⟩ : ∃ z, z = Cp.headO s.parts i := ⟨_, rfl⟩
        obtain ⟨n2, hn2⟩ : ∃ z, z = Cp.headO s.parts xn := ⟨_, rfl⟩
        rw [← hn1] at z1
        rw [← hn2] at z2
        have HN := Lib.hid (And.intro hn1 hn2)
        clear hO2 hlv hS ela ela' hn1 hn2
        by_cases hnn : n1 < n2
        ·have hd2 : decide ((n1 : Int) < (n2 : Int)) = true := decide_eq_true (by omega)
         have hd3 : decide (n1 < n2) = true := decide_eq_true hnn
         go_wp2_with fail
         refine wp_region_quiet_below (by kernel_rfl) (by kernel_rfl) ?_
         repeat (go_big_quiet_step (fail))
         refine wpQuiet_nil ?_
         intro w6 hw6
         have hc6 := chg_of_rg hw6
         clear hw6 xl xv xb0 x5 y1 y2 z1 z2
         go_wp2_with fail
         go_roundg (m - (i + 1))
         case measure => omega
         case rel => exact ⟨i + 1, i, rfl, by omega, by go_num, rfl, Lib.hid ⟨Cp.best_take hin2.out.1 H2.out.2.symm (.inr (by rw [Int.toNat_natCast, ← HN.out.1, ← HN.out.2]; exact hnn)), hin2.out.2.tr hc6⟩⟩
        ·have hd2 : decide ((n1 : Int) < (n2 : Int)) = false := decide_eq_false (by omega)
         have hd3 : decide (n1 < n2) = false := decide_eq_false hnn
         go_wp2_with fail
         refine wp_region_quiet_below (by kernel_rfl) (by kernel_rfl) ?_
         repeat (go_big_quiet_step (fail))
         refine wpQuiet_nil ?_
         intro w6 hw6
         have hc6 := chg_of_rg hw6
         clear hw6 xl xv xb0 x5 y1 y2 z1 z2
         go_wp2_with fail
         go_roundg (m - (i + 1))
         case measure => omega
         case rel => exact ⟨i + 1, xn, rfl, by omega, by go_num, rfl, Lib.hid ⟨Cp.best_keep hin2.out.1 (by omega) (by rw [Int.toNat_natCast, ← HN.out.1, ← HN.out.2]; omega), hin2.out.2.tr hc6⟩⟩
      ·have hd0 : (lv == 0) = false := by simpa using hl0
       have hd1 : decide (lv = 0) = false := decide_eq_false hl0
       clear hO2 hlv
       go_wp2_with fail
       refine wp_region_quiet_below (by kernel_rfl) (by kernel_rfl) ?_
       repeat (go_big_quiet_step (fail))
       refine wpQuiet_nil ?_
       intro w6 hw6
       have hc6 := chg_of_rg hw6
       clear hw6 xl xv xb0
       go_wp2_with fail
       go_roundg (m - (i + 1))
       case measure => omega
       case rel => exact ⟨i + 1, x, rfl, by omega, by go_num, rfl, Lib.hid ⟨Cp.best_skip hin2.out.1 (by rw [← H2.out.2]; exact hl0), hin2.out.2.tr hc6⟩⟩
     ·obtain rfl : i = m := by omega
      have hmv := H.out.2.2.2.2.2.2.2.2
      have hlen := H.out.2.2.2.2.2.2.2.1.len
      have hbest := hin2.out.1
      rw [hmv, hlen] at hbest
      obtain ⟨q, rfl, hnx⟩ := Cp.best_next H.out.1 H.out.2.2.2.2.1 hin.out.2.1 (by rw [hin.out.1]; omega) hbest
      have hqm : q < i := by have := hnx.1; omega
      have hO2 := hin.out.2.2.1.chg0 hin2.out.2
      have hqF : q < FS.length := by rw [hO2.len]; exact hqm
      have xl := cells1 hO2.bxl
      have xv := rowI_get hO2.left hqm
      have xz := free_of_cells hO2.left q
      obtain ⟨g9, eg, -, h3c⟩ := hO2.own.at hqF
      obtain rfl : b + 3 = g9 := by simpa using eg
      have hfr : FS[q].2.2 = Cp.fromO s.part (Cp.edges G) q := by
       have h1 := congrArg (fun l => l[q]?) hO2.frm
       simpa only [List.getElem?_map, List.getElem?_eq_getElem hqF, List.getElem?_range hqm, Option.map_some, Option.some.injEq] using h1
      have h3r := hO2.own.each _ (List.getElem_mem hqF)
      obtain ⟨fa, fc, zs, hV⟩ : ∃ fa fc zs, FS[q] = (fa, fc, zs) := ⟨_, _, _, rfl⟩
      rw [hV] at h3c hfr h3r
      dsimp only at hfr h3r
      subst hfr
      obtain ⟨f, hf⟩ : ∃ f, f = Cp.fromO s.part (Cp.edges G) q := ⟨_, rfl⟩
      rw [← hf] at h3c h3r
      obtain ⟨fl, hfl⟩ : ∃ fl, fl = f.length := ⟨_, rfl⟩
      rw [Is.cell] at h3c
      dsimp only at h3c
      rw [← hfl] at h3c
      have xf := cells1 hO2.bxf
      have hsm := Cp.from_small (part := s.part) H.out.1 H.out.2.2.2.2.1 q
      rw [← hf] at hsm
      have hfl4 : fl ≤ 4096 := by rw [hfl]; exact hsm.1
      have HQ := Lib.hid (And.intro hnx (And.intro hO2 (And.intro h3r (And.intro hf (And.intro hfl (And.intro hsm hlen))))))
      clear hbest hnx hO2 hmv hlen h3r hf hfl hsm hV eg
      go_wp2_with fail
      obtain ⟨hO3, hc3⟩ := HQ.out.2.1.putL q (-1)
      obtain ⟨w3, e3⟩ : ∃ w3, w3 = ws.setCell ⟨b + 1, q, none⟩ (.int .i64 (-1)) := ⟨_, rfl⟩
      rw [← e3] at hO3 hc3 ⊢
      have hd3 := hc3.heap (hin2.out.2.heap hin.out.2.2.2.2 (by simp)) (by have := HB.out.2; have := HI.out.2.2; simp; omega)
      have ho3 := hc3.row (hin2.out.2.row hin.out.2.2.2.1 (fun _ _ => by simp)) (fun j hj hm => by
       have := (row_beyond (hin2.out.2.row hin.out.2.2.2.1 (fun _ _ => by simp)) hj).1
       rw [List.mem_singleton.1 hm] at this; omega)
      have h3r := hc3.row HQ.out.2.2.1 (fun j hj hm => by
       have := (row_beyond HQ.out.2.2.1 hj).1
       rw [List.mem_singleton.1 hm] at this; omega)
      have H3 := Lib.hid (And.intro hO3 (And.intro h3r (And.intro hd3 ho3)))
      clear hO3 h3r hd3 ho3 hc3 e3 xl xv xz xf h3c
      go_loopg [124] fl (fun d jv wr => ∃ j : Nat, d = fl - j ∧ j ≤ fl ∧ jv = .int .i64 j ∧ Hid (OrdAt w b sb i (Cp.decO (Cp.upd (Cp.leftO s.part os (Cp.edges G)) q (-1)) (f.take j)) (Cp.fromO s.part (Cp.edges G)) FS wr ∧ wr.ownsRow (b + 6) 34 1 (.slice oa k oc) k ((os.map (atV VS)).map Is.cell) ∧ wr.heap[D]? = some (.deferred (some [])) ∧ Chg [b + 1] w3 wr))
      case atStart => exact ⟨0, rfl, Nat.zero_le _, rfl, Lib.hid ⟨H3.out.1, H3.out.2.2.2, H3.out.2.2.1, Chg.refl _ _⟩⟩
      case round =>
       obtain ⟨j, rfl, hj, rfl, hin3⟩ := hrel
       obtain ⟨wt, rfl⟩ : ∃ wz, wz = wr := ⟨_, rfl⟩
       by_cases hlt3 : j < fl
       ·have hjf : j < f.length := by rw [← HQ.out.2.2.2.2.1]; exact hlt3
        obtain ⟨y1, y2⟩ := HQ.out.2.2.2.2.2.1.2 f[j] (List.getElem_mem hjf)
        obtain ⟨pn, hpn⟩ : ∃ pn : Nat, f[j] = (pn : Int) := ⟨f[j].toNat, by omega⟩
        have hpm : pn < i := by have := HQ.out.2.2.2.2.2.2; have := H.out.2.2.2.2.2.2.2.2; omega
        have hrw := hin3.out.2.2.2.row H3.out.2.1 (fun j hj hm => by
         have := (row_beyond HQ.out.2.2.1 hj).1
         rw [List.mem_singleton.1 hm] at this; omega)
        have hz := (ownInts_read (FreshInts.own hrw)).1 j hjf
        obtain ⟨bz, oz, rfl, hz⟩ := hz
        rw [hpn] at hz
        have xl := cells1 hin3.out.1.bxl
        have xv := rowI_get hin3.out.1.left hpm
        have xz := free_of_cells hin3.out.1.left pn
        obtain ⟨lv, hlv⟩ : ∃ lv, lv = Cp.decO (Cp.upd (Cp.leftO s.part os (Cp.edges G)) q (-1)) (f.take j) pn := ⟨_, rfl⟩
        have hlvs : -5000 ≤ lv ∧ lv ≤ 4096 := by
         rw [hlv]
         refine Cp.decO_small _ _ (fun x hx => (HQ.out.2.2.2.2.2.1.2 x (List.mem_of_mem_take hx)).1) _ ?_ (by rw [List.length_take]; omega)
         have := Cp.leftO_small (part := s.part) H.out.1 os pn
         unfold Cp.upd
         split <;> omega
        rw [← hlv] at xv
        have hw1 : IntKind.i64.wrap (lv - 1) = lv - 1 := IntWalk.i64_in _ (by omega)
        have HJ := Lib.hid (And.intro hlv hpn)
        clear hlv hpn hrw
        go_wp2_with fail
        go_roundg (fl - (j + 1))
        case measure => omega
        case rel =>
         obtain ⟨hO4, hc4⟩ := hin3.out.1.putL pn (lv - 1)
         have hjf : j < f.length := by rw [← HQ.out.2.2.2.2.1]; exact hlt3
         refine ⟨j + 1, rfl, by omega, by go_num, Lib.hid ⟨?_, hc4.row hin3.out.2.1 (fun j hj hm => ?_), hc4.heap hin3.out.2.2.1 (by have := HB.out.2; have := HI.out.2.2; simp; omega), hin3.out.2.2.2.tr hc4⟩⟩
         ·rw [Cp.decO_take hjf, HJ.out.2, Int.toNat_natCast, ← HJ.out.1]; exact hO4
         ·have := (row_beyond hin3.out.2.1 hj).1
          rw [List.mem_singleton.1 hm] at this; omega
       ·obtain rfl : j = fl := by omega
        have hO4 := hin3.out.1
        rw [HQ.out.2.2.2.2.1, List.take_length, HQ.out.2.2.2.1, show Cp.decO (Cp.upd (Cp.leftO s.part os (Cp.edges G)) q (-1)) (Cp.fromO s.part (Cp.edges G) q) = Cp.leftO s.part (os ++ [q]) (Cp.edges G) from funext (Cp.dec_all H.out.1 H.out.2.2.2.2.1 hin.out.2.1 HQ.out.1)] at hO4
        have hqV : q < VS.length := by rw [← H.out.2.2.2.2.2.2.2.2]; exact hqm
        have hS := H.out.2.2.2.2.2.2.2.1.chg0 hO4.chg
        obtain ⟨-, -, -, -, -, x5, -⟩ := hS.cells
        obtain ⟨gl, g1, c1, k1, rfl, y1, yc, -, -, -, -, -, -⟩ := hS.part_at H.out.2.2.2.2.1 (p := q) hqV
        rw [← H.out.2.2.2.2.2.2.2.2] at x5
        have xb0 := cells1 hO4.box
        obtain ⟨iN, hiN, hz0, hz1, hz2⟩ := info_parts Tryz.infoInts
        have hcA := (Chg.refl [] wt).alloc (Obj.cells #[.slice (some ⟨g1, 0, none⟩) k1 c1] 34)
        have hrowA := hcA.row hin3.out.2.1 (fun _ _ => by simp)
        have hb1 : ∀ u ∈ [Value.slice (some ⟨g1, 0, none⟩) k1 c1], u.oneCell' = true := by simp [Value.oneCell']
        have hb2 : k + 1 ≤ maxLen ∧ (k + 1) * 24 ≤ 140737488355328 := by simp only [maxLen]; omega
        have hnew := cells_at (w := wt.alloc (Obj.cells #[.slice (some ⟨g1, 0, none⟩) k1 c1] 34)) (heap_alloc_same _ _)
        have hszA : b + 6 ≤ (wt.alloc (Obj.cells #[.slice (some ⟨g1, 0, none⟩) k1 c1] 34)).heap.size := by
         have h1 := hcA.size
         have h2 : D < wt.heap.size := lt_of_block hin3.out.2.2.1
         have := HB.out.2; have := HI.out.2.2
         omega
        have H8 := Lib.hid (And.intro hrowA (And.intro hb1 (And.intro hb2 (And.intro hnew (And.intro hszA (And.intro hcA (And.intro hO4 (And.intro hqV yc))))))))
        clear hrowA hb1 hb2 hnew hszA hcA hO4 yc hS
        go_wp2_with (at_builtin; refine wpList_append_own_at _ rfl _ _ 36 rfl (b + 6) 34 iN _ 1 24 Tryz.underlying36 hiN hz0 hz1 hz2 rfl (by decide) (.slice oa k oc) k ((os.map (atV VS)).map Is.cell) rfl H8.out.1 ⟨wt.heap.size, 0, none⟩ 1 1 [.slice (some ⟨g1, 0, none⟩) k1 c1] rfl rfl H8.out.2.2.2.1 H8.out.2.1 H8.out.2.2.1.1 H8.out.2.2.1.2 H8.out.2.2.2.2.1 ?_; intro v' w8 hr5 hg5 hn5 hb5; obtain ⟨a5, c5, rfl⟩ := ownsRow_slice hr5; have HW := Lib.hid (And.intro hr5 (And.intro hg5 hb5)); clear hr5 hg5 hn5 hb5)
        go_roundg (i - (k + 1))
        case measure => omega
        case rel =>
         have hrow := H8.out.1
         have hgr := HW.out.2.1
         have hcg : Chg (Value.slice oa k oc).ownBlock.toList wt w8 := (H8.out.2.2.2.2.2.1.any).tr ((Chg.refl _ _).grown hgr (fun j hj => .inl (by rw [hj]; simp)))
         have hown : ∀ j, j ∈ (Value.slice oa k oc).ownBlock.toList → b + 6 ≤ j ∧ NotRow wt 3 j ∧ ∃ cur, wt.heap[j]? = some (.cells cur 34 (0, 0)) := fun j hj => by
          obtain ⟨h1, -, h2⟩ := row_beyond hin3.out.2.1 (Option.mem_toList.1 hj)
          exact ⟨h1, row_notrow hin3.out.2.1 (Option.mem_toList.1 hj) (by decide), h2⟩
         refine ⟨os ++ [q], k + 1, a5, c5, rfl, by omega, by go_num, rfl, Lib.hid ⟨?_, Cp.ord_next H.out.1 H.out.2.2.2.2.1 hin.out.2.1 HQ.out.1, H8.out.2.2.2.2.2.2.1.keep hcg (fun j hj => ⟨by have := (hown j hj).1; omega, (hown j hj).2.1⟩), ?_, hcg.heap hin3.out.2.2.1 (fun hm => ?_)⟩⟩
         ·rw [List.length_append, hin.out.1]; rfl
         ·have := HW.out.1
          rw [← H8.out.2.2.2.2.2.2.2.2] at this
          rw [List.map_append, List.map_append, List.map_singleton, List.map_singleton, atV_eq H8.out.2.2.2.2.2.2.2.1]
          exact this
         ·obtain ⟨cur, h2⟩ := (hown D hm).2.2
          rw [hin3.out.2.2.1] at h2
          cases h2
   ·obtain rfl : k = m := by omega
    have hmv := H.out.2.2.2.2.2.2.2.2
    have hlen := H.out.2.2.2.2.2.2.2.1.len
    obtain ⟨eL, hT, -⟩ := Cp.told_of H.out.1 H.out.2.2.2.2.1 hin.out.2.1 (by rw [hin.out.1, hmv, hlen])
    obtain ⟨L, hL⟩ : ∃ L, L = Cp.partsR G := ⟨_, rfl⟩
    rw [← hL] at eL hT ⊢
    have hS := H.out.2.2.2.2.2.2.2.1.chg0 hin.out.2.2.1.chg
    obtain ⟨-, -, -, -, -, x5, -⟩ := hS.cells
    rw [← hmv] at x5
    have x5f := hS.free 5
    have xb0 := cells1 hin.out.2.2.1.box
    have hLl : L.length = k := by rw [eL, List.length_map, hin.out.1]
    have hb0 : w0.heap.size ≤ b + 6 := by have := H.out.2.2.2.2.2.2.1.size; have := HB.out.1; omega
    obtain ⟨hS7, hc7⟩ := hS.turnV (os := os) (oa := oa) (oc := oc) (fun p hp => by have := hin.out.2.1.lt p hp; omega) hin.out.2.1.nodup (by rw [hin.out.1]; exact row_base hin.out.2.2.2.1 hb0)
    rw [hin.out.1, ← eL] at hS7
    rw [hin.out.1] at hc7
    obtain ⟨VS', hVS'⟩ : ∃ VS', VS' = os.map (atV VS) := ⟨_, rfl⟩
    have hVl : VS'.length = k := by rw [hVS', List.length_map, hin.out.1]
    rw [← hVS'] at hS7
    have H7 := Lib.hid (And.intro hS7 (And.intro hc7 (And.intro hT (And.intro hLl (And.intro hVl (And.intro hS hL))))))
    clear hS7 hc7 hT hLl hVl hS hmv hlen eL hVS' hb0 hL
    go_wp2_with fail
    obtain ⟨w7, e7⟩ : ∃ w7, w7 = wq.setCell ⟨sb, 5, none⟩ (.slice oa k oc) := ⟨_, rfl⟩
    rw [← e7]
    have h7 : (∃ P' : Is, SearchIs w0.heap.size w7 sb ga n gc n A M K P' oa oc VS' { s with part := Cp.mixO L s.part 0 0, parts := L }) ∧ Chg [] w0 w7 ∧ w7.heap[b]? = some (.cells #[.pointer (some ⟨sb, 0, none⟩)] 154 (0, 0)) ∧ w7.heap[D]? = some (.deferred (some [])) := by
     have hsb : sb < w.heap.size := lt_of_block H.out.2.2.2.2.2.2.2.1.head
     have hbb := HB.out.1
     rw [e7, Cp.mixO_zero]
     refine ⟨⟨P, H7.out.1⟩, (H.out.2.2.2.2.2.2.1.tr hin.out.2.2.1.chg).trans H7.out.2.1 (fun j hj => .inr (by rw [List.mem_singleton.1 hj]; exact H.out.2.2.2.2.2.2.2.1.low)), H7.out.2.1.heap hin.out.2.2.1.box (by simp; omega), H7.out.2.1.heap hin.out.2.2.2.2 (by have := HB.out.2; have := HI.out.2.2; simp; omega)⟩
    have H8 := Lib.hid h7
    clear h7 e7 x5 x5f xb0
    go_loopg [152] k (fun d pv wr => ∃ p : Nat, d = k - p ∧ p ≤ k ∧ pv = .int .i64 p ∧ Hid ((∃ P' : Is, SearchIs w0.heap.size wr sb ga n gc n A M K P' oa oc VS' { s with part := Cp.mixO L s.part p 0, parts := L }) ∧ Chg [] w0 wr ∧ wr.heap[b]? = some (.cells #[.pointer (some ⟨sb, 0, none⟩)] 154 (0, 0)) ∧ wr.heap[D]? = some (.deferred (some []))))
    case atStart => exact ⟨0, rfl, Nat.zero_le _, rfl, H8⟩
    case round =>
     obtain ⟨p, rfl, hp, rfl, hin2⟩ := hrel
     obtain ⟨ws, rfl⟩ : ∃ wz, wz = wr := ⟨_, rfl⟩
     by_cases hlt2 : p < k
     ·obtain ⟨⟨P', hS8⟩, -, -, -⟩ := hin2.out
      have hpV : p < VS'.length := by rw [H7.out.2.2.2.2.1]; exact hlt2
      have hpL : p < L.length := by rw [H7.out.2.2.2.1]; exact hlt2
      obtain ⟨go, rfl, -, hgc⟩ := hS8.own.at hpV
      have hrow := hS8.part_row hpV
      obtain ⟨ra, rc, zs, hV⟩ : ∃ ra rc zs, VS'[p] = (ra, rc, zs) := ⟨_, _, _, rfl⟩
      rw [hV] at hgc hrow
      dsimp only at hrow
      subst hrow
      obtain ⟨rl, hrl⟩ : ∃ rl, rl = (L.getD p []).length := ⟨_, rfl⟩
      rw [Is.cell] at hgc
      dsimp only at hgc
      rw [natI_len, ← hrl] at hgc
      have hrl64 : rl ≤ 9223372036854775807 := by
       have := hS8.own.each _ (List.getElem_mem hpV)
       rw [hV] at this
       obtain ⟨-, -, q1, q2⟩ := ownInts_read (FreshInts.own this)
       rw [natI_len, ← hrl] at q1
       simp only [maxLen] at q1 q2
       omega
      have H9 := Lib.hid (And.intro hpV (And.intro hpL (And.intro hV hrl)))
      clear hS8 hrl
      go_wp2_with fail
      clear hgc
      go_loopg [159] rl (fun d kv wr => ∃ kk : Nat, d = rl - kk ∧ kk ≤ rl ∧ kv = .int .i64 kk ∧ Hid ((∃ P' : Is, SearchIs w0.heap.size wr sb ga n gc n A M K P' (some ⟨go, 0, none⟩) oc VS' { s with part := Cp.mixO L s.part p kk, parts := L }) ∧ Chg [] w0 wr ∧ wr.heap[b]? = some (.cells #[.pointer (some ⟨sb, 0, none⟩)] 154 (0, 0)) ∧ wr.heap[D]? = some (.deferred (some []))))
      case atStart => exact ⟨0, rfl, Nat.zero_le _, rfl, hin2⟩
      case round =>
       obtain ⟨kk, rfl, hkk, rfl, hin3⟩ := hrel
       obtain ⟨wt, rfl⟩ : ∃ wz, wz = wr := ⟨_, rfl⟩
       by_cases hlt3 : kk < rl
       ·obtain ⟨⟨P', hS8⟩, hc8, hbx8, hd8⟩ := hin3.out
        have hkl : kk < (L.getD p []).length := by rw [← H9.out.2.2.2]; exact hlt3
        obtain ⟨a, haa⟩ : ∃ a, a = (L.getD p [])[kk] := ⟨_, rfl⟩
        obtain ⟨ha1, ha2⟩ := Cp.told_place H7.out.2.2.1 H9.out.2.1 (List.getElem_mem hkl)
        rw [← haa, ← H.out.2.1] at ha2
        have hrw := hS8.own.each _ (List.getElem_mem H9.out.1)
        rw [H9.out.2.2.1] at hrw
        obtain ⟨bz, oz, rfl, hz⟩ := (ownInts_read (FreshInts.own hrw)).1 kk (by rw [natI_len]; exact hkl)
        have hz' : wt.cell? ⟨bz, oz + kk, none⟩ = some (.int .i64 (a : Nat)) := by rw [hz, haa]; simp [natI]
        obtain ⟨gp, q0, gne, glo, glt, ep, p1, p2, xp, fp, cp, P'', ep'', hS9⟩ := hS8.putP ha2 p
        obtain ⟨-, -, -, -, x4, -, -⟩ := hS8.cells
        rw [ep] at x4
        obtain ⟨pc, hpc⟩ : ∃ pc, pc = P'.2.1 := ⟨_, rfl⟩
        rw [← hpc] at x4 p1 p2
        have xb0 := cells1 hbx8
        have hsucc := Cp.mixO_succ H7.out.2.2.1 s.part H9.out.2.1 hkl
        rw [← haa] at hsucc
        have hbne : b ∉ [gp] := fun hm => by
         rw [List.mem_singleton.1 hm] at hbx8
         have hr := hS8.rP
         unfold FreshInts at hr
         rw [q0] at hr
         exact ownsRow_ne hr hbx8 (by decide) rfl
        have hDne : D ∉ [gp] := fun hm => by
         rw [List.mem_singleton.1 hm] at hd8
         have hr := hS8.rP
         unfold FreshInts at hr
         rw [q0] at hr
         obtain ⟨-, -, cur, hcur⟩ := row_beyond hr (j := gp) rfl
         rw [hd8] at hcur
         cases hcur
        have HK := Lib.hid (And.intro hS9 (And.intro hsucc (And.intro (hc8.trans cp (fun j hj => .inr (by rw [List.mem_singleton.1 hj]; exact glo))) (And.intro (cp.heap hbx8 hbne) (cp.heap hd8 hDne)))))
        clear hS8 hS9 hsucc hc8 cp hbx8 hd8 hbne hDne haa ha1 hrw hz q0 ep ep'' hpc
        go_wp2_with fail
        go_roundg (rl - (kk + 1))
        case measure => omega
        case rel => exact ⟨kk + 1, rfl, by omega, by go_num, Lib.hid ⟨⟨P'', by rw [HK.out.2.1]; exact HK.out.1⟩, HK.out.2.2⟩⟩
       ·obtain rfl : kk = rl := by omega
        go_wp2_with fail
        go_roundg (k - (p + 1))
        case measure => omega
        case rel => exact ⟨p + 1, rfl, by omega, by go_num, Lib.hid (by rw [Cp.mixO_row H7.out.2.2.1 s.part H9.out.2.1, ← H9.out.2.2.2]; exact hin3.out)⟩
     ·obtain rfl : p = k := by omega
      go_wp2_with fail
      obtain ⟨⟨P', hS8⟩, hc8, -, hd8⟩ := hin2.out
      change bodyPostM Fence.wide 3 _ _ _ .ret _ _
      refine leave_one (v := .tuple #[]) (B := wf.heap.size) (I := fun W' => SearchIs w0.heap.size W' sb ga n gc n A M K P' oa oc VS' { s with part := Cp.mixO L s.part p 0, parts := L } ∧ Chg [] w0 W') hd8 hD ((SearchIs.stays _).and (Stays.since _ _ _ hwf0)) ⟨hS8, hc8⟩ ?_
      rintro W' ⟨hS9, hc9⟩
      refine ⟨by simp [results, Tryz.results152, go_sem], rfl, ⟨A, M, K, P', oa, oc, VS', ?_⟩, hc9⟩
      have hL := H7.out.2.2.2.2.2.2
      rw [hL] at hS9
      refine hS9.partF (f := Cp.placeR (Cp.partsR G)) (fun a ha => ?_)
      have := Cp.mixO_all H7.out.2.2.1 s.part (a := a) (by rw [← H.out.2.1]; exact ha)
      rw [H7.out.2.2.2.1, hL] at this
      exact this
 case stop =>
  rintro D c pre W hD _ h _
  exact h.elim
end
end Go.Proofs.YtlklmpjakeedcaaGreatDoor
